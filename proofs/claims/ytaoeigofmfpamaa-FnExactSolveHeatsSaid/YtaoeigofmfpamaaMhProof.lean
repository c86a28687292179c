/- The Go function laws.FnExactSolveHeats returns true, whatever its arguments. No condition. -/
import Derived.Test.YtaoeigofmfpamaaRows
import Derived.WalkKit
import Derived.ProofKit
import Derived.OpenShut
import Derived.Test.YtaoeigofmfpamaaMhF
namespace Go.Proofs.Ytaoeigofmfpamaa.fnExactSolveHeats
open Go.ChangeShapes Go.WideShapes Go.ChangeAt Go.RowKit

theorem own : ownKnob Try.prog.godebug = none := by kernel_rfl
theorem kids : Kids Try.prog (· < Try.prog.types.size) := kids_rows (by kernel_rfl) (by kernel_rfl)
theorem full : ∀ t e, t < Try.prog.types.size → Try.prog.underlying t = some (.slice e) → 0 < Try.prog.cellsOf e := slices_full_of Try.prog (by kernel_rfl)

set_option maxRecDepth 100000 in
theorem walk {H : Type} (enc : TypeId × Value → H) (W : World) (args : Array Value) {base : Nat} {ds : List (DataW H)} {p : List MemPlace} (hn : args.size = 2) (hval : ∀ (j : Nat) t v, #[54, 22][j]? = some t → args[j]? = some v → Value.okWide Try.prog W .any base t v)
    (hA : DataW.TrodAll enc Try.prog W 0 (fun _ => true) true Try.f7.params.toList args.toList ds p) : Calls Try.prog 7 args W fun e w' => e = .returned (.bool true) ∧ Grown W w' := by
  obtain ⟨l⟩ := args
  match l, hn with
  | [v0, v1], _ =>
    rw [Try.params7] at hA
    match ds, hA with
    | [_, _], hA =>
    obtain ⟨p0, q0, ⟨g0, t0⟩, hA, _⟩ := hA
    obtain ⟨p1, q1, ⟨g1, t1⟩, hA, _⟩ := hA
    obtain ⟨ba0, ln0, cp0, rfl⟩ := okWide_slice Try.underlying54 (hval 0 54 v0 rfl rfl)
    obtain ⟨n, cell, h0, hr⟩ := ss_arg (P := Try.prog) (t := 54) (e := 22) Try.underlying54 (e' := 28) Try.underlying22 (by kernel_rfl) t0
    obtain ⟨ba1, ln1, cp1, rfl⟩ := okWide_slice Try.underlying22 (hval 1 22 v1 rfl rfl)
    obtain ⟨n1, F1, G1, B1, hsl1⟩ := sl_arg (P := Try.prog) (t := 22) (e := 28) Try.underlying22 (d := 5) (ts := SlFloat32.ts) (by kernel_rfl) (by kernel_rfl) (by decide) (by rfl) t1
    refine law_args h0 (fun i hi => ?_) hsl1
    obtain ⟨_, nn, x, hx⟩ := hr i hi
    obtain ⟨n2, F2, G2, B2, hsl2⟩ := sl_arg (P := Try.prog) (t := 22) (e := 28) Try.underlying22 (d := 5) (ts := SlFloat32.ts) (by kernel_rfl) (by kernel_rfl) (by decide) (by rfl) hx
    exact ⟨n2, F2, G2, B2, hsl2⟩

theorem fn_eq {H : Type} {ds : List (DataW H)} (h : ds.length = 2) : (Rows.fnExactSolveHeatsSpec.fn H (ds ++ [])).results = [.lit (.bool true)] ∧ (Rows.fnExactSolveHeatsSpec.fn H (ds ++ [])).args = ds ∧ (Rows.fnExactSolveHeatsSpec.fn H (ds ++ [])).vars = [] := by
  match ds, h with
  | [_, _], _ => exact ⟨rfl, rfl, rfl⟩

/-! ### the row's step -/
set_option maxRecDepth 100000 in
theorem lifted (os : Os) (started : os.Started) (H : Type) (enc : TypeId × Value → H) :
    ReturnsInHanded {} Try.checked os 7 .any (Rows.fnExactSolveHeatsSpec.pre6 enc Try.prog Try.f7 Rows.fnExactSolveHeatsRow.domain false) (Rows.fnExactSolveHeatsSpec.post enc Try.prog Try.f7 false true false false) := by
  refine returnsInHanded_of_change (C := Try.checked) own started (by kernel_rfl) Try.func7
    (ChangeSpec.witness6 (enc := enc) (C := Try.checked) false ⟨#[], #[.slice none 0 0, .slice none 0 0], []⟩ 8 (by kernel_rfl) (by kernel_rfl) (by kernel_rfl) (by kernel_rfl)) ?_
  intro W base args ds gs before hval0 hW hcnd _
  have hval : ∀ (j : Nat) t v, Try.f7.params[j]? = some t → args[j]? = some v → Value.okWide Try.prog W .any base t v := hval0
  have hW' := hW
  obtain ⟨p, q, hA0, hV, rfl, hfz, hnd⟩ := hW
  have hA : DataW.TrodAll enc Try.prog W 0 (fun _ => true) true Try.f7.params.toList args.toList ds p := hA0
  obtain ⟨rfl, rfl⟩ := trodVars_none hV
  obtain ⟨hl1, hl2⟩ := trodAll_len hA
  have hlt := hW'.lt
  rw [Try.params7] at hl1 hl2 hval
  have hfn := fn_eq (H := H) (ds := ds) hl2
  refine (walk enc W args (by simpa using hl1) hval hA).mono fun e W' ⟨he, hg⟩ => ?_
  subst he
  exact ⟨_, rfl, post_of_same (pv := []) hW' (fun _ _ _ => by rw [hfn.1]; exact trodAll_cons_mk (shut_bool Try.underlying4 _) trodAll_mk0)
    (fun sp hsp => by rw [hfn.2.1]; exact args_stay kids full hg (by rw [Try.params7]; decide +kernel) hA (fun p hp => hlt p (by simpa using hp)) (fun p hp => hsp p (by simpa using hp)))
    (fun _ _ => by rw [hfn.2.2]; rfl) (by simp) (hg.frame _) hg.2.1 (ok_one (by kernel_rfl) rfl (okWide_bool_mk Try.underlying4 _))⟩

theorem over : Rows.fnExactSolveHeatsRow.holds Try.pinned (OpenSpec.ofChange Rows.fnExactSolveHeatsSpec) :=
  OpenClaim.holds_of_wide 7 Try.f7 rfl rfl rfl rfl rfl rfl rfl ⟨rfl, rfl, rfl, rfl, rfl⟩ rfl rfl rfl rfl rfl (by kernel_rfl) Try.func7 (by kernel_rfl)
    (of_decide_eq_true (by kernel_rfl)) (by unfold Func.isWrapper; first | (rw [if_pos (by decide +kernel)]; kernel_rfl) | (rw [if_neg (by decide +kernel)]; exact ⟨rfl, rfl⟩))
    (fun os started H enc _ => lifted os started H enc)

theorem proved : Rows.FnExactSolveHeatsSaid :=
  over
#print axioms proved
end Go.Proofs.Ytaoeigofmfpamaa.fnExactSolveHeats
