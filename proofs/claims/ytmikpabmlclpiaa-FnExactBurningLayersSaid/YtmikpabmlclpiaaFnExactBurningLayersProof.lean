/- The Go function laws.FnExactBurningLayers returns true, whatever its arguments. No condition. -/
import Derived.Test.YtmikpabmlclpiaaRows
import Derived.Test.YtmikpabmlclpiaaBly
import Derived.WalkKit
import Derived.ProofKit
import Derived.OpenShut
namespace Go.Proofs.Ytmikpabmlclpiaa.fnExactBurningLayers
open Go.ChangeShapes Go.WideShapes Go.ChangeAt Go.RowKit

theorem own : ownKnob Try.prog.godebug = none := by kernel_rfl
theorem kids : Kids Try.prog (· < Try.prog.types.size) := kids_rows (by kernel_rfl) (by kernel_rfl)
theorem full : ∀ t e, t < Try.prog.types.size → Try.prog.underlying t = some (.slice e) → 0 < Try.prog.cellsOf e := slices_full_of Try.prog (by kernel_rfl)

open Brn Bly
set_option maxRecDepth 100000 in
theorem walk {H : Type} (enc : TypeId × Value → H) (W : World) (args : Array Value) {base : Nat} {ds : List (DataW H)} {p : List MemPlace} (hn : args.size = 1) (hval : ∀ (j : Nat) t v, #[25][j]? = some t → args[j]? = some v → Value.okWide Try.prog W .any base t v)
    (_ : DataW.TrodAll enc Try.prog W 0 (fun _ => true) true Try.f6.params.toList args.toList ds p) : Calls Try.prog 6 args W fun e w' => e = .returned (.bool true) ∧ Grown W w' := by
  obtain ⟨l⟩ := args
  match l, hn with
  | [v0], _ =>
    obtain ⟨w, _, h0⟩ := wd_rel (E := fun _ => none) (hval 0 25 v0 rfl rfl)
    obtain ⟨h, hl, ob, hr, ho⟩ := law_all w
    obtain ⟨e, e1, e2, e3, e4⟩ := rE_some hr
    subst e3
    exact law_of (inlN_of (l := L3 fops valid h) (okL3 h) mixed 8 Try.func6 (by kernel_rfl) (hint hl))
      Try.func6 (by kernel_rfl) (by kernel_rfl) e1 ho e2 rfl (Nat.le_of_ble_eq_true e4) (show RelVs (fun _ => none) [wd w] [v0] from ⟨h0, trivial⟩) W

theorem fn_eq {H : Type} {ds : List (DataW H)} (h : ds.length = 1) : (Rows.fnExactBurningLayersSpec.fn H (ds ++ [])).results = [.lit (.bool true)] ∧ (Rows.fnExactBurningLayersSpec.fn H (ds ++ [])).args = ds ∧ (Rows.fnExactBurningLayersSpec.fn H (ds ++ [])).vars = [] := by
  match ds, h with
  | [_], _ => exact ⟨rfl, rfl, rfl⟩

/-! ### the row's step -/
set_option maxRecDepth 100000 in
theorem lifted (os : Os) (started : os.Started) (H : Type) (enc : TypeId × Value → H) :
    ReturnsInHanded {} Try.checked os 6 .any (Rows.fnExactBurningLayersSpec.pre6 enc Try.prog Try.f6 Rows.fnExactBurningLayersRow.domain false) (Rows.fnExactBurningLayersSpec.post enc Try.prog Try.f6 false true false false) := by
  refine returnsInHanded_of_change (C := Try.checked) own started (by kernel_rfl) Try.func6
    (ChangeSpec.witness6 (enc := enc) (C := Try.checked) false ⟨#[], #[.agg #[.float .f32 0, .float .f32 0, .float .f32 0, .float .f32 0, .float .f32 0, .float .f32 0, .float .f32 0, .float .f32 0, .float .f32 0, .float .f32 0, .float .f32 0, .float .f32 0, .float .f32 0, .float .f32 0, .float .f32 0, .float .f32 0, .float .f32 0, .float .f32 0]], []⟩ 8 (by kernel_rfl) (by kernel_rfl) (by kernel_rfl) (by kernel_rfl)) ?_
  intro W base args ds gs before hval0 hW hcnd _
  have hval : ∀ (j : Nat) t v, Try.f6.params[j]? = some t → args[j]? = some v → Value.okWide Try.prog W .any base t v := hval0
  have hW' := hW
  obtain ⟨p, q, hA0, hV, rfl, hfz, hnd⟩ := hW
  have hA : DataW.TrodAll enc Try.prog W 0 (fun _ => true) true Try.f6.params.toList args.toList ds p := hA0
  obtain ⟨rfl, rfl⟩ := trodVars_none hV
  obtain ⟨hl1, hl2⟩ := trodAll_len hA
  have hlt := hW'.lt
  rw [Try.params6] at hl1 hl2 hval
  have hfn := fn_eq (H := H) (ds := ds) hl2
  refine (walk enc W args (by simpa using hl1) hval hA).mono fun e W' ⟨he, hg⟩ => ?_
  subst he
  exact ⟨_, rfl, post_of_same (pv := []) hW' (fun _ _ _ => by rw [hfn.1]; exact trodAll_cons_mk (shut_bool Try.underlying4 _) trodAll_mk0)
    (fun sp hsp => by rw [hfn.2.1]; exact args_stay kids full hg (by rw [Try.params6]; decide +kernel) hA (fun p hp => hlt p (by simpa using hp)) (fun p hp => hsp p (by simpa using hp)))
    (fun _ _ => by rw [hfn.2.2]; rfl) (by simp) (hg.frame _) hg.2.1 (ok_one (by kernel_rfl) rfl (okWide_bool_mk Try.underlying4 _))⟩

theorem over : Rows.fnExactBurningLayersRow.holds Try.pinned (OpenSpec.ofChange Rows.fnExactBurningLayersSpec) :=
  OpenClaim.holds_of_wide 6 Try.f6 rfl rfl rfl rfl rfl rfl rfl ⟨rfl, rfl, rfl, rfl, rfl⟩ rfl rfl rfl rfl rfl (by kernel_rfl) Try.func6 (by kernel_rfl)
    (of_decide_eq_true (by kernel_rfl)) (by unfold Func.isWrapper; first | (rw [if_pos (by decide +kernel)]; kernel_rfl) | (rw [if_neg (by decide +kernel)]; exact ⟨rfl, rfl⟩))
    (fun os started H enc _ => lifted os started H enc)

theorem proved : Rows.FnExactBurningLayersSaid :=
  over
#print axioms proved
end Go.Proofs.Ytmikpabmlclpiaa.fnExactBurningLayers
