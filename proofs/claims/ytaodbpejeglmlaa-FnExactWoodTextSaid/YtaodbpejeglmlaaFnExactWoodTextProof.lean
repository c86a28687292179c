/- The Go function laws.FnExactWoodText returns true, whatever its arguments. No condition. -/
import Derived.Test.YtaodbpejeglmlaaRows
import Derived.Test.YtaodbpejeglmlaaWtx
import Derived.WalkKit
import Derived.ProofKit
import Derived.OpenShut
namespace Go.Proofs.Ytaodbpejeglmlaa.fnExactWoodText
open Go.ChangeShapes Go.WideShapes Go.ChangeAt Go.RowKit

theorem own : ownKnob Try.prog.godebug = none := by kernel_rfl
theorem kids : Kids Try.prog (· < Try.prog.types.size) := kids_rows (by kernel_rfl) (by kernel_rfl)
theorem full : ∀ t e, t < Try.prog.types.size → Try.prog.underlying t = some (.slice e) → 0 < Try.prog.cellsOf e := slices_full_of Try.prog (by kernel_rfl)

noncomputable def L3 (vl : (Nat → Nat) → Bool) : List (Nat × CS) := [(14, gS (Wt.wtG vl)), (12, gS (Wt.wtG vl))]
noncomputable def X (vl : (Nat → Nat) → Bool) (w : Nat → Nat) : List UInt8 := (bif !vl (back (back w)) then Wt.eT else Wt.wtU (back w) 6).toList
set_option maxRecDepth 100000 in
theorem law_run (O : FOps) (vl : (Nat → Nat) → Bool) (w : Nat → Nat) : rE 1 (inl ⟨Try.prog, O, orcN Try.prog O (L3 vl) 8⟩ Try.f5 ⟨fun _ => none, fun _ => none⟩ 1 [wd w] []) = some (.c (.bool (.s (bif !(X vl w == X vl w) then false else true))), []) := by kernel_rfl
set_option maxRecDepth 100000 in
theorem walk {H : Type} (enc : TypeId × Value → H) (W : World) (args : Array Value) {base : Nat} {ds : List (DataW H)} {p : List MemPlace} (hn : args.size = 1) (hval : ∀ (j : Nat) t v, #[32][j]? = some t → args[j]? = some v → Value.okWide Try.prog W .any base t v)
    (_ : DataW.TrodAll enc Try.prog W 0 (fun _ => true) true Try.f5.params.toList args.toList ds p) : Calls Try.prog 5 args W fun e w' => e = .returned (.bool true) ∧ Grown W w' := by
  obtain ⟨l⟩ := args
  match l, hn with
  | [v0], _ =>
    obtain ⟨w, _, h0⟩ := wd_rel (E := fun _ => none) (hval 0 32 v0 rfl rfl)
    exact law_of2 (inlN_of (l := L3 valid) ⟨Wt.cWtI, Wt.cWtS, trivial⟩ mixed 8 Try.func5 (by kernel_rfl) (fun _ => none))
      Try.func5 (by kernel_rfl) (by kernel_rfl) (law_run fops valid w) AllT.nil (by simp) (show RelVs (fun _ => none) [wd w] [v0] from ⟨h0, trivial⟩) W

theorem fn_eq {H : Type} {ds : List (DataW H)} (h : ds.length = 1) : (Rows.fnExactWoodTextSpec.fn H (ds ++ [])).results = [.lit (.bool true)] ∧ (Rows.fnExactWoodTextSpec.fn H (ds ++ [])).args = ds ∧ (Rows.fnExactWoodTextSpec.fn H (ds ++ [])).vars = [] := by
  match ds, h with
  | [_], _ => exact ⟨rfl, rfl, rfl⟩

/-! ### the row's step -/
set_option maxRecDepth 100000 in
theorem lifted (os : Os) (started : os.Started) (H : Type) (enc : TypeId × Value → H) :
    ReturnsInHanded {} Try.checked os 5 .any (Rows.fnExactWoodTextSpec.pre6 enc Try.prog Try.f5 Rows.fnExactWoodTextRow.domain false) (Rows.fnExactWoodTextSpec.post enc Try.prog Try.f5 false true false false) := by
  refine returnsInHanded_of_change (C := Try.checked) own started (by kernel_rfl) Try.func5
    (ChangeSpec.witness6 (enc := enc) (C := Try.checked) false ⟨#[], #[.agg #[.float .f32 0, .float .f32 0, .float .f32 0, .float .f32 0, .float .f32 0, .float .f32 0, .float .f32 0, .float .f32 0, .float .f32 0, .float .f32 0, .float .f32 0, .float .f32 0, .float .f32 0, .float .f32 0, .float .f32 0, .float .f32 0, .float .f32 0, .float .f32 0]], []⟩ 8 (by kernel_rfl) (by kernel_rfl) (by kernel_rfl) (by kernel_rfl)) ?_
  intro W base args ds gs before hval0 hW hcnd _
  have hval : ∀ (j : Nat) t v, Try.f5.params[j]? = some t → args[j]? = some v → Value.okWide Try.prog W .any base t v := hval0
  have hW' := hW
  obtain ⟨p, q, hA0, hV, rfl, hfz, hnd⟩ := hW
  have hA : DataW.TrodAll enc Try.prog W 0 (fun _ => true) true Try.f5.params.toList args.toList ds p := hA0
  obtain ⟨rfl, rfl⟩ := trodVars_none hV
  obtain ⟨hl1, hl2⟩ := trodAll_len hA
  have hlt := hW'.lt
  rw [Try.params5] at hl1 hl2 hval
  have hfn := fn_eq (H := H) (ds := ds) hl2
  refine (walk enc W args (by simpa using hl1) hval hA).mono fun e W' ⟨he, hg⟩ => ?_
  subst he
  exact ⟨_, rfl, post_of_same (pv := []) hW' (fun _ _ _ => by rw [hfn.1]; exact trodAll_cons_mk (shut_bool Try.underlying4 _) trodAll_mk0)
    (fun sp hsp => by rw [hfn.2.1]; exact args_stay kids full hg (by rw [Try.params5]; decide +kernel) hA (fun p hp => hlt p (by simpa using hp)) (fun p hp => hsp p (by simpa using hp)))
    (fun _ _ => by rw [hfn.2.2]; rfl) (by simp) (hg.frame _) hg.2.1 (ok_one (by kernel_rfl) rfl (okWide_bool_mk Try.underlying4 _))⟩

theorem over : Rows.fnExactWoodTextRow.holds Try.pinned (OpenSpec.ofChange Rows.fnExactWoodTextSpec) :=
  OpenClaim.holds_of_wide 5 Try.f5 rfl rfl rfl rfl rfl rfl rfl ⟨rfl, rfl, rfl, rfl, rfl⟩ rfl rfl rfl rfl rfl (by kernel_rfl) Try.func5 (by kernel_rfl)
    (of_decide_eq_true (by kernel_rfl)) (by unfold Func.isWrapper; first | (rw [if_pos (by decide +kernel)]; kernel_rfl) | (rw [if_neg (by decide +kernel)]; exact ⟨rfl, rfl⟩))
    (fun os started H enc _ => lifted os started H enc)

theorem proved : Rows.FnExactWoodTextSaid :=
  over
#print axioms proved
end Go.Proofs.Ytaodbpejeglmlaa.fnExactWoodText
