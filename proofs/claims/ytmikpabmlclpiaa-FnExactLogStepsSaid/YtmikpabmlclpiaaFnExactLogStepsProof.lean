/- The Go function laws.FnExactLogSteps returns true, whatever its arguments. No condition. -/
import Derived.Test.YtmikpabmlclpiaaRows
import Derived.Test.YtmikpabmlclpiaaLgs
import Derived.WalkKit
import Derived.ProofKit
import Derived.OpenShut
namespace Go.Proofs.Ytmikpabmlclpiaa.fnExactLogSteps
open Go.ChangeShapes Go.WideShapes Go.ChangeAt Go.RowKit

theorem own : ownKnob Try.prog.godebug = none := by kernel_rfl
theorem kids : Kids Try.prog (· < Try.prog.types.size) := kids_rows (by kernel_rfl) (by kernel_rfl)
theorem full : ∀ t e, t < Try.prog.types.size → Try.prog.underlying t = some (.slice e) → 0 < Try.prog.cellsOf e := slices_full_of Try.prog (by kernel_rfl)

open Lgs
set_option maxRecDepth 100000 in
theorem walk {H : Type} (enc : TypeId × Value → H) (W : World) (args : Array Value) {base : Nat} {ds : List (DataW H)} {p : List MemPlace} (hn : args.size = 5) (hval : ∀ (j : Nat) t v, #[25, 22, 22, 22, 2][j]? = some t → args[j]? = some v → Value.okWide Try.prog W .any base t v)
    (_ : DataW.TrodAll enc Try.prog W 0 (fun _ => true) true Try.f14.params.toList args.toList ds p) : Calls Try.prog 14 args W fun e w' => e = .returned (.bool true) ∧ Grown W w' := by
  obtain ⟨l⟩ := args
  match l, hn with
  | [v0, v1, v2, v3, v4], _ =>
    obtain ⟨w, _, h0⟩ := wd_rel (E := fun _ => none) (hval 0 25 v0 rfl rfl)
    obtain ⟨r, _, h1⟩ := val_flt (k := .f32) Try.underlying22 (hval 1 22 v1 rfl rfl)
    obtain ⟨a, _, h2⟩ := val_flt (k := .f32) Try.underlying22 (hval 2 22 v2 rfl rfl)
    obtain ⟨t, _, h3⟩ := val_flt (k := .f32) Try.underlying22 (hval 3 22 v3 rfl rfl)
    obtain ⟨N, h4, _⟩ := val_int (k := .i64) Try.underlying2 (hval 4 2 v4 rfl rfl)
    exact law_of2 (inlN_of (l := L3 fops isNum valid) okL3 mixed 3 Try.func14 (by kernel_rfl) (fun _ => none))
      Try.func14 (by kernel_rfl) (by kernel_rfl) (law_run fops isNum valid w r a t N) AllT.nil (B_true w r a t N) (show RelVs (fun _ => none) [wd w, .c (.flt .f32 r), .c (.flt .f32 a), .c (.flt .f32 t), .c (.int .i64 (.s N))] [v0, v1, v2, v3, v4] from ⟨h0, h1, h2, h3, h4, trivial⟩) W

theorem fn_eq {H : Type} {ds : List (DataW H)} (h : ds.length = 5) : (Rows.fnExactLogStepsSpec.fn H (ds ++ [])).results = [.lit (.bool true)] ∧ (Rows.fnExactLogStepsSpec.fn H (ds ++ [])).args = ds ∧ (Rows.fnExactLogStepsSpec.fn H (ds ++ [])).vars = [] := by
  match ds, h with
  | [_, _, _, _, _], _ => exact ⟨rfl, rfl, rfl⟩

/-! ### the row's step -/
set_option maxRecDepth 100000 in
theorem lifted (os : Os) (started : os.Started) (H : Type) (enc : TypeId × Value → H) :
    ReturnsInHanded {} Try.checked os 14 .any (Rows.fnExactLogStepsSpec.pre6 enc Try.prog Try.f14 Rows.fnExactLogStepsRow.domain false) (Rows.fnExactLogStepsSpec.post enc Try.prog Try.f14 false true false false) := by
  refine returnsInHanded_of_change (C := Try.checked) own started (by kernel_rfl) Try.func14
    (ChangeSpec.witness6 (enc := enc) (C := Try.checked) false ⟨#[], #[.agg #[.float .f32 0, .float .f32 0, .float .f32 0, .float .f32 0, .float .f32 0, .float .f32 0, .float .f32 0, .float .f32 0, .float .f32 0, .float .f32 0, .float .f32 0, .float .f32 0, .float .f32 0, .float .f32 0, .float .f32 0, .float .f32 0, .float .f32 0, .float .f32 0],.float .f32 0,.float .f32 0,.float .f32 0,.int .i64 0], []⟩ 8 (by kernel_rfl) (by kernel_rfl) (by kernel_rfl) (by kernel_rfl)) ?_
  intro W base args ds gs before hval0 hW hcnd _
  have hval : ∀ (j : Nat) t v, Try.f14.params[j]? = some t → args[j]? = some v → Value.okWide Try.prog W .any base t v := hval0
  have hW' := hW
  obtain ⟨p, q, hA0, hV, rfl, hfz, hnd⟩ := hW
  have hA : DataW.TrodAll enc Try.prog W 0 (fun _ => true) true Try.f14.params.toList args.toList ds p := hA0
  obtain ⟨rfl, rfl⟩ := trodVars_none hV
  obtain ⟨hl1, hl2⟩ := trodAll_len hA
  have hlt := hW'.lt
  rw [Try.params14] at hl1 hl2 hval
  have hfn := fn_eq (H := H) (ds := ds) hl2
  refine (walk enc W args (by simpa using hl1) hval hA).mono fun e W' ⟨he, hg⟩ => ?_
  subst he
  exact ⟨_, rfl, post_of_same (pv := []) hW' (fun _ _ _ => by rw [hfn.1]; exact trodAll_cons_mk (shut_bool Try.underlying4 _) trodAll_mk0)
    (fun sp hsp => by rw [hfn.2.1]; exact args_stay kids full hg (by rw [Try.params14]; decide +kernel) hA (fun p hp => hlt p (by simpa using hp)) (fun p hp => hsp p (by simpa using hp)))
    (fun _ _ => by rw [hfn.2.2]; rfl) (by simp) (hg.frame _) hg.2.1 (ok_one (by kernel_rfl) rfl (okWide_bool_mk Try.underlying4 _))⟩

theorem over : Rows.fnExactLogStepsRow.holds Try.pinned (OpenSpec.ofChange Rows.fnExactLogStepsSpec) :=
  OpenClaim.holds_of_wide 14 Try.f14 rfl rfl rfl rfl rfl rfl rfl ⟨rfl, rfl, rfl, rfl, rfl⟩ rfl rfl rfl rfl rfl (by kernel_rfl) Try.func14 (by kernel_rfl)
    (of_decide_eq_true (by kernel_rfl)) (by unfold Func.isWrapper; first | (rw [if_pos (by decide +kernel)]; kernel_rfl) | (rw [if_neg (by decide +kernel)]; exact ⟨rfl, rfl⟩))
    (fun os started H enc _ => lifted os started H enc)

theorem proved : Rows.FnExactLogStepsSaid :=
  over
#print axioms proved
end Go.Proofs.Ytmikpabmlclpiaa.fnExactLogSteps
