/- The Go function laws.FnExactWarmStep returns true, whatever its arguments. No condition. -/
import Derived.Test.YtmikpabmlclpiaaRows
import Derived.Test.YtmikpabmlclpiaaLog
import Derived.WalkKit
import Derived.ProofKit
import Derived.OpenShut
namespace Go.Proofs.Ytmikpabmlclpiaa.fnExactWarmStep
open Go.ChangeShapes Go.WideShapes Go.ChangeAt Go.RowKit

theorem own : ownKnob Try.prog.godebug = none := by kernel_rfl
theorem kids : Kids Try.prog (· < Try.prog.types.size) := kids_rows (by kernel_rfl) (by kernel_rfl)
theorem full : ∀ t e, t < Try.prog.types.size → Try.prog.underlying t = some (.slice e) → 0 < Try.prog.cellsOf e := slices_full_of Try.prog (by kernel_rfl)

def code3 (A B C : Bool) : Int := bif A then 1 else bif B then 2 else bif C then 4 else 0
noncomputable def out (O : FOps) (A B C : Bool) (w : Nat → Nat) (a t : Nat) : SV :=
  .tup [asE (wd (way4 A B C (warmW O w a t))), .c (.flt .f32 (bif A then 0 else bif B then 0 else bif C then 0 else flow O w a t 0)), .c (.int .i64 (.s (code3 A B C)))]
noncomputable def outS (O : FOps) (w : Nat → Nat) (a t : Nat) : SV := out O (!six (badS O w)) (bif !finL O a then true else !shareB O t) (!finL O (flow O w a t 0)) w a t
noncomputable def outI (O : FOps) (w : Nat → Nat) (a t : Nat) : SV := out O (!six (badI O w)) (bif !finI O a then true else !shareB O t) (!finI O (flow O w a t 0)) w a t
/-- Both, in plain words. -/
noncomputable def outG (w : Nat → Nat) (a t : Nat) : SV := out fops (!valid w) (bif !isNum a then true else !shareB fops t) (!isNum (flow fops w a t 0)) w a t
theorem outS_eq (w : Nat → Nat) (a t : Nat) : outS fops w a t = outG w a t := by
  unfold outS outG
  rw [validS_eq, finL_eq, finL_eq]
theorem outI_eq (w : Nat → Nat) (a t : Nat) : outI fops w a t = outG w a t := by
  unfold outI outG
  rw [validI_eq, finI_eq, finI_eq]
noncomputable def G : List SV → Option SV
  | [v, .c (.flt .f32 a), .c (.flt .f32 t)] => match wdOf v with
    | some w => some (outG w a t)
    | none => none
  | _ => none
noncomputable def L (O : FOps) : List (Nat × CS) := [(79, amtS), (78, amtS), (92, absS), (84, gS (heldG O))]
set_option maxRecDepth 100000 in
theorem okL : AllOK Try.prog (L fops) := ⟨cAmtI, cAmtL, cAbs, cHeld, trivial⟩
set_option maxRecDepth 100000 in
theorem spec_run (O : FOps) (w : Nat → Nat) (a t : Nat) : inl ⟨Try.prog, O, orcN Try.prog O (L O) 8⟩ Try.f30 ⟨fun _ => none, fun _ => none⟩ 1 [wd w, .c (.flt .f32 a), .c (.flt .f32 t)] [] = some ⟨outS O w a t, [], 6, []⟩ := by kernel_rfl
set_option maxRecDepth 100000 in
theorem impl_run (O : FOps) (w : Nat → Nat) (a t : Nat) : inl ⟨Try.prog, O, orcN Try.prog O (L O) 8⟩ Try.f31 ⟨fun _ => none, fun _ => none⟩ 1 [wd w, .c (.flt .f32 a), .c (.flt .f32 t)] [] = some ⟨outI O w a t, [], 10, []⟩ := by kernel_rfl
set_option maxRecDepth 100000 in
theorem cSpec : CallOK Try.prog 30 (gS G) :=
  gS_of (inlN_of (l := L fops) okL mixed 8 Try.func30 (by kernel_rfl) (fun _ => none)) fun args r E vals hG _ => by
    unfold G at hG
    split at hG <;> try (cases hG; done)
    split at hG <;> cases hG
    rename_i w hw
    rw [wdOf_ok hw]
    exact ⟨rfl, _, spec_run fops w _ _, rfl, rfl, AllT.nil, fun _ _ h => by rw [outS_eq] at h; exact h⟩
set_option maxRecDepth 100000 in
theorem cImpl : CallOK Try.prog 31 (gS G) :=
  gS_of (inlN_of (l := L fops) okL mixed 8 Try.func31 (by kernel_rfl) (fun _ => none)) fun args r E vals hG _ => by
    unfold G at hG
    split at hG <;> try (cases hG; done)
    split at hG <;> cases hG
    rename_i w hw
    rw [wdOf_ok hw]
    exact ⟨rfl, _, impl_run fops w _ _, rfl, rfl, AllT.nil, fun _ _ h => by rw [outI_eq] at h; exact h⟩
noncomputable def L2 (O : FOps) : List (Nat × CS) := [(31, gS G), (30, gS G), (22, gS (eqG O)), (32, gS (sfG O))]
noncomputable def cells (w : Nat → Nat) (a t : Nat) : Nat → Nat := back (way4 (!valid w) (bif !isNum a then true else !shareB fops t) (!isNum (flow fops w a t 0)) (warmW fops w a t))
noncomputable def taken (w : Nat → Nat) (a t : Nat) : Nat := bif !valid w then 0 else bif (bif !isNum a then true else !shareB fops t) then 0 else bif !isNum (flow fops w a t 0) then 0 else flow fops w a t 0
noncomputable def code (w : Nat → Nat) (a t : Nat) : Int := code3 (!valid w) (bif !isNum a then true else !shareB fops t) (!isNum (flow fops w a t 0))
set_option maxRecDepth 100000 in
theorem law_run (O : FOps) (w : Nat → Nat) (a t : Nat) : inl ⟨Try.prog, O, orcN Try.prog O (L2 O) 3⟩ Try.f8 ⟨fun _ => none, fun _ => none⟩ 1 [wd w, .c (.flt .f32 a), .c (.flt .f32 t)] [] =
    some ⟨.c (.bool (.s (bif (bif !eqW O (cells (back w) a t) (cells (back w) a t) then true else bif !sf O (cv O (taken (back w) a t)) (cv O (taken (back w) a t)) then true else !decide (code (back w) a t = code (back w) a t)) then false else true))), [], 28, []⟩ := by kernel_rfl
set_option maxRecDepth 100000 in
theorem walk {H : Type} (enc : TypeId × Value → H) (W : World) (args : Array Value) {base : Nat} {ds : List (DataW H)} {p : List MemPlace} (hn : args.size = 3) (hval : ∀ (j : Nat) t v, #[25, 22, 22][j]? = some t → args[j]? = some v → Value.okWide Try.prog W .any base t v)
    (_ : DataW.TrodAll enc Try.prog W 0 (fun _ => true) true Try.f8.params.toList args.toList ds p) : Calls Try.prog 8 args W fun e w' => e = .returned (.bool true) ∧ Grown W w' := by
  obtain ⟨l⟩ := args
  match l, hn with
  | [v0, v1, v2], _ =>
    obtain ⟨w, _, hx⟩ := wd_rel (E := fun _ => none) (hval 0 25 v0 rfl rfl)
    obtain ⟨a, _, hy⟩ := val_flt (k := .f32) Try.underlying22 (hval 1 22 v1 rfl rfl)
    obtain ⟨t, _, hz⟩ := val_flt (k := .f32) Try.underlying22 (hval 2 22 v2 rfl rfl)
    exact law_of (inlN_of (l := L2 fops) ⟨cImpl, cSpec, cEq, cSf, trivial⟩ mixed 3 Try.func8 (by kernel_rfl) (fun _ => none))
      Try.func8 (by kernel_rfl) (by kernel_rfl) (law_run fops w a t) AllT.nil rfl (by rw [eqW_self, sf_self]; simp [SB.val]) (Nat.le_of_ble_eq_true rfl) (show RelVs _ [wd w, .c (.flt .f32 a), .c (.flt .f32 t)] [v0, v1, v2] from ⟨hx, hy, hz, trivial⟩) W

theorem fn_eq {H : Type} {ds : List (DataW H)} (h : ds.length = 3) : (Rows.fnExactWarmStepSpec.fn H (ds ++ [])).results = [.lit (.bool true)] ∧ (Rows.fnExactWarmStepSpec.fn H (ds ++ [])).args = ds ∧ (Rows.fnExactWarmStepSpec.fn H (ds ++ [])).vars = [] := by
  match ds, h with
  | [_, _, _], _ => exact ⟨rfl, rfl, rfl⟩

/-! ### the row's step -/
set_option maxRecDepth 100000 in
theorem lifted (os : Os) (started : os.Started) (H : Type) (enc : TypeId × Value → H) :
    ReturnsInHanded {} Try.checked os 8 .any (Rows.fnExactWarmStepSpec.pre6 enc Try.prog Try.f8 Rows.fnExactWarmStepRow.domain false) (Rows.fnExactWarmStepSpec.post enc Try.prog Try.f8 false true false false) := by
  refine returnsInHanded_of_change (C := Try.checked) own started (by kernel_rfl) Try.func8
    (ChangeSpec.witness6 (enc := enc) (C := Try.checked) false ⟨#[], #[.agg (Array.replicate 18 (.float .f32 0)), .float .f32 0, .float .f32 0], []⟩ 8 (by kernel_rfl) (by kernel_rfl) (by kernel_rfl) (by kernel_rfl)) ?_
  intro W base args ds gs before hval0 hW hcnd _
  have hval : ∀ (j : Nat) t v, Try.f8.params[j]? = some t → args[j]? = some v → Value.okWide Try.prog W .any base t v := hval0
  have hW' := hW
  obtain ⟨p, q, hA0, hV, rfl, hfz, hnd⟩ := hW
  have hA : DataW.TrodAll enc Try.prog W 0 (fun _ => true) true Try.f8.params.toList args.toList ds p := hA0
  obtain ⟨rfl, rfl⟩ := trodVars_none hV
  obtain ⟨hl1, hl2⟩ := trodAll_len hA
  have hlt := hW'.lt
  rw [Try.params8] at hl1 hl2 hval
  have hfn := fn_eq (H := H) (ds := ds) hl2
  refine (walk enc W args (by simpa using hl1) hval hA).mono fun e W' ⟨he, hg⟩ => ?_
  subst he
  exact ⟨_, rfl, post_of_same (pv := []) hW' (fun _ _ _ => by rw [hfn.1]; exact trodAll_cons_mk (shut_bool Try.underlying4 _) trodAll_mk0)
    (fun sp hsp => by rw [hfn.2.1]; exact args_stay kids full hg (by rw [Try.params8]; decide +kernel) hA (fun p hp => hlt p (by simpa using hp)) (fun p hp => hsp p (by simpa using hp)))
    (fun _ _ => by rw [hfn.2.2]; rfl) (by simp) (hg.frame _) hg.2.1 (ok_one (by kernel_rfl) rfl (okWide_bool_mk Try.underlying4 _))⟩

theorem over : Rows.fnExactWarmStepRow.holds Try.pinned (OpenSpec.ofChange Rows.fnExactWarmStepSpec) :=
  OpenClaim.holds_of_wide 8 Try.f8 rfl rfl rfl rfl rfl rfl rfl ⟨rfl, rfl, rfl, rfl, rfl⟩ rfl rfl rfl rfl rfl (by kernel_rfl) Try.func8 (by kernel_rfl)
    (of_decide_eq_true (by kernel_rfl)) (by unfold Func.isWrapper; first | (rw [if_pos (by decide +kernel)]; kernel_rfl) | (rw [if_neg (by decide +kernel)]; exact ⟨rfl, rfl⟩))
    (fun os started H enc _ => lifted os started H enc)

theorem proved : Rows.FnExactWarmStepSaid :=
  over
#print axioms proved
end Go.Proofs.Ytmikpabmlclpiaa.fnExactWarmStep
