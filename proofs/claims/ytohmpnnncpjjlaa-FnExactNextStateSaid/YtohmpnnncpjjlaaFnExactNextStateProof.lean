/- The Go function laws.FnExactNextState returns true, whatever its arguments. No condition. -/
import Derived.Test.YtohmpnnncpjjlaaRows
import Derived.Test.YtohmpnnncpjjlaaHp
import Derived.Test.YtohmpnnncpjjlaaAmt
import Derived.WalkKit
import Derived.ProofKit
import Derived.OpenShut
namespace Go.Proofs.Ytohmpnnncpjjlaa.fnExactNextState
open Go.ChangeShapes Go.WideShapes Go.ChangeAt Go.RowKit

theorem own : ownKnob Try.prog.godebug = none := by kernel_rfl
theorem kids : Kids Try.prog (· < Try.prog.types.size) := kids_rows (by kernel_rfl) (by kernel_rfl)
theorem full : ∀ t e, t < Try.prog.types.size → Try.prog.underlying t = some (.slice e) → 0 < Try.prog.cellsOf e := slices_full_of Try.prog (by kernel_rfl)

noncomputable def L (O : FOps) (nm : Nat → Bool) : List (Nat × CS) := []
set_option maxRecDepth 100000 in
theorem okL : AllOK Try.prog (L fops isNum) := trivial
noncomputable def RI (O : FOps) (nm : Nat → Bool) (n : Int) (x : Nat) (b : Bool) : Option (SV × List Bool) := rE 1 (inl ⟨Try.prog, O, orcN Try.prog O (L O nm) 8⟩ Try.f17 ⟨fun _ => none, fun _ => none⟩ 1 [.c (.int .i8 (.s n)), .c (.flt .f32 x), .c (.bool (.s b))] [])
noncomputable def RS (O : FOps) (nm : Nat → Bool) (n : Int) (x : Nat) (b : Bool) : Option (SV × List Bool) := rE 1 (inl ⟨Try.prog, O, orcN Try.prog O (L O nm) 8⟩ Try.f16 ⟨fun _ => none, fun _ => none⟩ 1 [.c (.int .i8 (.s n)), .c (.flt .f32 x), .c (.bool (.s b))] [])
set_option maxRecDepth 100000 in
theorem RI_plain (O : FOps) (nm : Nat → Bool) (n : Int) (x : Nat) (b : Bool) : plainR (RI O nm n x b) = true := by kernel_rfl
def outI (A B C G H K L b : Bool) (n : Int) : Int :=
  bif (bif A then G else false) then 2 else bif ((!bif A then G else false) && bif A then (bif !b then H else false) else false) then 0 else
  bif ((!bif A then G else false) && ((!bif A then (bif !b then H else false) else false) && bif B then (bif b then false else true) else false)) then 3 else
  bif ((!bif A then G else false) && ((!bif A then (bif !b then H else false) else false) && ((!bif B then (bif b then false else true) else false) && bif C then (bif b then K else false) else false))) then 2 else
  bif ((!bif A then G else false) && ((!bif A then (bif !b then H else false) else false) && ((!bif B then (bif b then false else true) else false) && ((!bif C then (bif b then K else false) else false) && bif C then L else false)))) then 0 else n
def outS (A B C G H K L b : Bool) (n : Int) : Int :=
  bif (A && G) then 2 else bif (A && bif !b then H else false) then 0 else bif (!A && (B && !b)) then 3 else
  bif (!A && (!B && (C && bif b then K else false))) then 2 else bif (!A && (!B && (C && L))) then 0 else n
theorem out_eq (A B C G H K L b : Bool) (n : Int) (h : A = true → B = false ∧ C = false) (h2 : B = true → C = false) : outS A B C G H K L b n = outI A B C G H K L b n := by
  unfold outS outI
  cases A
  · cases B
    · cases C <;> cases b <;> cases K <;> cases L <;> rfl
    · have := h2 rfl; subst this; cases b <;> rfl
  · obtain ⟨rfl, rfl⟩ := h rfl
    cases G <;> cases b <;> cases H <;> rfl
def atm (O : FOps) (g : Bool → Bool → Bool → Bool → Bool → Bool → Bool → Bool → Int → Int) (n : Int) (x : Nat) (b : Bool) : Int :=
  g (decide (n = 1)) (decide (n = 2)) (decide (n = 3)) (O.cmp .gtr .f32 x 1128792064) (O.cmp .lss .f32 x 1112014848) (O.cmp .gtr .f32 x 1132068864) (O.cmp .lss .f32 x 1109393408) b n
set_option maxRecDepth 100000 in
theorem RI_out (O : FOps) (nm : Nat → Bool) (n : Int) (x : Nat) (b : Bool) : RI O nm n x b = some (.c (.int .i8 (.s (atm O outI n x b))), []) := by kernel_rfl
set_option maxRecDepth 100000 in
theorem RS_out (O : FOps) (nm : Nat → Bool) (n : Int) (x : Nat) (b : Bool) : RS O nm n x b = some (.c (.int .i8 (.s (atm O outS n x b))), []) := by kernel_rfl
theorem atm_eq (O : FOps) (n : Int) (x : Nat) (b : Bool) : atm O outS n x b = atm O outI n x b := by
  unfold atm
  refine out_eq _ _ _ _ _ _ _ _ _ (fun h => ?_) (fun h => ?_)
  · have := of_decide_eq_true h
    exact ⟨decide_eq_false (by omega), decide_eq_false (by omega)⟩
  · have := of_decide_eq_true h
    exact decide_eq_false (by omega)
set_option maxRecDepth 100000 in
theorem RS_eq (n : Int) (x : Nat) (b : Bool) : RS fops isNum n x b = RI fops isNum n x b := by rw [RI_out, RS_out, atm_eq]
noncomputable def Rr (O : FOps) (nm : Nat → Bool) : List SV → Option (SV × List Bool)
  | [.c (.int .i8 (.s n)), .c (.flt .f32 x), .c (.bool (.s b))] => RI O nm n x b
  | _ => none
set_option maxRecDepth 100000 in
theorem cImpl : CallOK Try.prog 17 (gS (runG (Rr fops isNum))) :=
  runG_ok (inlN_of (l := L fops isNum) okL mixed 8 Try.func17 (by kernel_rfl) (fun _ => none)) fun args x hx => by
    unfold Rr at hx
    split at hx
    · obtain ⟨v, h1, h2⟩ := plainR_some (RI_plain fops isNum _ _ _)
      have h3 := h1.symm.trans hx
      cases h3
      exact ⟨rfl, hx, h2, rfl⟩
    · cases hx
set_option maxRecDepth 100000 in
theorem cSpec : CallOK Try.prog 16 (gS (runG (Rr fops isNum))) :=
  runG_ok (inlN_of (l := L fops isNum) okL mixed 8 Try.func16 (by kernel_rfl) (fun _ => none)) fun args x hx => by
    unfold Rr at hx
    split at hx
    · obtain ⟨v, h1, h2⟩ := plainR_some (RI_plain fops isNum _ _ _)
      have h3 := h1.symm.trans hx
      cases h3
      exact ⟨rfl, (RS_eq ..).trans hx, h2, rfl⟩
    · cases hx
noncomputable def L3 (O : FOps) (nm : Nat → Bool) : List (Nat × CS) := [(17, gS (runG (Rr O nm))), (16, gS (runG (Rr O nm)))]
noncomputable def B (O : FOps) (nm : Nat → Bool) (n : Int) (x : Nat) (b : Bool) : Bool := bif !decide (intAt (RI O nm n x b) 0 = intAt (RI O nm n x b) 0) then false else true
set_option maxRecDepth 100000 in
theorem law_run (O : FOps) (nm : Nat → Bool) (n : Int) (x : Nat) (b : Bool) : rE 1 (inl ⟨Try.prog, O, orcN Try.prog O (L3 O nm) 3⟩ Try.f4 ⟨fun _ => none, fun _ => none⟩ 1 [.c (.int .i8 (.s n)), .c (.flt .f32 x), .c (.bool (.s b))] []) = some (.c (.bool (.s (B O nm n x b))), []) := by kernel_rfl
theorem B_true (n : Int) (x : Nat) (b : Bool) : B fops isNum n x b = true := by
  unfold B
  simp
set_option maxRecDepth 100000 in
theorem walk {H : Type} (enc : TypeId × Value → H) (W : World) (args : Array Value) {base : Nat} {ds : List (DataW H)} {p : List MemPlace} (hn : args.size = 3) (hval : ∀ (j : Nat) t v, #[24, 22, 4][j]? = some t → args[j]? = some v → Value.okWide Try.prog W .any base t v)
    (hA : DataW.TrodAll enc Try.prog W 0 (fun _ => true) true Try.f4.params.toList args.toList ds p) : Calls Try.prog 4 args W fun e w' => e = .returned (.bool true) ∧ Grown W w' := by
  obtain ⟨l⟩ := args
  match l, hn with
  | [v0, v1, v2], _ =>
    rw [Try.params4] at hA
    match ds, hA with
    | [_, _, _], hA =>
    obtain ⟨p0, q0, ⟨n0, t0⟩, hA, _⟩ := hA
    obtain ⟨p1, q1, ⟨n1, t1⟩, hA, _⟩ := hA
    obtain ⟨p2, q2, ⟨n2, t2⟩, hA, _⟩ := hA
    obtain ⟨n, h0, _⟩ := val_int (k := .i8) Try.underlying24 (hval 0 24 v0 rfl rfl)
    obtain ⟨x, _, h1⟩ := val_flt (k := .f32) Try.underlying22 (hval 1 22 v1 rfl rfl)
    obtain ⟨b, h2⟩ := okWide_bool Try.underlying4 (hval 2 4 v2 rfl rfl)
    exact law_of2 (inlN_of (l := L3 fops isNum) ⟨cImpl, cSpec, trivial⟩ mixed 3 Try.func4 (by kernel_rfl) (fun _ => none))
      Try.func4 (by kernel_rfl) (by kernel_rfl) (law_run fops isNum n x b) AllT.nil (B_true n x b) (show RelVs (fun _ => none) [.c (.int .i8 (.s n)), .c (.flt .f32 x), .c (.bool (.s b))] [v0, v1, v2] from ⟨h0, h1, h2, trivial⟩) W

theorem fn_eq {H : Type} {ds : List (DataW H)} (h : ds.length = 3) : (Rows.fnExactNextStateSpec.fn H (ds ++ [])).results = [.lit (.bool true)] ∧ (Rows.fnExactNextStateSpec.fn H (ds ++ [])).args = ds ∧ (Rows.fnExactNextStateSpec.fn H (ds ++ [])).vars = [] := by
  match ds, h with
  | [_, _, _], _ => exact ⟨rfl, rfl, rfl⟩

/-! ### the row's step -/
set_option maxRecDepth 100000 in
theorem lifted (os : Os) (started : os.Started) (H : Type) (enc : TypeId × Value → H) :
    ReturnsInHanded {} Try.checked os 4 .any (Rows.fnExactNextStateSpec.pre6 enc Try.prog Try.f4 Rows.fnExactNextStateRow.domain false) (Rows.fnExactNextStateSpec.post enc Try.prog Try.f4 false true false false) := by
  refine returnsInHanded_of_change (C := Try.checked) own started (by kernel_rfl) Try.func4
    (ChangeSpec.witness6 (enc := enc) (C := Try.checked) false ⟨#[], #[.int .i8 0,.float .f32 0,.bool false], []⟩ 8 (by kernel_rfl) (by kernel_rfl) (by kernel_rfl) (by kernel_rfl)) ?_
  intro W base args ds gs before hval0 hW hcnd _
  have hval : ∀ (j : Nat) t v, Try.f4.params[j]? = some t → args[j]? = some v → Value.okWide Try.prog W .any base t v := hval0
  have hW' := hW
  obtain ⟨p, q, hA0, hV, rfl, hfz, hnd⟩ := hW
  have hA : DataW.TrodAll enc Try.prog W 0 (fun _ => true) true Try.f4.params.toList args.toList ds p := hA0
  obtain ⟨rfl, rfl⟩ := trodVars_none hV
  obtain ⟨hl1, hl2⟩ := trodAll_len hA
  have hlt := hW'.lt
  rw [Try.params4] at hl1 hl2 hval
  have hfn := fn_eq (H := H) (ds := ds) hl2
  refine (walk enc W args (by simpa using hl1) hval hA).mono fun e W' ⟨he, hg⟩ => ?_
  subst he
  exact ⟨_, rfl, post_of_same (pv := []) hW' (fun _ _ _ => by rw [hfn.1]; exact trodAll_cons_mk (shut_bool Try.underlying4 _) trodAll_mk0)
    (fun sp hsp => by rw [hfn.2.1]; exact args_stay kids full hg (by rw [Try.params4]; decide +kernel) hA (fun p hp => hlt p (by simpa using hp)) (fun p hp => hsp p (by simpa using hp)))
    (fun _ _ => by rw [hfn.2.2]; rfl) (by simp) (hg.frame _) hg.2.1 (ok_one (by kernel_rfl) rfl (okWide_bool_mk Try.underlying4 _))⟩

theorem over : Rows.fnExactNextStateRow.holds Try.pinned (OpenSpec.ofChange Rows.fnExactNextStateSpec) :=
  OpenClaim.holds_of_wide 4 Try.f4 rfl rfl rfl rfl rfl rfl rfl ⟨rfl, rfl, rfl, rfl, rfl⟩ rfl rfl rfl rfl rfl (by kernel_rfl) Try.func4 (by kernel_rfl)
    (of_decide_eq_true (by kernel_rfl)) (by unfold Func.isWrapper; first | (rw [if_pos (by decide +kernel)]; kernel_rfl) | (rw [if_neg (by decide +kernel)]; exact ⟨rfl, rfl⟩))
    (fun os started H enc _ => lifted os started H enc)

theorem proved : Rows.FnExactNextStateSaid :=
  over
#print axioms proved
end Go.Proofs.Ytohmpnnncpjjlaa.fnExactNextState
