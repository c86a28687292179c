/- The Go function laws.FnExactIsShare returns true, whatever its arguments. No condition. -/
import Derived.Test.YtohmpnnncpjjlaaRows
import Derived.Test.YtohmpnnncpjjlaaHp
import Derived.Test.YtohmpnnncpjjlaaAmt
import Derived.WalkKit
import Derived.ProofKit
import Derived.OpenShut
namespace Go.Proofs.Ytohmpnnncpjjlaa.fnExactIsShare
open Go.ChangeShapes Go.WideShapes Go.ChangeAt Go.RowKit

theorem own : ownKnob Try.prog.godebug = none := by kernel_rfl
theorem kids : Kids Try.prog (· < Try.prog.types.size) := kids_rows (by kernel_rfl) (by kernel_rfl)
theorem full : ∀ t e, t < Try.prog.types.size → Try.prog.underlying t = some (.slice e) → 0 < Try.prog.cellsOf e := slices_full_of Try.prog (by kernel_rfl)

noncomputable def L (O : FOps) (nm : Nat → Bool) : List (Nat × CS) := [(15, amtS), (47, amtS), (98, absS)]
set_option maxRecDepth 100000 in
theorem okL : AllOK Try.prog (L fops isNum) := ⟨cAmtI, cAmtL, cAbs, trivial⟩
noncomputable def RI (O : FOps) (nm : Nat → Bool) (x : Nat) : Option (SV × List Bool) := rE 1 (inl ⟨Try.prog, O, orcN Try.prog O (L O nm) 8⟩ Try.f19 ⟨fun _ => none, fun _ => none⟩ 1 [.c (.flt .f32 x)] [])
noncomputable def RS (O : FOps) (nm : Nat → Bool) (x : Nat) : Option (SV × List Bool) := rE 1 (inl ⟨Try.prog, O, orcN Try.prog O (L O nm) 8⟩ Try.f18 ⟨fun _ => none, fun _ => none⟩ 1 [.c (.flt .f32 x)] [])
set_option maxRecDepth 100000 in
theorem RI_plain (O : FOps) (nm : Nat → Bool) (x : Nat) : plainR (RI O nm x) = true := by kernel_rfl
set_option maxRecDepth 100000 in
theorem RS_eq (x : Nat) : RS fops isNum x = RI fops isNum x := by
  have h : ∀ (O : FOps) (nm : Nat → Bool), RS O nm x = RI O nm x := fun O nm => by kernel_rfl
  exact h fops isNum
noncomputable def Rr (O : FOps) (nm : Nat → Bool) : List SV → Option (SV × List Bool)
  | [.c (.flt .f32 x)] => RI O nm x
  | _ => none
set_option maxRecDepth 100000 in
theorem cImpl : CallOK Try.prog 19 (gS (runG (Rr fops isNum))) :=
  runG_ok (inlN_of (l := L fops isNum) okL mixed 8 Try.func19 (by kernel_rfl) (fun _ => none)) fun args x hx => by
    unfold Rr at hx
    split at hx <;> try (cases hx; done)
    obtain ⟨v, h1, h2⟩ := plainR_some (RI_plain fops isNum _)
    have h3 := h1.symm.trans hx
    cases h3
    exact ⟨rfl, hx, h2, rfl⟩
set_option maxRecDepth 100000 in
theorem cSpec : CallOK Try.prog 18 (gS (runG (Rr fops isNum))) :=
  runG_ok (inlN_of (l := L fops isNum) okL mixed 8 Try.func18 (by kernel_rfl) (fun _ => none)) fun args x hx => by
    unfold Rr at hx
    split at hx <;> try (cases hx; done)
    obtain ⟨v, h1, h2⟩ := plainR_some (RI_plain fops isNum _)
    have h3 := h1.symm.trans hx
    cases h3
    exact ⟨rfl, (RS_eq ..).trans hx, h2, rfl⟩
noncomputable def L3 (O : FOps) (nm : Nat → Bool) : List (Nat × CS) := [(19, gS (runG (Rr O nm))), (18, gS (runG (Rr O nm)))]
noncomputable def B (O : FOps) (nm : Nat → Bool) (x : Nat) : Bool := bif !(boolAt (RI O nm x) 0 == boolAt (RI O nm x) 0) then false else true
set_option maxRecDepth 100000 in
theorem law_run (O : FOps) (nm : Nat → Bool) (x : Nat) : rE 1 (inl ⟨Try.prog, O, orcN Try.prog O (L3 O nm) 3⟩ Try.f5 ⟨fun _ => none, fun _ => none⟩ 1 [.c (.flt .f32 x)] []) = some (.c (.bool (.s (B O nm x))), []) := by kernel_rfl
theorem B_true (x : Nat) : B fops isNum x = true := by
  unfold B
  simp
set_option maxRecDepth 100000 in
theorem walk {H : Type} (enc : TypeId × Value → H) (W : World) (args : Array Value) {base : Nat} {ds : List (DataW H)} {p : List MemPlace} (hn : args.size = 1) (hval : ∀ (j : Nat) t v, #[22][j]? = some t → args[j]? = some v → Value.okWide Try.prog W .any base t v)
    (hA : DataW.TrodAll enc Try.prog W 0 (fun _ => true) true Try.f5.params.toList args.toList ds p) : Calls Try.prog 5 args W fun e w' => e = .returned (.bool true) ∧ Grown W w' := by
  obtain ⟨l⟩ := args
  match l, hn with
  | [v0], _ =>
    rw [Try.params5] at hA
    match ds, hA with
    | [_], hA =>
    obtain ⟨p0, q0, ⟨n0, t0⟩, hA, _⟩ := hA
    obtain ⟨x, _, h0⟩ := val_flt (k := .f32) Try.underlying22 (hval 0 22 v0 rfl rfl)
    exact law_of2 (inlN_of (l := L3 fops isNum) ⟨cImpl, cSpec, trivial⟩ mixed 3 Try.func5 (by kernel_rfl) (fun _ => none))
      Try.func5 (by kernel_rfl) (by kernel_rfl) (law_run fops isNum x) AllT.nil (B_true x) (show RelVs (fun _ => none) [.c (.flt .f32 x)] [v0] from ⟨h0, trivial⟩) W

theorem fn_eq {H : Type} {ds : List (DataW H)} (h : ds.length = 1) : (Rows.fnExactIsShareSpec.fn H (ds ++ [])).results = [.lit (.bool true)] ∧ (Rows.fnExactIsShareSpec.fn H (ds ++ [])).args = ds ∧ (Rows.fnExactIsShareSpec.fn H (ds ++ [])).vars = [] := by
  match ds, h with
  | [_], _ => exact ⟨rfl, rfl, rfl⟩

/-! ### the row's step -/
set_option maxRecDepth 100000 in
theorem lifted (os : Os) (started : os.Started) (H : Type) (enc : TypeId × Value → H) :
    ReturnsInHanded {} Try.checked os 5 .any (Rows.fnExactIsShareSpec.pre6 enc Try.prog Try.f5 Rows.fnExactIsShareRow.domain false) (Rows.fnExactIsShareSpec.post enc Try.prog Try.f5 false true false false) := by
  refine returnsInHanded_of_change (C := Try.checked) own started (by kernel_rfl) Try.func5
    (ChangeSpec.witness6 (enc := enc) (C := Try.checked) false ⟨#[], #[.float .f32 0], []⟩ 8 (by kernel_rfl) (by kernel_rfl) (by kernel_rfl) (by kernel_rfl)) ?_
  intro W base args ds gs before hval0 hW hcnd _
  have hval : ∀ (j : Nat) t v, Try.f5.params[j]? = some t → args[j]? = some v → Value.okWide Try.prog W .any base t v := hval0
  have hW' := hW
  obtain ⟨p, q, hA0, hV, rfl, hfz, hnd⟩ := hW
  have hA : DataW.TrodAll enc Try.prog W 0 (fun _ => true) true Try.f5.params.toList args.toList ds p := hA0
  obtain ⟨rfl, rfl⟩ := trodVars_none hV
  obtain ⟨hl1, hl2⟩ := trodAll_len hA
  have hlt := hW'.lt
  rw [Try.params5] at hl1 hl2 hval
  have hfn := fn_eq (H := H) (ds := ds) hl2
  refine (walk enc W args (by simpa using hl1) hval hA).mono fun e W' ⟨he, hg⟩ => ?_
  subst he
  exact ⟨_, rfl, post_of_same (pv := []) hW' (fun _ _ _ => by rw [hfn.1]; exact trodAll_cons_mk (shut_bool Try.underlying4 _) trodAll_mk0)
    (fun sp hsp => by rw [hfn.2.1]; exact args_stay kids full hg (by rw [Try.params5]; decide +kernel) hA (fun p hp => hlt p (by simpa using hp)) (fun p hp => hsp p (by simpa using hp)))
    (fun _ _ => by rw [hfn.2.2]; rfl) (by simp) (hg.frame _) hg.2.1 (ok_one (by kernel_rfl) rfl (okWide_bool_mk Try.underlying4 _))⟩

theorem over : Rows.fnExactIsShareRow.holds Try.pinned (OpenSpec.ofChange Rows.fnExactIsShareSpec) :=
  OpenClaim.holds_of_wide 5 Try.f5 rfl rfl rfl rfl rfl rfl rfl ⟨rfl, rfl, rfl, rfl, rfl⟩ rfl rfl rfl rfl rfl (by kernel_rfl) Try.func5 (by kernel_rfl)
    (of_decide_eq_true (by kernel_rfl)) (by unfold Func.isWrapper; first | (rw [if_pos (by decide +kernel)]; kernel_rfl) | (rw [if_neg (by decide +kernel)]; exact ⟨rfl, rfl⟩))
    (fun os started H enc _ => lifted os started H enc)

theorem proved : Rows.FnExactIsShareSaid :=
  over
#print axioms proved
end Go.Proofs.Ytohmpnnncpjjlaa.fnExactIsShare
