/- The Go function laws.FnExactBurnStep returns true, whatever its arguments. No condition. -/
import Derived.Test.YtmikpabmlclpiaaRows
import Derived.Test.YtmikpabmlclpiaaStq
import Derived.WalkKit
import Derived.ProofKit
import Derived.OpenShut
namespace Go.Proofs.Ytmikpabmlclpiaa.fnExactBurnStep
open Go.ChangeShapes Go.WideShapes Go.ChangeAt Go.RowKit

theorem own : ownKnob Try.prog.godebug = none := by kernel_rfl
theorem kids : Kids Try.prog (· < Try.prog.types.size) := kids_rows (by kernel_rfl) (by kernel_rfl)
theorem full : ∀ t e, t < Try.prog.types.size → Try.prog.underlying t = some (.slice e) → 0 < Try.prog.cellsOf e := slices_full_of Try.prog (by kernel_rfl)

noncomputable def L (O : FOps) (nm : Nat → Bool) (vl : (Nat → Nat) → Bool) : List (Nat × CS) := [(79, amtS), (78, amtS), (61, gQ [.s 1] (finG nm)), (58, gS (fin1G nm)), (19, gS (validG vl)), (51, gQ [.p 18] (validG vl)), (69, gS (burnG O burnI (fun O w a t => hsI O w a t 6) (fun O w a t => fsI O w a t 6))), (68, gQ [.p 18, .v, .v] (burnG O burnS (fun O w a t => hsS O w a t 5) (fun O w a t => fsS O w a t 5)))]
set_option maxRecDepth 100000 in
theorem okL : AllOK Try.prog (L fops isNum valid) := ⟨cAmtI, cAmtL, cFin, cFinL, cValI, cValS, cBurnI, cBurnS, trivial⟩
noncomputable def RI (O : FOps) (nm : Nat → Bool) (vl : (Nat → Nat) → Bool) (w : Nat → Nat) (a t : Nat) : Option (SV × List Bool) := rE 1 (inl ⟨Try.prog, O, orcN Try.prog O (L O nm vl) 8⟩ Try.f41 ⟨fun _ => none, fun _ => none⟩ 1 [wd w, .c (.flt .f32 a), .c (.flt .f32 t)] [])
noncomputable def RS (O : FOps) (nm : Nat → Bool) (vl : (Nat → Nat) → Bool) (w : Nat → Nat) (a t : Nat) : Option (SV × List Bool) := rE 1 (inl ⟨Try.prog, O, orcN Try.prog O (L O nm vl) 8⟩ Try.f40 ⟨fun _ => none, fun _ => none⟩ 1 [wd w, .c (.flt .f32 a), .c (.flt .f32 t)] [])
set_option maxRecDepth 100000 in
theorem RI_plain (O : FOps) (nm : Nat → Bool) (vl : (Nat → Nat) → Bool) (w : Nat → Nat) (a t : Nat) : plainR (RI O nm vl w a t) = true := by kernel_rfl
def outF (V S : Bool) (d : Nat → Nat) (s u : Nat) : SV := .tup [.a (wdL fun i => bif !V then 0 else bif S then 0 else d i), .c (.flt .f32 (bif !V then 0 else bif S then 0 else s)), .c (.flt .f32 (bif !V then 0 else bif S then 0 else u)), .c (.int .i64 (.s (bif !V then 1 else bif S then 2 else 0)))]
set_option maxRecDepth 100000 in
theorem RI_out (O : FOps) (nm : Nat → Bool) (vl : (Nat → Nat) → Bool) (w : Nat → Nat) (a t : Nat) : RI O nm vl w a t = some (outF (vl (back w)) (bif !shareB O t then true else !shareB O a) (burnI O (back w) a t) (hsI O (back w) a t 6) (fsI O (back w) a t 6), []) := by kernel_rfl
set_option maxRecDepth 100000 in
theorem RS_out (O : FOps) (nm : Nat → Bool) (vl : (Nat → Nat) → Bool) (w : Nat → Nat) (a t : Nat) : RS O nm vl w a t = some (outF (vl (back w)) (bif !shareB O a then true else !shareB O t) (burnS O (back w) a t) (hsS O (back w) a t 5) (fsS O (back w) a t 5), []) := by kernel_rfl
theorem out_eq {w : Nat → Nat} (hc : ∀ i, i < 18 → Cn .f32 (w i)) (a t : Nat) : outF (valid w) (bif !shareB fops a then true else !shareB fops t) (burnS fops w a t) (hsS fops w a t 5) (fsS fops w a t 5) = outF (valid w) (bif !shareB fops t then true else !shareB fops a) (burnI fops w a t) (hsI fops w a t 6) (fsI fops w a t 6) := by
  cases hv : valid w with
  | false => rfl
  | true =>
    cases ha : shareB fops a with
    | false => cases shareB fops t <;> rfl
    | true =>
      cases hs : shareB fops t with
      | false => rfl
      | true =>
        have hw := inv_of hc hv
        rw [burn_eq hw (share_of ha) (share_of hs), (given_eq hw (share_of ha) (share_of hs)).1, (burnt_eq hw (share_of ha) (share_of hs)).1]
theorem RS_eq (w : Nat → Nat) (a t : Nat) (hc : ∀ i, i < 18 → Cn .f32 (w i)) : RS fops isNum valid w a t = RI fops isNum valid w a t := by rw [RI_out, RS_out, out_eq (back_cn hc)]
noncomputable def Rr (O : FOps) (nm : Nat → Bool) (vl : (Nat → Nat) → Bool) : List SV → Option (SV × List Bool)
  | [v, .c (.flt .f32 a), .c (.flt .f32 t)] => match wdOf v with
    | some w => RI O nm vl w a t
    | none => none
  | _ => none
set_option maxRecDepth 100000 in
theorem cImpl : CallOK Try.prog 41 (gS (runG (Rr fops isNum valid))) :=
  runG_ok' (inlN_of (l := L fops isNum valid) okL mixed 8 Try.func41 (by kernel_rfl) (fun _ => none)) fun args x E vals hx hrel => by
    unfold Rr at hx
    split at hx
    · split at hx
      · rename_i w hw
        have hv := wdOf_ok hw
        subst hv
        have hcn : ∀ i, i < 18 → Cn .f32 (w i) := fun i hi => by
          match vals, hrel with
          | u :: _, hrel => exact wd_cn hrel.1 i hi
        obtain ⟨v, h1, h2⟩ := plainR_some (RI_plain fops isNum valid w _ _)
        have h3 := h1.symm.trans hx
        cases h3
        exact ⟨rfl, hx, h2, rfl⟩
      · cases hx
    · cases hx
set_option maxRecDepth 100000 in
theorem cSpec : CallOK Try.prog 40 (gS (runG (Rr fops isNum valid))) :=
  runG_ok' (inlN_of (l := L fops isNum valid) okL mixed 8 Try.func40 (by kernel_rfl) (fun _ => none)) fun args x E vals hx hrel => by
    unfold Rr at hx
    split at hx
    · split at hx
      · rename_i w hw
        have hv := wdOf_ok hw
        subst hv
        have hcn : ∀ i, i < 18 → Cn .f32 (w i) := fun i hi => by
          match vals, hrel with
          | u :: _, hrel => exact wd_cn hrel.1 i hi
        obtain ⟨v, h1, h2⟩ := plainR_some (RI_plain fops isNum valid w _ _)
        have h3 := h1.symm.trans hx
        cases h3
        exact ⟨rfl, (RS_eq _ _ _ (fun i hi => hcn i hi)).trans hx, h2, rfl⟩
      · cases hx
    · cases hx
noncomputable def L3 (O : FOps) (nm : Nat → Bool) (vl : (Nat → Nat) → Bool) : List (Nat × CS) := [(41, gS (runG (Rr O nm vl))), (40, gS (runG (Rr O nm vl))), (32, gS (sfG O)), (22, gS (eqG O))]
noncomputable def B (O : FOps) (nm : Nat → Bool) (vl : (Nat → Nat) → Bool) (w : Nat → Nat) (a t : Nat) : Bool := bif (bif !eqW O (fltsAt (RI O nm vl (back w) a t) 0) (fltsAt (RI O nm vl (back w) a t) 0) then true else (bif !(sf O (O.conv .f32 .f64 (fltAt (RI O nm vl (back w) a t) 1)) (O.conv .f32 .f64 (fltAt (RI O nm vl (back w) a t) 1))) then true else (bif !(sf O (O.conv .f32 .f64 (fltAt (RI O nm vl (back w) a t) 2)) (O.conv .f32 .f64 (fltAt (RI O nm vl (back w) a t) 2))) then true else !decide (intAt (RI O nm vl (back w) a t) 3 = intAt (RI O nm vl (back w) a t) 3)))) then false else true
set_option maxRecDepth 100000 in
theorem law_run (O : FOps) (nm : Nat → Bool) (vl : (Nat → Nat) → Bool) (w : Nat → Nat) (a t : Nat) : rE 1 (inl ⟨Try.prog, O, orcN Try.prog O (L3 O nm vl) 3⟩ Try.f11 ⟨fun _ => none, fun _ => none⟩ 1 [wd w, .c (.flt .f32 a), .c (.flt .f32 t)] []) = some (.c (.bool (.s (B O nm vl w a t))), []) := by kernel_rfl
theorem B_true (w : Nat → Nat) (a t : Nat) : B fops isNum valid w a t = true := by
  unfold B
  simp [sf_self, eqW_self]
set_option maxRecDepth 100000 in
theorem walk {H : Type} (enc : TypeId × Value → H) (W : World) (args : Array Value) {base : Nat} {ds : List (DataW H)} {p : List MemPlace} (hn : args.size = 3) (hval : ∀ (j : Nat) t v, #[25, 22, 22][j]? = some t → args[j]? = some v → Value.okWide Try.prog W .any base t v)
    (_ : DataW.TrodAll enc Try.prog W 0 (fun _ => true) true Try.f11.params.toList args.toList ds p) : Calls Try.prog 11 args W fun e w' => e = .returned (.bool true) ∧ Grown W w' := by
  obtain ⟨l⟩ := args
  match l, hn with
  | [v0, v1, v2], _ =>
    obtain ⟨w, _, h0⟩ := wd_rel (E := fun _ => none) (hval 0 25 v0 rfl rfl)
    obtain ⟨a, _, h1⟩ := val_flt (k := .f32) Try.underlying22 (hval 1 22 v1 rfl rfl)
    obtain ⟨t, _, h2⟩ := val_flt (k := .f32) Try.underlying22 (hval 2 22 v2 rfl rfl)
    exact law_of2 (inlN_of (l := L3 fops isNum valid) ⟨cImpl, cSpec, cSf, cEq, trivial⟩ mixed 3 Try.func11 (by kernel_rfl) (fun _ => none))
      Try.func11 (by kernel_rfl) (by kernel_rfl) (law_run fops isNum valid w a t) AllT.nil (B_true w a t) (show RelVs (fun _ => none) [wd w, .c (.flt .f32 a), .c (.flt .f32 t)] [v0, v1, v2] from ⟨h0, h1, h2, trivial⟩) W

theorem fn_eq {H : Type} {ds : List (DataW H)} (h : ds.length = 3) : (Rows.fnExactBurnStepSpec.fn H (ds ++ [])).results = [.lit (.bool true)] ∧ (Rows.fnExactBurnStepSpec.fn H (ds ++ [])).args = ds ∧ (Rows.fnExactBurnStepSpec.fn H (ds ++ [])).vars = [] := by
  match ds, h with
  | [_, _, _], _ => exact ⟨rfl, rfl, rfl⟩

/-! ### the row's step -/
set_option maxRecDepth 100000 in
theorem lifted (os : Os) (started : os.Started) (H : Type) (enc : TypeId × Value → H) :
    ReturnsInHanded {} Try.checked os 11 .any (Rows.fnExactBurnStepSpec.pre6 enc Try.prog Try.f11 Rows.fnExactBurnStepRow.domain false) (Rows.fnExactBurnStepSpec.post enc Try.prog Try.f11 false true false false) := by
  refine returnsInHanded_of_change (C := Try.checked) own started (by kernel_rfl) Try.func11
    (ChangeSpec.witness6 (enc := enc) (C := Try.checked) false ⟨#[], #[.agg #[.float .f32 0, .float .f32 0, .float .f32 0, .float .f32 0, .float .f32 0, .float .f32 0, .float .f32 0, .float .f32 0, .float .f32 0, .float .f32 0, .float .f32 0, .float .f32 0, .float .f32 0, .float .f32 0, .float .f32 0, .float .f32 0, .float .f32 0, .float .f32 0],.float .f32 0,.float .f32 0], []⟩ 8 (by kernel_rfl) (by kernel_rfl) (by kernel_rfl) (by kernel_rfl)) ?_
  intro W base args ds gs before hval0 hW hcnd _
  have hval : ∀ (j : Nat) t v, Try.f11.params[j]? = some t → args[j]? = some v → Value.okWide Try.prog W .any base t v := hval0
  have hW' := hW
  obtain ⟨p, q, hA0, hV, rfl, hfz, hnd⟩ := hW
  have hA : DataW.TrodAll enc Try.prog W 0 (fun _ => true) true Try.f11.params.toList args.toList ds p := hA0
  obtain ⟨rfl, rfl⟩ := trodVars_none hV
  obtain ⟨hl1, hl2⟩ := trodAll_len hA
  have hlt := hW'.lt
  rw [Try.params11] at hl1 hl2 hval
  have hfn := fn_eq (H := H) (ds := ds) hl2
  refine (walk enc W args (by simpa using hl1) hval hA).mono fun e W' ⟨he, hg⟩ => ?_
  subst he
  exact ⟨_, rfl, post_of_same (pv := []) hW' (fun _ _ _ => by rw [hfn.1]; exact trodAll_cons_mk (shut_bool Try.underlying4 _) trodAll_mk0)
    (fun sp hsp => by rw [hfn.2.1]; exact args_stay kids full hg (by rw [Try.params11]; decide +kernel) hA (fun p hp => hlt p (by simpa using hp)) (fun p hp => hsp p (by simpa using hp)))
    (fun _ _ => by rw [hfn.2.2]; rfl) (by simp) (hg.frame _) hg.2.1 (ok_one (by kernel_rfl) rfl (okWide_bool_mk Try.underlying4 _))⟩

theorem over : Rows.fnExactBurnStepRow.holds Try.pinned (OpenSpec.ofChange Rows.fnExactBurnStepSpec) :=
  OpenClaim.holds_of_wide 11 Try.f11 rfl rfl rfl rfl rfl rfl rfl ⟨rfl, rfl, rfl, rfl, rfl⟩ rfl rfl rfl rfl rfl (by kernel_rfl) Try.func11 (by kernel_rfl)
    (of_decide_eq_true (by kernel_rfl)) (by unfold Func.isWrapper; first | (rw [if_pos (by decide +kernel)]; kernel_rfl) | (rw [if_neg (by decide +kernel)]; exact ⟨rfl, rfl⟩))
    (fun os started H enc _ => lifted os started H enc)

theorem proved : Rows.FnExactBurnStepSaid :=
  over
#print axioms proved
end Go.Proofs.Ytmikpabmlclpiaa.fnExactBurnStep
