/- The Go function laws.FnExactLogStep returns true, whatever its arguments. No condition. -/
import Derived.Test.YtmikpabmlclpiaaRows
import Derived.Test.YtmikpabmlclpiaaLst
import Derived.WalkKit
import Derived.ProofKit
import Derived.OpenShut
namespace Go.Proofs.Ytmikpabmlclpiaa.fnExactLogStep
open Go.ChangeShapes Go.WideShapes Go.ChangeAt Go.RowKit

theorem own : ownKnob Try.prog.godebug = none := by kernel_rfl
theorem kids : Kids Try.prog (· < Try.prog.types.size) := kids_rows (by kernel_rfl) (by kernel_rfl)
theorem full : ∀ t e, t < Try.prog.types.size → Try.prog.underlying t = some (.slice e) → 0 < Try.prog.cellsOf e := slices_full_of Try.prog (by kernel_rfl)

noncomputable def L (O : FOps) (nm : Nat → Bool) (vl : (Nat → Nat) → Bool) : List (Nat × CS) := [(79, amtS), (78, amtS), (61, gQ [.s 1] (finG nm)), (58, gS (fin1G nm)), (19, gS (validG vl)), (51, gQ [.p 18] (validG vl)), (75, gS (stepG O nm)), (73, gQ [.p 18, .v, .v, .v] (stepSG O nm))]
set_option maxRecDepth 100000 in
theorem okL : AllOK Try.prog (L fops isNum valid) := ⟨cAmtI, cAmtL, cFin, cFinL, cValI, cValS, cStepI, cStepS, trivial⟩
noncomputable def RI (O : FOps) (nm : Nat → Bool) (vl : (Nat → Nat) → Bool) (w : Nat → Nat) (r a t : Nat) : Option (SV × List Bool) := rE 1 (inl ⟨Try.prog, O, orcN Try.prog O (L O nm vl) 8⟩ Try.f45 ⟨fun _ => none, fun _ => none⟩ 1 [wd w, .c (.flt .f32 r), .c (.flt .f32 a), .c (.flt .f32 t)] [])
noncomputable def RS (O : FOps) (nm : Nat → Bool) (vl : (Nat → Nat) → Bool) (w : Nat → Nat) (r a t : Nat) : Option (SV × List Bool) := rE 1 (inl ⟨Try.prog, O, orcN Try.prog O (L O nm vl) 8⟩ Try.f44 ⟨fun _ => none, fun _ => none⟩ 1 [wd w, .c (.flt .f32 r), .c (.flt .f32 a), .c (.flt .f32 t)] [])
set_option maxRecDepth 100000 in
theorem RI_plain (O : FOps) (nm : Nat → Bool) (vl : (Nat → Nat) → Bool) (w : Nat → Nat) (r a t : Nat) : plainR (RI O nm vl w r a t) = true := by kernel_rfl
def code (V R : Bool) : Int := bif !V then 1 else bif (!!V && R) then 2 else 0
def bad (V R : Bool) : Bool := !decide (code V R = 0)
def outI (V R K : Bool) (d : Nat → Nat) (h s u : Nat) : SV := .tup [.a (wdL fun i => bif bad V R then 0 else bif !K then 0 else d i), .c (.flt .f32 (bif bad V R then 0 else bif !K then 0 else h)), .c (.flt .f32 (bif bad V R then 0 else bif !K then 0 else s)), .c (.flt .f32 (bif bad V R then 0 else bif !K then 0 else u)), .c (.int .i64 (.s (bif bad V R then code V R else bif !K then 4 else 0)))]
noncomputable def rgI (O : FOps) (nm : Nat → Bool) (r a t : Nat) : Bool := bif !allB nm [r] then true else bif !shareB O a then true else bif shareB O t then false else true
noncomputable def rgS (O : FOps) (nm : Nat → Bool) (r a t : Nat) : Bool := bif !nm r then true else bif !shareB O a then true else !shareB O t
set_option maxRecDepth 100000 in
theorem RI_out (O : FOps) (nm : Nat → Bool) (vl : (Nat → Nat) → Bool) (w : Nat → Nat) (r a t : Nat) : RI O nm vl w r a t = some (outI (vl (back w)) (rgI O nm r a t) (okF O (back w) r a t nm) (w3I O (back w) r a t) (htF O (back w) r a t) (smF O (back w) r t) (fuF O (back w) r a t), []) := by kernel_rfl
def codeS (V R : Bool) : Int := bif !V then 1 else bif R then 2 else 0
def badS (V R : Bool) : Bool := !decide (codeS V R = 0)
noncomputable def outS (O : FOps) (nm : Nat → Bool) (V R : Bool) (w : Nat → Nat) (r a t : Nat) : SV :=
  .tup [.a (wdL fun i => bif badS V R then 0 else bif badF O w r t nm then 0 else w3S O w r a t nm i), .c (.flt .f32 (bif badS V R then 0 else bif badF O w r t nm then 0 else O.bin .sub .f32 (hsS O (w2S O w r t nm) a t 5) (inS O w r t nm))),
    .c (.flt .f32 (bif badS V R then 0 else bif badF O w r t nm then 0 else smS O (w1S O w r t nm) t 5)), .c (.flt .f32 (bif badS V R then 0 else bif badF O w r t nm then 0 else fsS O (w2S O w r t nm) a t 5)),
    .c (.int .i64 (.s (bif badS V R then codeS V R else bif badF O w r t nm then (bif !nm (inI O w r t) then 4 else 0) else 0)))]
set_option maxRecDepth 100000 in
theorem RS_out (O : FOps) (nm : Nat → Bool) (vl : (Nat → Nat) → Bool) (w : Nat → Nat) (r a t : Nat) : RS O nm vl w r a t = some (outS O nm (vl (back w)) (rgS O nm r a t) (back w) r a t, []) := by kernel_rfl
theorem rg_eq (O : FOps) (nm : Nat → Bool) (r a t : Nat) : rgI O nm r a t = rgS O nm r a t := by
  unfold rgI rgS
  show (bif !(bif nm r then true else false) then _ else _) = _
  cases nm r <;> cases shareB O a <;> cases shareB O t <;> rfl
theorem out_eq {w : Nat → Nat} (hc : ∀ i, i < 18 → Cn .f32 (w i)) (r a t : Nat) :
    outS fops isNum (valid w) (rgS fops isNum r a t) w r a t = outI (valid w) (rgS fops isNum r a t) (okF fops w r a t isNum) (w3I fops w r a t) (htF fops w r a t) (smF fops w r t) (fuF fops w r a t) := by
  cases hv : valid w with
  | false =>
    unfold outS outI
    have h1 : badS false (rgS fops isNum r a t) = true := rfl
    have h2 : bad false (rgS fops isNum r a t) = true := by unfold bad code; rfl
    rw [h1, h2]; rfl
  | true =>
    cases hg : rgS fops isNum r a t with
    | true =>
      unfold outS outI
      have h1 : badS true true = true := rfl
      have h2 : bad true true = true := rfl
      rw [h1, h2]; rfl
    | false =>
      have hs : Share a ∧ Share t := by
        unfold rgS at hg
        cases h1 : shareB fops a with
        | false => rw [h1] at hg; cases h2 : isNum r <;> rw [h2] at hg <;> cases hg
        | true =>
          cases h3 : shareB fops t with
          | false => rw [h1, h3] at hg; cases h2 : isNum r <;> rw [h2] at hg <;> cases hg
          | true => exact ⟨share_of h1, share_of h3⟩
      have hw := inv_of hc hv
      have e1 := step_eq hw (r := r) hs.1 hs.2
      have e2 : outS fops isNum true false w r a t = stepSv fops isNum w r a t := by
        unfold outS
        have h1 : badS true false = false := rfl
        rw [h1]; rfl
      rw [e2, e1, ok_eq hw hs.1 hs.2]
      unfold outI stepV
      have h2 : bad true false = false := rfl
      rw [h2]; rfl
theorem RS_eq (w : Nat → Nat) (r a t : Nat) (hc : ∀ i, i < 18 → Cn .f32 (w i)) : RS fops isNum valid w r a t = RI fops isNum valid w r a t := by rw [RI_out, RS_out, rg_eq, out_eq (back_cn hc)]
noncomputable def Rr (O : FOps) (nm : Nat → Bool) (vl : (Nat → Nat) → Bool) : List SV → Option (SV × List Bool)
  | [v, .c (.flt .f32 r), .c (.flt .f32 a), .c (.flt .f32 t)] => match wdOf v with
    | some w => RI O nm vl w r a t
    | none => none
  | _ => none
set_option maxRecDepth 100000 in
theorem cImpl : CallOK Try.prog 45 (gS (runG (Rr fops isNum valid))) :=
  runG_ok' (inlN_of (l := L fops isNum valid) okL mixed 8 Try.func45 (by kernel_rfl) (fun _ => none)) fun args x E vals hx hrel => by
    unfold Rr at hx
    split at hx
    · split at hx
      · rename_i w hw
        have hv := wdOf_ok hw
        subst hv
        have hcn : ∀ i, i < 18 → Cn .f32 (w i) := fun i hi => by
          match vals, hrel with
          | u :: _, hrel => exact wd_cn hrel.1 i hi
        obtain ⟨v, h1, h2⟩ := plainR_some (RI_plain fops isNum valid w _ _ _)
        have h3 := h1.symm.trans hx
        cases h3
        exact ⟨rfl, hx, h2, rfl⟩
      · cases hx
    · cases hx
set_option maxRecDepth 100000 in
theorem cSpec : CallOK Try.prog 44 (gS (runG (Rr fops isNum valid))) :=
  runG_ok' (inlN_of (l := L fops isNum valid) okL mixed 8 Try.func44 (by kernel_rfl) (fun _ => none)) fun args x E vals hx hrel => by
    unfold Rr at hx
    split at hx
    · split at hx
      · rename_i w hw
        have hv := wdOf_ok hw
        subst hv
        have hcn : ∀ i, i < 18 → Cn .f32 (w i) := fun i hi => by
          match vals, hrel with
          | u :: _, hrel => exact wd_cn hrel.1 i hi
        obtain ⟨v, h1, h2⟩ := plainR_some (RI_plain fops isNum valid w _ _ _)
        have h3 := h1.symm.trans hx
        cases h3
        exact ⟨rfl, (RS_eq _ _ _ _ (fun i hi => hcn i hi)).trans hx, h2, rfl⟩
      · cases hx
    · cases hx
noncomputable def L3 (O : FOps) (nm : Nat → Bool) (vl : (Nat → Nat) → Bool) : List (Nat × CS) := [(45, gS (runG (Rr O nm vl))), (44, gS (runG (Rr O nm vl))), (32, gS (sfG O)), (22, gS (eqG O))]
noncomputable def B (O : FOps) (nm : Nat → Bool) (vl : (Nat → Nat) → Bool) (w : Nat → Nat) (r a t : Nat) : Bool := bif (bif !eqW O (fltsAt (RI O nm vl (back w) r a t) 0) (fltsAt (RI O nm vl (back w) r a t) 0) then true else (bif !(sf O (O.conv .f32 .f64 (fltAt (RI O nm vl (back w) r a t) 1)) (O.conv .f32 .f64 (fltAt (RI O nm vl (back w) r a t) 1))) then true else (bif !(sf O (O.conv .f32 .f64 (fltAt (RI O nm vl (back w) r a t) 2)) (O.conv .f32 .f64 (fltAt (RI O nm vl (back w) r a t) 2))) then true else (bif !(sf O (O.conv .f32 .f64 (fltAt (RI O nm vl (back w) r a t) 3)) (O.conv .f32 .f64 (fltAt (RI O nm vl (back w) r a t) 3))) then true else !decide (intAt (RI O nm vl (back w) r a t) 4 = intAt (RI O nm vl (back w) r a t) 4))))) then false else true
set_option maxRecDepth 100000 in
theorem law_run (O : FOps) (nm : Nat → Bool) (vl : (Nat → Nat) → Bool) (w : Nat → Nat) (r a t : Nat) : rE 1 (inl ⟨Try.prog, O, orcN Try.prog O (L3 O nm vl) 3⟩ Try.f13 ⟨fun _ => none, fun _ => none⟩ 1 [wd w, .c (.flt .f32 r), .c (.flt .f32 a), .c (.flt .f32 t)] []) = some (.c (.bool (.s (B O nm vl w r a t))), []) := by kernel_rfl
theorem B_true (w : Nat → Nat) (r a t : Nat) : B fops isNum valid w r a t = true := by
  unfold B
  simp [sf_self, eqW_self]
set_option maxRecDepth 100000 in
theorem walk {H : Type} (enc : TypeId × Value → H) (W : World) (args : Array Value) {base : Nat} {ds : List (DataW H)} {p : List MemPlace} (hn : args.size = 4) (hval : ∀ (j : Nat) t v, #[25, 22, 22, 22][j]? = some t → args[j]? = some v → Value.okWide Try.prog W .any base t v)
    (_ : DataW.TrodAll enc Try.prog W 0 (fun _ => true) true Try.f13.params.toList args.toList ds p) : Calls Try.prog 13 args W fun e w' => e = .returned (.bool true) ∧ Grown W w' := by
  obtain ⟨l⟩ := args
  match l, hn with
  | [v0, v1, v2, v3], _ =>
    obtain ⟨w, _, h0⟩ := wd_rel (E := fun _ => none) (hval 0 25 v0 rfl rfl)
    obtain ⟨r, _, h1⟩ := val_flt (k := .f32) Try.underlying22 (hval 1 22 v1 rfl rfl)
    obtain ⟨a, _, h2⟩ := val_flt (k := .f32) Try.underlying22 (hval 2 22 v2 rfl rfl)
    obtain ⟨t, _, h3⟩ := val_flt (k := .f32) Try.underlying22 (hval 3 22 v3 rfl rfl)
    exact law_of2 (inlN_of (l := L3 fops isNum valid) ⟨cImpl, cSpec, cSf, cEq, trivial⟩ mixed 3 Try.func13 (by kernel_rfl) (fun _ => none))
      Try.func13 (by kernel_rfl) (by kernel_rfl) (law_run fops isNum valid w r a t) AllT.nil (B_true w r a t) (show RelVs (fun _ => none) [wd w, .c (.flt .f32 r), .c (.flt .f32 a), .c (.flt .f32 t)] [v0, v1, v2, v3] from ⟨h0, h1, h2, h3, trivial⟩) W

theorem fn_eq {H : Type} {ds : List (DataW H)} (h : ds.length = 4) : (Rows.fnExactLogStepSpec.fn H (ds ++ [])).results = [.lit (.bool true)] ∧ (Rows.fnExactLogStepSpec.fn H (ds ++ [])).args = ds ∧ (Rows.fnExactLogStepSpec.fn H (ds ++ [])).vars = [] := by
  match ds, h with
  | [_, _, _, _], _ => exact ⟨rfl, rfl, rfl⟩

/-! ### the row's step -/
set_option maxRecDepth 100000 in
theorem lifted (os : Os) (started : os.Started) (H : Type) (enc : TypeId × Value → H) :
    ReturnsInHanded {} Try.checked os 13 .any (Rows.fnExactLogStepSpec.pre6 enc Try.prog Try.f13 Rows.fnExactLogStepRow.domain false) (Rows.fnExactLogStepSpec.post enc Try.prog Try.f13 false true false false) := by
  refine returnsInHanded_of_change (C := Try.checked) own started (by kernel_rfl) Try.func13
    (ChangeSpec.witness6 (enc := enc) (C := Try.checked) false ⟨#[], #[.agg #[.float .f32 0, .float .f32 0, .float .f32 0, .float .f32 0, .float .f32 0, .float .f32 0, .float .f32 0, .float .f32 0, .float .f32 0, .float .f32 0, .float .f32 0, .float .f32 0, .float .f32 0, .float .f32 0, .float .f32 0, .float .f32 0, .float .f32 0, .float .f32 0],.float .f32 0,.float .f32 0,.float .f32 0], []⟩ 8 (by kernel_rfl) (by kernel_rfl) (by kernel_rfl) (by kernel_rfl)) ?_
  intro W base args ds gs before hval0 hW hcnd _
  have hval : ∀ (j : Nat) t v, Try.f13.params[j]? = some t → args[j]? = some v → Value.okWide Try.prog W .any base t v := hval0
  have hW' := hW
  obtain ⟨p, q, hA0, hV, rfl, hfz, hnd⟩ := hW
  have hA : DataW.TrodAll enc Try.prog W 0 (fun _ => true) true Try.f13.params.toList args.toList ds p := hA0
  obtain ⟨rfl, rfl⟩ := trodVars_none hV
  obtain ⟨hl1, hl2⟩ := trodAll_len hA
  have hlt := hW'.lt
  rw [Try.params13] at hl1 hl2 hval
  have hfn := fn_eq (H := H) (ds := ds) hl2
  refine (walk enc W args (by simpa using hl1) hval hA).mono fun e W' ⟨he, hg⟩ => ?_
  subst he
  exact ⟨_, rfl, post_of_same (pv := []) hW' (fun _ _ _ => by rw [hfn.1]; exact trodAll_cons_mk (shut_bool Try.underlying4 _) trodAll_mk0)
    (fun sp hsp => by rw [hfn.2.1]; exact args_stay kids full hg (by rw [Try.params13]; decide +kernel) hA (fun p hp => hlt p (by simpa using hp)) (fun p hp => hsp p (by simpa using hp)))
    (fun _ _ => by rw [hfn.2.2]; rfl) (by simp) (hg.frame _) hg.2.1 (ok_one (by kernel_rfl) rfl (okWide_bool_mk Try.underlying4 _))⟩

theorem over : Rows.fnExactLogStepRow.holds Try.pinned (OpenSpec.ofChange Rows.fnExactLogStepSpec) :=
  OpenClaim.holds_of_wide 13 Try.f13 rfl rfl rfl rfl rfl rfl rfl ⟨rfl, rfl, rfl, rfl, rfl⟩ rfl rfl rfl rfl rfl (by kernel_rfl) Try.func13 (by kernel_rfl)
    (of_decide_eq_true (by kernel_rfl)) (by unfold Func.isWrapper; first | (rw [if_pos (by decide +kernel)]; kernel_rfl) | (rw [if_neg (by decide +kernel)]; exact ⟨rfl, rfl⟩))
    (fun os started H enc _ => lifted os started H enc)

theorem proved : Rows.FnExactLogStepSaid :=
  over
#print axioms proved
end Go.Proofs.Ytmikpabmlclpiaa.fnExactLogStep
