/- A log's step. Nothing is assumed. -/
import Derived.Test.YtmikpabmlclpiaaStq
namespace Go.Proofs.Ytmikpabmlclpiaa
open Go
noncomputable section
section
variable (O : FOps) (w : Nat → Nat) (r a t : Nat)
def w1I : Nat → Nat := back (warmW O w r t)
def w2I : Nat → Nat := back (dryI O (w1I O w r t) t)
def w3I : Nat → Nat := burnI O (w2I O w r t) a t
def inI : Nat := flow O w r t 0
def htF : Nat := O.bin .sub .f32 (hsI O (w2I O w r t) a t 6) (inI O w r t)
def smF : Nat := smI O (w1I O w r t) t 6
def fuF : Nat := fsI O (w2I O w r t) a t 6
def okF (nm : Nat → Bool) : Bool := allB nm [inI O w r t, htF O w r a t, smF O w r t, fuF O w r a t]
def badF (nm : Nat → Bool) : Bool := !decide ((bif !nm (inI O w r t) then (4 : Int) else 0) = 0)
def w1S (nm : Nat → Bool) : Nat → Nat := back fun i => bif !nm (inI O w r t) then 0 else warmW O w r t i
def inS (nm : Nat → Bool) : Nat := bif !nm (inI O w r t) then 0 else inI O w r t
def w2S (nm : Nat → Bool) : Nat → Nat := back (dryS O (w1S O w r t nm) t)
def w3S (nm : Nat → Bool) : Nat → Nat := burnS O (w2S O w r t nm) a t
end
def stepG (O : FOps) (nm : Nat → Bool) : List SV → Option SV
  | [v, .c (.flt .f32 r), .c (.flt .f32 a), .c (.flt .f32 t)] => match wdOf v with
    | some w => some (.tup [.a (wdL (w3I O w r a t)), .c (.flt .f32 (htF O w r a t)), .c (.flt .f32 (smF O w r t)), .c (.flt .f32 (fuF O w r a t)), .c (.bool (.s (okF O w r a t nm)))])
    | none => none
  | _ => none
def stepSv (O : FOps) (nm : Nat → Bool) (w : Nat → Nat) (r a t : Nat) : SV :=
  .tup [.a (wdL fun i => bif badF O w r t nm then 0 else w3S O w r a t nm i), .c (.flt .f32 (bif badF O w r t nm then 0 else O.bin .sub .f32 (hsS O (w2S O w r t nm) a t 5) (inS O w r t nm))),
    .c (.flt .f32 (bif badF O w r t nm then 0 else smS O (w1S O w r t nm) t 5)), .c (.flt .f32 (bif badF O w r t nm then 0 else fsS O (w2S O w r t nm) a t 5)), .c (.int .i64 (.s (bif badF O w r t nm then (bif !nm (inI O w r t) then 4 else 0) else 0)))]
def stepSG (O : FOps) (nm : Nat → Bool) : List SV → Option SV
  | [v, .c (.flt .f32 r), .c (.flt .f32 a), .c (.flt .f32 t)] => match wdOf v with
    | some w => some (stepSv O nm w r a t)
    | none => none
  | _ => none
def LP (O : FOps) (nm : Nat → Bool) : List (Nat × CS) := [(61, gQ [.s 1] (finG nm)), (58, gS (fin1G nm)),
  (66, gS (dryG O dryI (fun O w t => smI O w t 6))), (65, gQ [.p 18, .v] (dryG O dryS (fun O w t => smS O w t 5))),
  (69, gS (burnG O burnI (fun O w a t => hsI O w a t 6) (fun O w a t => fsI O w a t 6))), (68, gQ [.p 18, .v, .v] (burnG O burnS (fun O w a t => hsS O w a t 5) (fun O w a t => fsS O w a t 5))),
  (63, gS (warmG O)), (60, gQ [.p 18, .v, .v] (warmSG O nm))]
set_option maxRecDepth 100000 in
theorem okLP : AllOK Try.prog (LP fops isNum) := ⟨cFin, cFinL, cDryI, cDryS, cBurnI, cBurnS, cWarmI, cWarmS, trivial⟩
set_option maxRecDepth 100000 in
theorem cStepI_run (O : FOps) (nm : Nat → Bool) (w : Nat → Nat) (r a t : Nat) : rE 1 (inl ⟨Try.prog, O, orcN Try.prog O (LP O nm) 8⟩ Try.f75 ⟨fun _ => none, fun _ => none⟩ 1 [wd w, .c (.flt .f32 r), .c (.flt .f32 a), .c (.flt .f32 t)] []) =
    some (.tup [.a (wdL (w3I O (back w) r a t)), .c (.flt .f32 (htF O (back w) r a t)), .c (.flt .f32 (smF O (back w) r t)), .c (.flt .f32 (fuF O (back w) r a t)), .c (.bool (.s (okF O (back w) r a t nm)))], []) := by kernel_rfl
set_option maxRecDepth 100000 in
theorem cStepS_run (O : FOps) (nm : Nat → Bool) (w : Nat → Nat) (r a t : Nat) : rE 2 (inl ⟨Try.prog, O, orcN Try.prog O (LP O nm) 8⟩ Try.f73 ⟨fun _ => none, fun _ => none⟩ 2 [.c (.ptr 1 0), .c (.flt .f32 r), .c (.flt .f32 a), .c (.flt .f32 t)] [(1, ⟨false, false, .cells (wdL w)⟩)]) =
    some (stepSv O nm (back w) r a t, []) := by kernel_rfl
theorem wdOf_back {v : SV} {w : Nat → Nat} (h : wdOf v = some w) : back w = w := by
  unfold wdOf at h
  split at h <;> try (cases h; done)
  split at h <;> try (cases h; done)
  rename_i xs hx
  split at h <;> cases h
  rename_i hl
  match xs, beqN.1 hl with
  | [a0, a1, a2, a3, a4, a5, a6, a7, a8, a9, a10, a11, a12, a13, a14, a15, a16, a17], _ => rfl
set_option maxRecDepth 100000 in
theorem cStepI : CallOK Try.prog 75 (gS (stepG fops isNum)) :=
  gS_of2 (inlN_of (l := LP fops isNum) okLP mixed 8 Try.func75 (by kernel_rfl) (fun _ => none)) fun args x E vals hG hr => by
    unfold stepG at hG
    split at hG <;> try (cases hG; done)
    split at hG <;> cases hG
    rename_i w hw
    rw [wdOf_ok hw]
    refine ⟨rfl, _, _, cStepI_run fops isNum w _ _ _, rfl, AllT.nil, fun _ _ h => ?_⟩
    rw [wdOf_back hw] at h; exact h
set_option maxRecDepth 100000 in
theorem cStepS : CallOK Try.prog 73 (gQ [.p 18, .v, .v, .v] (stepSG fops isNum)) :=
  gQ_of2 (inlN_of (l := LP fops isNum) okLP mixed 8 Try.func73 (by kernel_rfl) (fun _ => none)) fun dl x E hG hv => by
    unfold stepSG at hG
    split at hG <;> try (cases hG; done)
    split at hG <;> cases hG
    rename_i w hw
    rw [wdOf_ok hw]
    refine ⟨_, _, cStepS_run fops isNum w _ _ _, rfl, AllT.nil, fun _ _ h => ?_⟩
    rw [wdOf_back hw] at h; exact h
end
/-! ### both are the same -/
theorem back_back (w : Nat → Nat) : back (back w) = back w := rfl
theorem inv_back {w : Nat → Nat} (h : Inv w) : Inv (back w) := by
  refine ⟨back_cn h.cn, fun i hi => ?_, fun i hi => ?_, fun i hi => ?_⟩
  · match i, hi with
    | 0, _ => exact h.wet 0 (by decide)
    | 1, _ => exact h.wet 1 (by decide)
    | 2, _ => exact h.wet 2 (by decide)
    | 3, _ => exact h.wet 3 (by decide)
    | 4, _ => exact h.wet 4 (by decide)
    | 5, _ => exact h.wet 5 (by decide)
    | n + 6, h => exact absurd h (by omega)
  · match i, hi with
    | 0, _ => exact h.fuel 0 (by decide)
    | 1, _ => exact h.fuel 1 (by decide)
    | 2, _ => exact h.fuel 2 (by decide)
    | 3, _ => exact h.fuel 3 (by decide)
    | 4, _ => exact h.fuel 4 (by decide)
    | 5, _ => exact h.fuel 5 (by decide)
    | n + 6, h => exact absurd h (by omega)
  · match i, hi with
    | 0, _ => exact h.heat 0 (by decide)
    | 1, _ => exact h.heat 1 (by decide)
    | 2, _ => exact h.heat 2 (by decide)
    | 3, _ => exact h.heat 3 (by decide)
    | 4, _ => exact h.heat 4 (by decide)
    | 5, _ => exact h.heat 5 (by decide)
    | n + 6, h => exact absurd h (by omega)
/-- What a step is, in plain terms: 'F' says whether what flows in is finite. -/
def stepV (F : Bool) (w : Nat → Nat) (h s f : Nat) : SV :=
  .tup [.a (wdL fun i => bif !F then 0 else w i), .c (.flt .f32 (bif !F then 0 else h)), .c (.flt .f32 (bif !F then 0 else s)), .c (.flt .f32 (bif !F then 0 else f)), .c (.int .i64 (.s (bif !F then 4 else 0)))]
section
variable {w : Nat → Nat} (hw : Inv w) {r a t : Nat} (ha : Share a) (ht : Share t)
include hw
theorem inv1 : Inv (w1I fops w r t) := inv_back (warm_inv hw r t)
include ht
theorem inv2 : Inv (w2I fops w r t) := inv_back (dry_inv (inv1 hw) ht)
include ha
theorem inv3 : Inv (w3I fops w r a t) := burn_inv (inv2 hw ht) ha ht
theorem ok_eq : okF fops w r a t isNum = isNum (inI fops w r t) := by
  unfold okF
  show (bif isNum _ then bif isNum _ then bif isNum _ then bif isNum _ then true else false else false else false else false) = _
  cases h : isNum (inI fops w r t) with
  | false => rfl
  | true =>
    have h1 : isNum (htF fops w r a t) = true := step_num (inv2 hw ht) ha ht h
    have h2 : isNum (smF fops w r t) = true := by
      have := steam_eq (inv1 (r := r) (t := t) hw) ht
      unfold smF; rw [this.1]; exact word_num this.2
    have h3 : isNum (fuF fops w r a t) = true := by
      have := burnt_eq (inv2 (r := r) hw ht) ha ht
      unfold fuF; rw [this.1]; exact word_num this.2
    rw [h1, h2, h3]; rfl
theorem step_eq : stepSv fops isNum w r a t = stepV (isNum (inI fops w r t)) (w3I fops w r a t) (htF fops w r a t) (smF fops w r t) (fuF fops w r a t) := by
  cases h : isNum (inI fops w r t) with
  | false =>
    have hb : badF fops w r t isNum = true := by unfold badF; rw [h]; rfl
    unfold stepSv stepV
    rw [hb, h]
    simp only [Bool.not_false, cond_true]
  | true =>
    have hb : badF fops w r t isNum = false := by unfold badF; rw [h]; rfl
    unfold stepSv stepV
    rw [hb]
    simp only [Bool.not_true, cond_false]
    have e1 : w1S fops w r t isNum = w1I fops w r t := by
      unfold w1S w1I
      rw [h]; rfl
    have e2 : w2S fops w r t isNum = w2I fops w r t := by
      unfold w2S w2I
      rw [e1, dry_eq (inv1 hw) ht]
    have e3 : w3S fops w r a t isNum = w3I fops w r a t := by
      unfold w3S w3I
      rw [e2, burn_eq (inv2 hw ht) ha ht]
    have e4 : inS fops w r t isNum = inI fops w r t := by unfold inS; rw [h]; rfl
    rw [e1, e2, e3, e4, ← (given_eq (inv2 (r := r) hw ht) ha ht).1, ← (steam_eq (inv1 (r := r) (t := t) hw) ht).1, ← (burnt_eq (inv2 (r := r) hw ht) ha ht).1]
    unfold htF smF fuF
    rfl
end
end Go.Proofs.Ytmikpabmlclpiaa
