/- The parts of a log's step. Nothing is assumed. -/
import Derived.Test.YtngdmcbjponlhaaLog
import Derived.Test.YtngdmcbjponlhaaFn
namespace Go.Proofs.Ytngdmcbjponlhaa
open Go
noncomputable section
variable (O : FOps)
def hot (h : Nat) : Bool := O.cmp .gtr .f32 h 1120403456
def Xd (h t : Nat) : Nat := O.bin .mul .f32 (O.bin .mul .f32 (O.bin .sub .f32 h 1120403456) 990057071) t
def mnI (a x : Nat) : Nat := bif O.cmp .lss .f32 a x then a else x
def mnS (a x : Nat) : Nat := bif O.cmp .lss .f32 x a then x else a
def dryH (d h m : Nat) : Nat := bif O.cmp .lss .f32 (O.bin .sub .f32 h (O.bin .quo .f32 (O.bin .mul .f32 1157234688 d) m)) 1120403456 then 1120403456 else O.bin .sub .f32 h (O.bin .quo .f32 (O.bin .mul .f32 1157234688 d) m)
def dI (w : Nat → Nat) (t i : Nat) : Nat := mnI O (w i) (Xd O (w (6 + i)) t)
def dS (w : Nat → Nat) (t i : Nat) : Nat := mnS O (w i) (Xd O (w (6 + i)) t)
def wetI (w : Nat → Nat) (t i : Nat) : Nat := bif !hot O (w (6 + i)) then w i else O.bin .sub .f32 (w i) (dI O w t i)
def wetS (w : Nat → Nat) (t i : Nat) : Nat := bif hot O (w (6 + i)) then O.bin .sub .f32 (w i) (dS O w t i) else w i
def htI (w : Nat → Nat) (t i : Nat) : Nat := bif !hot O (w (6 + i)) then w (6 + i) else dryH O (dI O w t i) (w (6 + i)) (mass O (w i) (w (12 + i)))
def htS (w : Nat → Nat) (t i : Nat) : Nat := bif hot O (w (6 + i)) then dryH O (dS O w t i) (w (6 + i)) (mass O (w i) (w (12 + i))) else w (6 + i)
def smI (w : Nat → Nat) (t : Nat) : Nat → Nat
  | 0 => 0
  | i + 1 => bif !hot O (w (6 + i)) then smI w t i else O.bin .add .f32 (smI w t i) (dI O w t i)
def smS (w : Nat → Nat) (t : Nat) : Nat → Nat
  | 0 => bif hot O (w 6) then dS O w t 0 else 0
  | i + 1 => O.bin .add .f32 (smS w t i) (bif hot O (w (7 + i)) then dS O w t (i + 1) else 0)
def dryI (w : Nat → Nat) (t : Nat) : Nat → Nat := fun j => [wetI O w t 0, wetI O w t 1, wetI O w t 2, wetI O w t 3, wetI O w t 4, wetI O w t 5, htI O w t 0, htI O w t 1, htI O w t 2, htI O w t 3, htI O w t 4, htI O w t 5, w 12, w 13, w 14, w 15, w 16, w 17].getD j 0
def dryS (w : Nat → Nat) (t : Nat) : Nat → Nat := fun j => [wetS O w t 0, wetS O w t 1, wetS O w t 2, wetS O w t 3, wetS O w t 4, wetS O w t 5, htS O w t 0, htS O w t 1, htS O w t 2, htS O w t 3, htS O w t 4, htS O w t 5, w 12, w 13, w 14, w 15, w 16, w 17].getD j 0
def Xb (h a t : Nat) : Nat := O.bin .mul .f32 (O.bin .mul .f32 (O.bin .mul .f32 (O.bin .sub .f32 h 1132068864) 981668463) a) t
def offI (w : Nat → Nat) (i : Nat) : Bool := bif O.cmp .geq .f32 (w (6 + i)) 1132068864 then (bif O.cmp .lss .f32 (w i) 1040187392 then false else true) else true
def onS (w : Nat → Nat) (i : Nat) : Bool := bif O.cmp .geq .f32 (w (6 + i)) 1132068864 then O.cmp .lss .f32 (w i) 1040187392 else false
def buI (w : Nat → Nat) (a t i : Nat) : Nat := mnI O (w (12 + i)) (Xb O (w (6 + i)) a t)
def buS (w : Nat → Nat) (a t i : Nat) : Nat := mnS O (w (12 + i)) (Xb O (w (6 + i)) a t)
def bq (b h m : Nat) : Nat := O.bin .add .f32 h (O.bin .quo .f32 (O.bin .mul .f32 1157234688 b) m)
def bhI (w : Nat → Nat) (a t i : Nat) : Nat := bif offI O w i then w (6 + i) else bif O.cmp .gtr .f32 (bq O (buI O w a t i) (w (6 + i)) (mass O (w i) (w (12 + i)))) 1153138688 then 1153138688 else bq O (buI O w a t i) (w (6 + i)) (mass O (w i) (w (12 + i)))
def bhS (w : Nat → Nat) (a t i : Nat) : Nat := bif onS O w i then mnS O (bq O (buS O w a t i) (w (6 + i)) (mass O (w i) (w (12 + i)))) 1153138688 else w (6 + i)
def fuI (w : Nat → Nat) (a t i : Nat) : Nat := bif offI O w i then w (12 + i) else O.bin .sub .f32 (w (12 + i)) (buI O w a t i)
def fuS (w : Nat → Nat) (a t i : Nat) : Nat := bif onS O w i then O.bin .sub .f32 (w (12 + i)) (buS O w a t i) else w (12 + i)
def fsI (w : Nat → Nat) (a t : Nat) : Nat → Nat
  | 0 => 0
  | i + 1 => bif offI O w i then fsI w a t i else O.bin .add .f32 (fsI w a t i) (buI O w a t i)
def fsS (w : Nat → Nat) (a t : Nat) : Nat → Nat
  | 0 => bif onS O w 0 then buS O w a t 0 else 0
  | i + 1 => O.bin .add .f32 (fsS w a t i) (bif onS O w (i + 1) then buS O w a t (i + 1) else 0)
def hsI (w : Nat → Nat) (a t : Nat) : Nat → Nat
  | 0 => 0
  | i + 1 => bif offI O w i then hsI w a t i else O.bin .add .f32 (hsI w a t i) (O.bin .mul .f32 1167867904 (buI O w a t i))
def hsS (w : Nat → Nat) (a t : Nat) : Nat → Nat
  | 0 => O.bin .mul .f32 1167867904 (bif onS O w 0 then buS O w a t 0 else 0)
  | i + 1 => O.bin .add .f32 (hsS w a t i) (O.bin .mul .f32 1167867904 (bif onS O w (i + 1) then buS O w a t (i + 1) else 0))
def burnI (w : Nat → Nat) (a t : Nat) : Nat → Nat := fun j => [w 0, w 1, w 2, w 3, w 4, w 5, bhI O w a t 0, bhI O w a t 1, bhI O w a t 2, bhI O w a t 3, bhI O w a t 4, bhI O w a t 5, fuI O w a t 0, fuI O w a t 1, fuI O w a t 2, fuI O w a t 3, fuI O w a t 4, fuI O w a t 5].getD j 0
def burnS (w : Nat → Nat) (a t : Nat) : Nat → Nat := fun j => [w 0, w 1, w 2, w 3, w 4, w 5, bhS O w a t 0, bhS O w a t 1, bhS O w a t 2, bhS O w a t 3, bhS O w a t 4, bhS O w a t 5, fuS O w a t 0, fuS O w a t 1, fuS O w a t 2, fuS O w a t 3, fuS O w a t 4, fuS O w a t 5].getD j 0
end
def wdL (w : Nat → Nat) : List SC := [.flt .f32 (w 0), .flt .f32 (w 1), .flt .f32 (w 2), .flt .f32 (w 3), .flt .f32 (w 4), .flt .f32 (w 5), .flt .f32 (w 6), .flt .f32 (w 7), .flt .f32 (w 8), .flt .f32 (w 9), .flt .f32 (w 10), .flt .f32 (w 11), .flt .f32 (w 12), .flt .f32 (w 13), .flt .f32 (w 14), .flt .f32 (w 15), .flt .f32 (w 16), .flt .f32 (w 17)]
noncomputable section
def dryG (O : FOps) (D : FOps → (Nat → Nat) → Nat → Nat → Nat) (S : FOps → (Nat → Nat) → Nat → Nat) : List SV → Option SV
  | [v, .c (.flt .f32 t)] => match wdOf v with
    | some w => some (.tup [.a (wdL (D O w t)), .c (.flt .f32 (S O w t))])
    | none => none
  | _ => none
def burnG (O : FOps) (D : FOps → (Nat → Nat) → Nat → Nat → Nat → Nat) (S1 S2 : FOps → (Nat → Nat) → Nat → Nat → Nat) : List SV → Option SV
  | [v, .c (.flt .f32 a), .c (.flt .f32 t)] => match wdOf v with
    | some w => some (.tup [.a (wdL (D O w a t)), .c (.flt .f32 (S1 O w a t)), .c (.flt .f32 (S2 O w a t))])
    | none => none
  | _ => none
def warmG (O : FOps) : List SV → Option SV
  | [v, .c (.flt .f32 a), .c (.flt .f32 t)] => match wdOf v with
    | some w => some (.tup [.a (wdL (warmW O w a t)), .c (.flt .f32 (flow O w a t 0))])
    | none => none
  | _ => none
def warmSG (O : FOps) (nm : Nat → Bool) : List SV → Option SV
  | [v, .c (.flt .f32 a), .c (.flt .f32 t)] => match wdOf v with
    | some w => some (.tup [.a (wdL fun i => bif !nm (flow O w a t 0) then 0 else warmW O w a t i), .c (.flt .f32 (bif !nm (flow O w a t 0) then 0 else flow O w a t 0)), .c (.int .i64 (.s (bif !nm (flow O w a t 0) then 4 else 0)))])
    | none => none
  | _ => none
def validG (vl : (Nat → Nat) → Bool) : List SV → Option SV
  | [v] => match wdOf v with
    | some w => some (.c (.bool (.s (vl w))))
    | none => none
  | _ => none
def LSt (O : FOps) (nm : Nat → Bool) : List (Nat × CS) := [(61, amtS), (66, amtS), (95, gS (heldG O)), (80, gQ [.s 1] (finG nm)), (87, gS (fin1G nm))]
set_option maxRecDepth 100000 in
theorem okLSt : AllOK Try.prog (LSt fops isNum) := ⟨cAmtI, cAmtL, cHeld, cFin, cFinL, trivial⟩
set_option maxRecDepth 100000 in
theorem cDryI_run (O : FOps) (nm : Nat → Bool) (w : Nat → Nat) (t : Nat) : rE 1 (inl ⟨Try.prog, O, orcN Try.prog O (LSt O nm) 8⟩ Try.f106 ⟨fun _ => none, fun _ => none⟩ 1 [wd w, .c (.flt .f32 t)] []) = some (.tup [.a (wdL (dryI O w t)), .c (.flt .f32 (smI O w t 6))], []) := by kernel_rfl
set_option maxRecDepth 100000 in
theorem cDryI : CallOK Try.prog 106 (gS (dryG fops dryI (fun O w t => smI O w t 6))) :=
  gS_of2 (inlN_of (l := LSt fops isNum) okLSt mixed 8 Try.func106 (by kernel_rfl) (fun _ => none)) fun args r E vals hG hr => by
    unfold dryG at hG
    split at hG <;> try (cases hG; done)
    split at hG <;> cases hG
    rename_i w hw
    rw [wdOf_ok hw]
    exact ⟨rfl, _, _, cDryI_run fops isNum w _, rfl, AllT.nil, fun _ _ h => h⟩
set_option maxRecDepth 100000 in
theorem cDryS_run (O : FOps) (nm : Nat → Bool) (w : Nat → Nat) (t : Nat) : rE 2 (inl ⟨Try.prog, O, orcN Try.prog O (LSt O nm) 8⟩ Try.f101 ⟨fun _ => none, fun _ => none⟩ 2 [.c (.ptr 1 0), .c (.flt .f32 t)] [(1, ⟨false, false, .cells (wdL w)⟩)]) = some (.tup [.a (wdL (dryS O w t)), .c (.flt .f32 (smS O w t 5))], []) := by kernel_rfl
set_option maxRecDepth 100000 in
theorem cDryS : CallOK Try.prog 101 (gQ [.p 18, .v] (dryG fops dryS (fun O w t => smS O w t 5))) :=
  gQ_of2 (inlN_of (l := LSt fops isNum) okLSt mixed 8 Try.func101 (by kernel_rfl) (fun _ => none)) fun dl r E hG hv => by
    unfold dryG at hG
    split at hG <;> try (cases hG; done)
    split at hG <;> cases hG
    rename_i w hw
    rw [wdOf_ok hw]
    exact ⟨_, _, cDryS_run fops isNum w _, rfl, AllT.nil, fun _ _ h => h⟩
set_option maxRecDepth 100000 in
theorem cBurnI_run (O : FOps) (nm : Nat → Bool) (w : Nat → Nat) (a t : Nat) : rE 1 (inl ⟨Try.prog, O, orcN Try.prog O (LSt O nm) 8⟩ Try.f107 ⟨fun _ => none, fun _ => none⟩ 1 [wd w, .c (.flt .f32 a), .c (.flt .f32 t)] []) = some (.tup [.a (wdL (burnI O w a t)), .c (.flt .f32 (hsI O w a t 6)), .c (.flt .f32 (fsI O w a t 6))], []) := by kernel_rfl
set_option maxRecDepth 100000 in
theorem cBurnI : CallOK Try.prog 107 (gS (burnG fops burnI (fun O w a t => hsI O w a t 6) (fun O w a t => fsI O w a t 6))) :=
  gS_of2 (inlN_of (l := LSt fops isNum) okLSt mixed 8 Try.func107 (by kernel_rfl) (fun _ => none)) fun args r E vals hG hr => by
    unfold burnG at hG
    split at hG <;> try (cases hG; done)
    split at hG <;> cases hG
    rename_i w hw
    rw [wdOf_ok hw]
    exact ⟨rfl, _, _, cBurnI_run fops isNum w _ _, rfl, AllT.nil, fun _ _ h => h⟩
set_option maxRecDepth 100000 in
theorem cBurnS_run (O : FOps) (nm : Nat → Bool) (w : Nat → Nat) (a t : Nat) : rE 2 (inl ⟨Try.prog, O, orcN Try.prog O (LSt O nm) 8⟩ Try.f102 ⟨fun _ => none, fun _ => none⟩ 2 [.c (.ptr 1 0), .c (.flt .f32 a), .c (.flt .f32 t)] [(1, ⟨false, false, .cells (wdL w)⟩)]) = some (.tup [.a (wdL (burnS O w a t)), .c (.flt .f32 (hsS O w a t 5)), .c (.flt .f32 (fsS O w a t 5))], []) := by kernel_rfl
set_option maxRecDepth 100000 in
theorem cBurnS : CallOK Try.prog 102 (gQ [.p 18, .v, .v] (burnG fops burnS (fun O w a t => hsS O w a t 5) (fun O w a t => fsS O w a t 5))) :=
  gQ_of2 (inlN_of (l := LSt fops isNum) okLSt mixed 8 Try.func102 (by kernel_rfl) (fun _ => none)) fun dl r E hG hv => by
    unfold burnG at hG
    split at hG <;> try (cases hG; done)
    split at hG <;> cases hG
    rename_i w hw
    rw [wdOf_ok hw]
    exact ⟨_, _, cBurnS_run fops isNum w _ _, rfl, AllT.nil, fun _ _ h => h⟩
set_option maxRecDepth 100000 in
theorem cWarmI_run (O : FOps) (nm : Nat → Bool) (w : Nat → Nat) (a t : Nat) : rE 1 (inl ⟨Try.prog, O, orcN Try.prog O (LSt O nm) 8⟩ Try.f105 ⟨fun _ => none, fun _ => none⟩ 1 [wd w, .c (.flt .f32 a), .c (.flt .f32 t)] []) = some (.tup [.a (wdL (warmW O w a t)), .c (.flt .f32 (flow O w a t 0))], []) := by kernel_rfl
set_option maxRecDepth 100000 in
theorem cWarmI : CallOK Try.prog 105 (gS (warmG fops)) :=
  gS_of2 (inlN_of (l := LSt fops isNum) okLSt mixed 8 Try.func105 (by kernel_rfl) (fun _ => none)) fun args r E vals hG hr => by
    unfold warmG at hG
    split at hG <;> try (cases hG; done)
    split at hG <;> cases hG
    rename_i w hw
    rw [wdOf_ok hw]
    exact ⟨rfl, _, _, cWarmI_run fops isNum w _ _, rfl, AllT.nil, fun _ _ h => h⟩
set_option maxRecDepth 100000 in
theorem cWarmS_run (O : FOps) (nm : Nat → Bool) (w : Nat → Nat) (a t : Nat) : rE 2 (inl ⟨Try.prog, O, orcN Try.prog O (LSt O nm) 8⟩ Try.f100 ⟨fun _ => none, fun _ => none⟩ 2 [.c (.ptr 1 0), .c (.flt .f32 a), .c (.flt .f32 t)] [(1, ⟨false, false, .cells (wdL w)⟩)]) = some (.tup [.a (wdL fun i => bif !nm (flow O w a t 0) then 0 else warmW O w a t i), .c (.flt .f32 (bif !nm (flow O w a t 0) then 0 else flow O w a t 0)), .c (.int .i64 (.s (bif !nm (flow O w a t 0) then 4 else 0)))], []) := by kernel_rfl
set_option maxRecDepth 100000 in
theorem cWarmS : CallOK Try.prog 100 (gQ [.p 18, .v, .v] (warmSG fops isNum)) :=
  gQ_of2 (inlN_of (l := LSt fops isNum) okLSt mixed 8 Try.func100 (by kernel_rfl) (fun _ => none)) fun dl r E hG hv => by
    unfold warmSG at hG
    split at hG <;> try (cases hG; done)
    split at hG <;> cases hG
    rename_i w hw
    rw [wdOf_ok hw]
    exact ⟨_, _, cWarmS_run fops isNum w _ _, rfl, AllT.nil, fun _ _ h => h⟩
set_option maxRecDepth 100000 in
theorem cValI_run (O : FOps) (nm : Nat → Bool) (w : Nat → Nat) : rE 1 (inl ⟨Try.prog, O, orcN Try.prog O (LSt O nm) 8⟩ Try.f58 ⟨fun _ => none, fun _ => none⟩ 1 [wd w] []) = some (.c (.bool (.s (six (badI O w)))), []) := by kernel_rfl
set_option maxRecDepth 100000 in
theorem cValI : CallOK Try.prog 58 (gS (validG valid)) :=
  gS_of2 (inlN_of (l := LSt fops isNum) okLSt mixed 8 Try.func58 (by kernel_rfl) (fun _ => none)) fun args r E vals hG hr => by
    unfold validG at hG
    split at hG <;> try (cases hG; done)
    split at hG <;> cases hG
    rename_i w hw
    rw [wdOf_ok hw]
    exact ⟨rfl, _, _, cValI_run fops isNum w, rfl, AllT.nil, fun _ _ h => by rw [validI_eq] at h; exact h⟩
set_option maxRecDepth 100000 in
theorem cValS_run (O : FOps) (nm : Nat → Bool) (w : Nat → Nat) : rE 2 (inl ⟨Try.prog, O, orcN Try.prog O (LSt O nm) 8⟩ Try.f72 ⟨fun _ => none, fun _ => none⟩ 2 [.c (.ptr 1 0)] [(1, ⟨false, false, .cells (wdL w)⟩)]) = some (.c (.bool (.s (six (badS O w)))), []) := by kernel_rfl
set_option maxRecDepth 100000 in
theorem cValS : CallOK Try.prog 72 (gQ [.p 18] (validG valid)) :=
  gQ_of2 (inlN_of (l := LSt fops isNum) okLSt mixed 8 Try.func72 (by kernel_rfl) (fun _ => none)) fun dl r E hG hv => by
    unfold validG at hG
    split at hG <;> try (cases hG; done)
    split at hG <;> cases hG
    rename_i w hw
    rw [wdOf_ok hw]
    exact ⟨_, _, cValS_run fops isNum w, rfl, AllT.nil, fun _ _ h => by rw [validS_eq] at h; exact h⟩
end
end Go.Proofs.Ytngdmcbjponlhaa
