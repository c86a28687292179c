/- Numbers that are finite. Nothing is assumed. -/
import Derived.Test.YtaodbpejeglmlaaDoorAmt
import Derived.Test.YtaodbpejeglmlaaDoorHp
namespace Go.Proofs.YtaodbpejeglmlaaDoor
open Go
noncomputable section
def allB (nm : Nat → Bool) : List Nat → Bool
  | [] => true
  | x :: l => bif nm x then allB nm l else false
def finG (nm : Nat → Bool) : List SV → Option SV
  | [.a l] => match flts l with
    | some xs => match Nat.ble 1 xs.length && Nat.ble xs.length 8 with
      | true => some (.c (.bool (.s (allB nm xs))))
      | false => none
    | none => none
  | _ => none
def fin1G (nm : Nat → Bool) : List SV → Option SV
  | [.c (.flt .f32 x)] => some (.c (.bool (.s (nm x))))
  | _ => none
def finB (O : FOps) : List Nat → Bool
  | [] => true
  | x :: l => bif infI O x then false else finB O l
theorem finB_eq : ∀ l : List Nat, finB fops l = allB isNum l
  | [] => rfl
  | x :: l => by
    show (bif infI fops x then false else finB fops l) = bif isNum x then allB isNum l else false
    rw [infI_eq, finB_eq l]; cases isNum x <;> rfl
def finR (O : FOps) (xs : List Nat) : Option (SV × List Bool) := rE 2 (inl ⟨Tryd.prog, O, orcN Tryd.prog O [(76, absS)] 8⟩ Tryd.f62 ⟨fun _ => none, fun _ => none⟩ 2 [.c (.sl 1 0 1 (.c (.ofNat (xs.length / 1))) false)] [(1, ⟨false, false, .cells (xs.map (SC.flt .f32 ·))⟩)])
set_option maxRecDepth 100000 in
theorem fin_run (O : FOps) : ∀ xs : List Nat, 1 ≤ xs.length → xs.length ≤ 8 → finR O xs = some (.c (.bool (.s (finB O xs))), [])
  | [a], _, _ => by kernel_rfl
  | [a, b], _, _ => by kernel_rfl
  | [a, b, c], _, _ => by kernel_rfl
  | [a, b, c, d], _, _ => by kernel_rfl
  | [a, b, c, d, e], _, _ => by kernel_rfl
  | [a, b, c, d, e, f], _, _ => by kernel_rfl
  | [a, b, c, d, e, f, g], _, _ => by kernel_rfl
  | [a, b, c, d, e, f, g, h], _, _ => by kernel_rfl
  | _ :: _ :: _ :: _ :: _ :: _ :: _ :: _ :: _ :: _, _, h => by simp only [List.length_cons] at h; omega
set_option maxRecDepth 100000 in
theorem cFin : CallOK Tryd.prog 62 (gQ [.s 1] (finG isNum)) :=
  gQ_of2 (inlN_of (l := [(76, absS)]) ⟨cAbs, trivial⟩ mixed 8 Tryd.func62 (by kernel_rfl) (fun _ => none)) fun dl r E hG hv => by
    unfold finG at hG
    split at hG <;> try (cases hG; done)
    split at hG <;> try (cases hG; done)
    rename_i xs hx
    split at hG <;> cases hG
    rename_i hb
    simp only [Bool.and_eq_true, Nat.ble_eq] at hb
    rw [flts_ok hx]
    have h := fin_run fops xs hb.1 hb.2
    refine ⟨_, _, ?_, rfl, AllT.nil, fun _ _ h => h⟩
    rw [← finB_eq, ← h]
    show rE 2 (inl _ _ _ 2 [.c (.sl 1 0 1 (.c (.ofNat ((xs.map (SC.flt .f32 ·)).length / 1))) false)] _) = _
    rw [List.length_map]; rfl
set_option maxRecDepth 100000 in
theorem cFinL : CallOK Tryd.prog 58 (gS (fin1G isNum)) :=
  gS_of2 (inlN_of (l := []) trivial mixed 8 Tryd.func58 (by kernel_rfl) (fun _ => none)) fun args r E vals hG hr => by
    unfold fin1G at hG
    split at hG <;> cases hG
    rename_i x
    have h : ∀ O : FOps, rE 1 (inl ⟨Tryd.prog, O, orcN Tryd.prog O [] 8⟩ Tryd.f58 ⟨fun _ => none, fun _ => none⟩ 1 [.c (.flt .f32 x)] []) = some (.c (.bool (.s (O.cmp .eql .f32 (O.bin .sub .f32 x x) 0))), []) := fun O => by kernel_rfl
    refine ⟨rfl, _, _, h fops, rfl, AllT.nil, fun _ _ h => ?_⟩
    rw [fin_eq] at h; exact h
end
end Go.Proofs.YtaodbpejeglmlaaDoor
