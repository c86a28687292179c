/- The order of floats is the order of their words. Nothing is assumed. -/
import Derived.Test.YtaodbpejeglmlaaDoorSu
namespace Go.Proofs.YtaodbpejeglmlaaDoor
open Go

/-- The number of a word, in units of the least place. -/
def units (b r : Nat) : Nat := if r < b then r else (b + r % b) * 2 ^ (r / b - 1)
theorem units_lt {b r r' : Nat} (hb : 0 < b) (h : r < r') : units b r < units b r' := by
  unfold units
  by_cases h1 : r' < b
  · rw [if_pos (Nat.lt_trans h h1), if_pos h1]; exact h
  · rw [if_neg h1]
    have hq' : 1 ≤ r' / b := (Nat.one_le_div_iff hb).2 (by omega)
    by_cases h2 : r < b
    · rw [if_pos h2]
      exact Nat.lt_of_lt_of_le h2 (Nat.le_trans (Nat.le_add_right b (r' % b)) (Nat.le_mul_of_pos_right _ (Nat.two_pow_pos _)))
    · rw [if_neg h2]
      have hq : 1 ≤ r / b := (Nat.one_le_div_iff hb).2 (by omega)
      have hqq : r / b ≤ r' / b := Nat.div_le_div_right (by omega)
      have hm : r % b < b := Nat.mod_lt _ hb
      by_cases e : r / b = r' / b
      · rw [e]
        refine Nat.mul_lt_mul_of_pos_right ?_ (Nat.two_pow_pos _)
        have h3 := Nat.div_add_mod r b
        have h4 := Nat.div_add_mod r' b
        rw [e] at h3
        omega
      · have hlt : r / b ≤ r' / b - 1 := by omega
        calc (b + r % b) * 2 ^ (r / b - 1) < (b + b) * 2 ^ (r / b - 1) := Nat.mul_lt_mul_of_pos_right (by omega) (Nat.two_pow_pos _)
          _ = b * 2 ^ (r / b) := by
            rw [← Nat.two_mul, Nat.mul_comm 2 b, Nat.mul_assoc, ← Nat.pow_succ', Nat.succ_eq_add_one, Nat.sub_add_cancel hq]
          _ ≤ b * 2 ^ (r' / b - 1) := Nat.mul_le_mul_left _ (Nat.pow_le_pow_right (by omega) hlt)
          _ ≤ (b + r' % b) * 2 ^ (r' / b - 1) := Nat.mul_le_mul_right _ (Nat.le_add_right _ _)
theorem units_le {b r r' : Nat} (hb : 0 < b) (h : r ≤ r') : units b r ≤ units b r' := by
  rcases Nat.lt_or_eq_of_le h with h | rfl
  · exact Nat.le_of_lt (units_lt hb h)
  · exact Nat.le_refl _

def negB (k : FloatKind) (x : Nat) : Bool := x / k.format.signWeight % 2 == 1
def rung (k : FloatKind) (x : Nat) : Nat := x % k.format.signWeight
/-- The words in their order. -/
def key (k : FloatKind) (x : Nat) : Int := bif negB k x then -(rung k x : Int) else rung k x
theorem binade_pos (k : FloatKind) : 0 < k.format.binade := Nat.two_pow_pos _
/-- What a word that is no NaN stands for. -/
theorem read_cases (k : FloatKind) (x : Nat) (h : nanb k x = false) :
    (∃ m e, k.format.read x = .number (negB k x) m e ∧ k.format.leastPlace ≤ e ∧ m * 2 ^ (e - k.format.leastPlace).toNat = units k.format.binade (rung k x) ∧ rung k x < k.format.infRung) ∨
    (k.format.read x = .infinity (negB k x) ∧ rung k x = k.format.infRung) := by
  unfold nanb FloatKind.decode at h
  have hb : k.format.binade ≤ k.format.infRung := by cases k <;> decide +kernel
  unfold Ieee.Format.read at h ⊢
  dsimp only at h ⊢
  unfold negB rung units
  split
  · rename_i h1
    refine .inl ⟨_, _, rfl, Int.le_refl _, ?_, by omega⟩
    simp
  · rename_i h1
    rw [if_neg h1] at h
    split
    · rename_i h2
      refine .inl ⟨_, _, rfl, by omega, ?_, h2⟩
      congr 2
      omega
    · rename_i h2
      rw [if_neg h2] at h
      split
      · rename_i h3; exact .inr ⟨rfl, h3⟩
      · rename_i h3
        rw [if_neg h3] at h
        cases h
theorem compare_int_lt {a b : Int} (h : a < b) : compare a b = .lt := by
  simp only [compare, compareOfLessAndEq, if_pos h]
theorem compare_int_gt {a b : Int} (h : b < a) : compare a b = .gt := by
  simp only [compare, compareOfLessAndEq, if_neg (show ¬ a < b by omega), if_neg (show ¬ a = b by omega)]
theorem compare_int_eq (a : Int) : compare a a = .eq := by
  simp [compare, compareOfLessAndEq]
theorem compare_mul (a b : Int) {c : Int} (hc : 0 < c) : compare (a * c) (b * c) = compare a b := by
  rcases Int.lt_trichotomy a b with h | rfl | h
  · rw [compare_int_lt h, compare_int_lt (Int.mul_lt_mul_of_pos_right h hc)]
  · rw [compare_int_eq, compare_int_eq]
  · rw [compare_int_gt h, compare_int_gt (Int.mul_lt_mul_of_pos_right h hc)]
theorem signed_mul (s : Bool) (m i c : Nat) : Ieee.signed s m i * (2 ^ c : Nat) = bif s then -((m * 2 ^ (i + c) : Nat) : Int) else ((m * 2 ^ (i + c) : Nat) : Int) := by
  unfold Ieee.signed
  rw [Nat.shiftLeft_eq, Nat.pow_add, ← Nat.mul_assoc]
  cases s <;> simp [Int.neg_mul]
def sgn (s : Bool) (n : Nat) : Int := bif s then -(n : Int) else n
theorem sgn_cmp {s t : Bool} {b r r' : Nat} (hb : 0 < b) : compare (sgn s (units b r)) (sgn t (units b r')) = compare (sgn s r) (sgn t r') := by
  have u0 : units b 0 = 0 := by unfold units; rw [if_pos hb]
  have mono : ∀ {a c : Nat}, a < c → units b a < units b c := fun h => units_lt hb h
  have pos : ∀ {a : Nat}, 0 < a → 0 < units b a := fun h => by have := mono h; rw [u0] at this; exact this
  have key : (sgn s r < sgn t r' → sgn s (units b r) < sgn t (units b r')) ∧ (sgn t r' < sgn s r → sgn t (units b r') < sgn s (units b r)) ∧ (sgn s r = sgn t r' → sgn s (units b r) = sgn t (units b r')) := by
    unfold sgn
    rcases Nat.eq_zero_or_pos r with rfl | hr <;> rcases Nat.eq_zero_or_pos r' with rfl | hr'
    · rw [u0]; cases s <;> cases t <;> simp
    · have := pos hr'
      rw [u0]; cases s <;> cases t <;> simp <;> omega
    · have := pos hr
      rw [u0]; cases s <;> cases t <;> simp <;> omega
    · have h1 := pos hr
      have h2 := pos hr'
      rcases Nat.lt_trichotomy r r' with h | rfl | h
      · have := mono h
        cases s <;> cases t <;> simp <;> omega
      · cases s <;> cases t <;> simp <;> omega
      · have := mono h
        cases s <;> cases t <;> simp <;> omega
  rcases Int.lt_trichotomy (sgn s r) (sgn t r') with h | h | h
  · rw [compare_int_lt h, compare_int_lt (key.1 h)]
  · rw [h, key.2.2 h, compare_int_eq, compare_int_eq]
  · rw [compare_int_gt h, compare_int_gt (key.2.1 h)]
theorem order_key {k : FloatKind} {x y : Nat} (hx : nanb k x = false) (hy : nanb k y = false) : k.format.order x y = some (compare (key k x) (key k y)) := by
  unfold Ieee.Format.order
  have ip : 0 < k.format.infRung := by cases k <;> decide +kernel
  rcases read_cases k x hx with ⟨m, e, h1, h2, h3, h4⟩ | ⟨h1, h4⟩ <;> rcases read_cases k y hy with ⟨n, j, g1, g2, g3, g4⟩ | ⟨g1, g4⟩
  · rw [h1, g1]
    simp only [Ieee.Datum.order]
    congr 1
    have hc : (0 : Int) < ((2 ^ (min e j - k.format.leastPlace).toNat : Nat) : Int) := by exact_mod_cast Nat.two_pow_pos _
    rw [← compare_mul _ _ hc, signed_mul, signed_mul]
    have e1 : (e - min e j).toNat + (min e j - k.format.leastPlace).toNat = (e - k.format.leastPlace).toNat := by omega
    have e2 : (j - min e j).toNat + (min e j - k.format.leastPlace).toNat = (j - k.format.leastPlace).toNat := by omega
    rw [e1, e2, h3, g3]
    exact sgn_cmp (binade_pos k)
  · rw [h1, g1]
    simp only [Ieee.Datum.order]
    congr 1
    unfold key
    rw [g4]
    cases negB k y <;> cases negB k x <;> simp
    · exact (compare_int_lt (by omega)).symm
    · exact (compare_int_lt (by omega)).symm
    · exact (compare_int_gt (by omega)).symm
    · exact (compare_int_gt (by omega)).symm
  · rw [h1, g1]
    simp only [Ieee.Datum.order]
    congr 1
    unfold key
    rw [h4]
    cases negB k x <;> cases negB k y <;> simp
    · exact (compare_int_gt (by omega)).symm
    · exact (compare_int_gt (by omega)).symm
    · exact (compare_int_lt (by omega)).symm
    · exact (compare_int_lt (by omega)).symm
  · rw [h1, g1]
    simp only [Ieee.Datum.order]
    congr 1
    unfold key
    rw [h4, g4]
    cases negB k x <;> cases negB k y
    · exact (compare_int_eq _).symm
    · show compare (1 : Nat) 0 = compare ((k.format.infRung : Nat) : Int) (-(k.format.infRung : Nat) : Int)
      rw [compare_int_gt (by omega)]; decide
    · show compare (0 : Nat) 1 = compare (-(k.format.infRung : Nat) : Int) ((k.format.infRung : Nat) : Int)
      rw [compare_int_lt (by omega)]; decide
    · exact (compare_int_eq _).symm
theorem order_nan {k : FloatKind} {x y : Nat} (h : nanb k x = true ∨ nanb k y = true) : k.format.order x y = none := by
  unfold Ieee.Format.order
  unfold nanb FloatKind.decode at h
  cases hx : k.format.read x <;> cases hy : k.format.read y <;> rw [hx, hy] at h <;> simp [Ieee.Datum.isNaN] at h <;> simp [Ieee.Datum.order]
section
variable {k : FloatKind} {x y : Nat}
theorem cmp_key (op : BinOp) : fops.cmp op k x y = cmpOrd op (if nanb k x = false ∧ nanb k y = false then some (compare (key k x) (key k y)) else none) := by
  show cmpOrd op (k.format.order x y) = _
  split
  · rename_i h; rw [order_key h.1 h.2]
  · rename_i h
    rw [order_nan]
    cases h1 : nanb k x <;> cases h2 : nanb k y <;> simp_all
theorem cmp_lss : fops.cmp .lss k x y = (!nanb k x && !nanb k y && decide (key k x < key k y)) := by
  rw [cmp_key]
  cases nanb k x <;> cases nanb k y <;> try rfl
  rcases Int.lt_trichotomy (key k x) (key k y) with h | h | h
  · simp [cmpOrd, compare_int_lt h, h]
  · simp [cmpOrd, h, compare_int_eq]
  · simp [cmpOrd, compare_int_gt h]; omega
theorem cmp_gtr : fops.cmp .gtr k x y = (!nanb k x && !nanb k y && decide (key k y < key k x)) := by
  rw [cmp_key]
  cases nanb k x <;> cases nanb k y <;> try rfl
  rcases Int.lt_trichotomy (key k x) (key k y) with h | h | h
  · simp [cmpOrd, compare_int_lt h]; omega
  · simp [cmpOrd, h, compare_int_eq]
  · simp [cmpOrd, compare_int_gt h, h]
theorem cmp_leq : fops.cmp .leq k x y = (!nanb k x && !nanb k y && decide (key k x ≤ key k y)) := by
  rw [cmp_key]
  cases nanb k x <;> cases nanb k y <;> try rfl
  rcases Int.lt_trichotomy (key k x) (key k y) with h | h | h
  · simp [cmpOrd, compare_int_lt h]; omega
  · simp [cmpOrd, h, compare_int_eq]
  · simp [cmpOrd, compare_int_gt h]; omega
theorem cmp_geq : fops.cmp .geq k x y = (!nanb k x && !nanb k y && decide (key k y ≤ key k x)) := by
  rw [cmp_key]
  cases nanb k x <;> cases nanb k y <;> try rfl
  rcases Int.lt_trichotomy (key k x) (key k y) with h | h | h
  · simp [cmpOrd, compare_int_lt h]; omega
  · simp [cmpOrd, h, compare_int_eq]
  · simp [cmpOrd, compare_int_gt h]; omega
theorem cmp_eql : fops.cmp .eql k x y = (!nanb k x && !nanb k y && decide (key k x = key k y)) := by
  rw [cmp_key]
  cases nanb k x <;> cases nanb k y <;> try rfl
  rcases Int.lt_trichotomy (key k x) (key k y) with h | h | h
  · simp [cmpOrd, compare_int_lt h]; omega
  · simp [cmpOrd, h, compare_int_eq]
  · simp [cmpOrd, compare_int_gt h]; omega
end
end Go.Proofs.YtaodbpejeglmlaaDoor
