/- Sums, differences and products of floats: their sizes. Nothing is assumed. -/
import Derived.Test.YtngdmcbjponlhaaAr
namespace Go.Proofs.Ytngdmcbjponlhaa
open Go

/-- The number of a word in units of the least place, with its sign. -/
def val (x : Nat) : Int := sgn (negB .f32 x) (units FloatKind.f32.format.binade (rung .f32 x))
/-- A word of a number. -/
def Fin (x : Nat) : Prop := nanb .f32 x = false ∧ rung .f32 x < 2139095040
theorem inf32 : FloatKind.f32.format.infRung = 2139095040 := by decide +kernel
theorem sw32 : FloatKind.f32.format.signWeight = 2147483648 := by decide +kernel
theorem fin_read {x : Nat} (h : Fin x) : ∃ m e, FloatKind.f32.format.read x = .number (negB .f32 x) m e ∧ FloatKind.f32.format.leastPlace ≤ e ∧ m * 2 ^ (e - FloatKind.f32.format.leastPlace).toNat = units FloatKind.f32.format.binade (rung .f32 x) := by
  rcases read_cases .f32 x h.1 with ⟨m, e, h1, h2, h3, _⟩ | ⟨_, h4⟩
  · exact ⟨m, e, h1, h2, h3⟩
  · have := h.2; rw [h4, inf32] at this; omega
theorem fin_small {x : Nat} (h : x < 2139095040) : Fin x := by
  refine ⟨?_, by rw [rung_small (by omega)]; exact h⟩
  unfold nanb FloatKind.decode
  rw [read_nan, sw32, inf32]
  simp; omega
theorem val_small {x : Nat} (h : x < 2147483648) : val x = (units FloatKind.f32.format.binade x : Nat) := by
  unfold val sgn
  rw [neg_small h, rung_small h]; rfl
theorem signed_val {x : Nat} {m : Nat} {e b : Int} (s : Bool) (h1 : FloatKind.f32.format.leastPlace ≤ b) (h2 : b ≤ e) (h3 : m * 2 ^ (e - FloatKind.f32.format.leastPlace).toNat = units FloatKind.f32.format.binade (rung .f32 x)) :
    Ieee.signed s m (e - b).toNat * (2 ^ (b - FloatKind.f32.format.leastPlace).toNat : Nat) = sgn s (units FloatKind.f32.format.binade (rung .f32 x)) := by
  rw [signed_mul, ← h3]
  have : (e - b).toNat + (b - FloatKind.f32.format.leastPlace).toNat = (e - FloatKind.f32.format.leastPlace).toNat := by omega
  rw [this]
  rfl
theorem sgn_not (s : Bool) (n : Nat) : sgn (!s) n = - sgn s n := by cases s <;> simp [sgn]
/-- A difference of two numbers, and what it may not pass. -/
theorem sub_le {x y r : Nat} (hx : Fin x) (hy : Fin y) (h : val y ≤ val x) (hr : val x - val y ≤ (units FloatKind.f32.format.binade r : Nat)) (hs : negB .f32 x = false ∨ negB .f32 y = true ∨ val y < val x) :
    ∃ r', r' ≤ r ∧ r' ≤ 2139095040 ∧ (fops.bin .sub .f32 x y = r' ∨ fops.bin .sub .f32 x y = 2147483648 ∧ val x = val y) := by
  obtain ⟨m, i, h1, h2, h3⟩ := fin_read hx
  obtain ⟨n, j, g1, g2, g3⟩ := fin_read hy
  have hdef : fops.bin .sub .f32 x y = (((FloatKind.f32.format.read x).sum (FloatKind.f32.format.read y).opposite).map FloatKind.f32.format.write).getD (qnan .f32) := rfl
  rw [hdef, h1, g1]
  simp only [Ieee.Datum.opposite, Ieee.Datum.sum, Option.map_some, Option.getD_some, Ieee.Format.write]
  have e1 := signed_val (x := x) (b := min i j) (negB .f32 x) (by omega) (by omega) h3
  have e2 := signed_val (x := y) (b := min i j) (!negB .f32 y) (by omega) (by omega) g3
  rw [sgn_not] at e2
  generalize hT : Ieee.signed (negB .f32 x) m (i - min i j).toNat + Ieee.signed (!negB .f32 y) n (j - min i j).toNat = T
  have hTv : T * (2 ^ (min i j - FloatKind.f32.format.leastPlace).toNat : Nat) = val x - val y := by
    rw [← hT, Int.add_mul, e1, e2]; unfold val; omega
  have hp : (0 : Int) < ((2 ^ (min i j - FloatKind.f32.format.leastPlace).toNat : Nat) : Int) := by exact_mod_cast Nat.two_pow_pos _
  have hT0 : 0 ≤ T := by
    rcases Int.lt_or_le T 0 with h' | h'
    · have := Int.mul_neg_of_neg_of_pos h' hp
      rw [hTv] at this; omega
    · exact h'
  have hle : T.natAbs * 2 ^ (min i j - FloatKind.f32.format.leastPlace).toNat ≤ units FloatKind.f32.format.binade r * 2 ^ (FloatKind.f32.format.leastPlace - min i j).toNat := by
    have z : (FloatKind.f32.format.leastPlace - min i j).toNat = 0 := by omega
    rw [z, Nat.pow_zero, Nat.mul_one]
    have : ((T.natAbs * 2 ^ (min i j - FloatKind.f32.format.leastPlace).toNat : Nat) : Int) ≤ (units FloatKind.f32.format.binade r : Nat) := by
      rw [Int.natCast_mul, Int.natAbs_of_nonneg hT0, hTv]; exact hr
    exact_mod_cast this
  obtain ⟨r', k1, k2, k3⟩ := nearest_le .f32 (if T = 0 then negB .f32 x && !negB .f32 y else decide (T < 0)) hle
  rw [inf32] at k2
  refine ⟨r', k1, k2, ?_⟩
  rw [k3]
  by_cases ht : T = 0
  · rw [if_pos ht]
    have hv : val x = val y := by rw [ht, Int.zero_mul] at hTv; omega
    have : (negB .f32 x && !negB .f32 y) = false := by
      rcases hs with h' | h' | h'
      · rw [h']; rfl
      · rw [h']; simp
      · omega
    rw [this]; exact .inl rfl
  · rw [if_neg ht]
    have : decide (T < 0) = false := by simp; exact hT0
    rw [this]; exact .inl rfl
/-- A product of two that are not negative, and what it may not pass. -/
theorem mul_le {x y r : Nat} (hx : x < 2139095040) (hy : y < 2139095040) (h : units FloatKind.f32.format.binade x * units FloatKind.f32.format.binade y ≤ units FloatKind.f32.format.binade r * 2 ^ 149) :
    fops.bin .mul .f32 x y ≤ r ∧ fops.bin .mul .f32 x y ≤ 2139095040 := by
  obtain ⟨m, i, h1, h2, h3⟩ := fin_read (fin_small hx)
  obtain ⟨n, j, g1, g2, g3⟩ := fin_read (fin_small hy)
  rw [neg_small (by omega)] at h1 g1
  rw [rung_small (by omega)] at h3 g3
  have hdef : fops.bin .mul .f32 x y = (((FloatKind.f32.format.read x).product (FloatKind.f32.format.read y)).map FloatKind.f32.format.write).getD (qnan .f32) := rfl
  rw [hdef, h1, g1]
  simp only [Ieee.Datum.product, Option.map_some, Option.getD_some, Ieee.Format.write, Bool.false_bne, bne_self_eq_false]
  have lp : FloatKind.f32.format.leastPlace = -149 := by decide +kernel
  have key : m * n * 2 ^ (i + j - FloatKind.f32.format.leastPlace).toNat ≤ units FloatKind.f32.format.binade r * 2 ^ (FloatKind.f32.format.leastPlace - (i + j)).toNat := by
    rw [← h3, ← g3] at h
    have e1 : m * 2 ^ (i - FloatKind.f32.format.leastPlace).toNat * (n * 2 ^ (j - FloatKind.f32.format.leastPlace).toNat) = m * n * 2 ^ ((i - FloatKind.f32.format.leastPlace).toNat + (j - FloatKind.f32.format.leastPlace).toNat) := by
      rw [Nat.pow_add]; simp only [Nat.mul_comm, Nat.mul_left_comm, Nat.mul_assoc]
    rw [e1] at h
    rw [lp] at h2 g2 h ⊢
    by_cases hij : -149 ≤ i + j
    · have z : (-149 - (i + j)).toNat = 0 := by omega
      rw [z, Nat.pow_zero, Nat.mul_one]
      have e2 : (i - -149).toNat + (j - -149).toNat = (i + j - -149).toNat + 149 := by omega
      rw [e2, Nat.pow_add, ← Nat.mul_assoc] at h
      exact Nat.le_of_mul_le_mul_right h (Nat.two_pow_pos 149)
    · have z : (i + j - -149).toNat = 0 := by omega
      rw [z, Nat.pow_zero, Nat.mul_one]
      have e2 : 149 = (-149 - (i + j)).toNat + ((i - -149).toNat + (j - -149).toNat) := by omega
      have h' : m * n * 2 ^ ((i - -149).toNat + (j - -149).toNat) ≤ units FloatKind.f32.format.binade r * 2 ^ (-149 - (i + j)).toNat * 2 ^ ((i - -149).toNat + (j - -149).toNat) := by
        rw [Nat.mul_assoc (units FloatKind.f32.format.binade r), ← Nat.pow_add, ← e2]; exact h
      exact Nat.le_of_mul_le_mul_right h' (Nat.two_pow_pos _)
  obtain ⟨r', k1, k2, k3⟩ := nearest_le .f32 (false ^^ false) key
  rw [inf32] at k2
  first
    | (rw [k3]; exact ⟨k1, k2⟩)
    | (have k3' : FloatKind.f32.format.nearest false (m * n) (i + j) = r' := k3
       rw [k3']; exact ⟨k1, k2⟩)
theorem less_eq {x y : Nat} (hx : x ≤ 2139095040) (hy : y ≤ 2139095040) : (bif fops.cmp .lss .f32 x y then x else y) = (bif fops.cmp .lss .f32 y x then y else x) := by
  have nn : ∀ {z : Nat}, z ≤ 2139095040 → nanb .f32 z = false := by
    intro z hz
    unfold nanb FloatKind.decode
    rw [read_nan, sw32, inf32]
    simp; omega
  have kk : ∀ {z : Nat}, z ≤ 2139095040 → key .f32 z = z := by
    intro z hz
    unfold key
    rw [neg_small (by omega), rung_small (by omega)]; rfl
  rw [cmp_lss, cmp_lss, nn hx, nn hy, kk hx, kk hy]
  rcases Nat.lt_trichotomy x y with h | rfl | h
  · have a1 : (x : Int) < y := by omega
    have a2 : ¬ (y : Int) < x := by omega
    simp [a1, a2]
  · simp
  · have a1 : (y : Int) < x := by omega
    have a2 : ¬ (x : Int) < y := by omega
    simp [a1, a2]
theorem product_comm (a b : Ieee.Datum) : a.product b = b.product a := by
  cases a <;> cases b <;> simp only [Ieee.Datum.product]
  · rename_i s m i t n j
    rw [Bool.xor_comm s t, Nat.mul_comm m n, Int.add_comm i j]
  · rename_i s t
    rw [Bool.xor_comm s t]
theorem mul_comm_f (k : FloatKind) (x y : Nat) : fops.bin .mul k x y = fops.bin .mul k y x := by
  show (((k.format.read x).product (k.format.read y)).map k.format.write).getD (qnan k) = (((k.format.read y).product (k.format.read x)).map k.format.write).getD (qnan k)
  rw [product_comm]
/-- A sum of two that are not negative is not negative. -/
theorem add_pos {x y : Nat} (hx : x < 2139095040) (hy : y ≤ 2139095040) : fops.bin .add .f32 x y ≤ 2139095040 := by
  have hdef : fops.bin .add .f32 x y = (((FloatKind.f32.format.read x).sum (FloatKind.f32.format.read y)).map FloatKind.f32.format.write).getD (qnan .f32) := rfl
  obtain ⟨m, i, h1, h2, h3⟩ := fin_read (fin_small hx)
  rw [neg_small (by omega)] at h1
  rcases Nat.lt_or_eq_of_le hy with hy' | hy'
  · obtain ⟨n, j, g1, g2, g3⟩ := fin_read (fin_small hy')
    rw [neg_small (by omega)] at g1
    rw [hdef, h1, g1]
    simp only [Ieee.Datum.sum, Option.map_some, Option.getD_some, Ieee.Format.write]
    have s1 : ∀ (a b : Nat), Ieee.signed false a b = ((a <<< b : Nat) : Int) := fun a b => by simp [Ieee.signed]
    rw [s1, s1]
    generalize m <<< (i - min i j).toNat = a
    generalize n <<< (j - min i j).toNat = b
    have hneg : (if (a : Int) + (b : Int) = 0 then (false && false) else decide ((a : Int) + (b : Int) < 0)) = false := by
      split
      · rfl
      · simp; omega
    rw [hneg]
    unfold Ieee.Format.nearest
    split
    · rw [word_false]; decide
    · rw [word_false, inf32]
      exact Nat.min_le_right _ _
  · subst hy'
    have hi : FloatKind.f32.format.read 2139095040 = .infinity false := by decide +kernel
    rw [hdef, h1, hi]
    simp only [Ieee.Datum.sum, Option.map_some, Option.getD_some, Ieee.Format.write, word_false, inf32]
    exact Nat.le_refl _
end Go.Proofs.Ytngdmcbjponlhaa
