/- Facts of sums and products of floats. Nothing is assumed. -/
import Derived.Test.YtngdmcbjponlhaaSw
namespace Go.Proofs.Ytngdmcbjponlhaa
open Go

theorem bin_cn {op : BinOp} {k : FloatKind} {x y : Nat} : Cn k (fops.bin op k x y) := by
  show Cn k ((floatBits op k x y).getD (qnan k))
  cases h : floatBits op k x y with
  | some r => exact ⟨r, floatBits_lt h, can_of_not (floatBits_not_nan h)⟩
  | none => exact ⟨qnan k, by cases k <;> decide +kernel, by simp [can, qnan_nan]⟩
theorem word_false (f : Ieee.Format) (r : Nat) : f.word false r = r := rfl
/-- A word's own number is written as that word. -/
theorem nearest_units (k : FloatKind) (s : Bool) {r : Nat} (h : r < k.format.infRung) : k.format.nearest s (units k.format.binade r) k.format.leastPlace = k.format.word s r := by
  have hb : 0 < k.format.binade := binade_pos k
  have hbd : k.format.binade = 2 ^ k.format.fractionBits := rfl
  unfold Ieee.Format.nearest
  by_cases h0 : r = 0
  · subst h0
    have : units k.format.binade 0 = 0 := by unfold units; rw [if_pos hb]
    rw [this, if_pos rfl]
  · have hpos : 0 < units k.format.binade r := by
      have := units_lt (b := k.format.binade) hb (Nat.pos_of_ne_zero h0)
      have u0 : units k.format.binade 0 = 0 := by unfold units; rw [if_pos hb]
      rw [u0] at this; exact this
    rw [if_neg (by omega)]
    by_cases h1 : r < k.format.binade
    · have hu : units k.format.binade r = r := by unfold units; rw [if_pos h1]
      rw [hu]
      have hl : r.log2 < k.format.fractionBits := by rw [Nat.log2_lt h0]; exact h1
      have hm : max (k.format.leastPlace + (r.log2 : Int) - (k.format.fractionBits : Int)) k.format.leastPlace = k.format.leastPlace := by omega
      simp only [hm, Int.sub_self, Int.toNat_zero, Nat.zero_mul, Nat.zero_add, Nat.shiftLeft_zero, cut_zero]
      rw [Nat.min_eq_left (Nat.le_of_lt h)]
    · have hq : 1 ≤ r / k.format.binade := (Nat.one_le_div_iff hb).2 (by omega)
      have hu : units k.format.binade r = (k.format.binade + r % k.format.binade) * 2 ^ (r / k.format.binade - 1) := by unfold units; rw [if_neg h1]
      have hmod : r % k.format.binade < k.format.binade := Nat.mod_lt _ hb
      have hlog : (units k.format.binade r).log2 = k.format.fractionBits + (r / k.format.binade - 1) := by
        rw [Nat.log2_eq_iff (by omega), hu]
        constructor
        · rw [Nat.pow_add, ← hbd]
          exact Nat.mul_le_mul_right _ (Nat.le_add_right _ _)
        · rw [show k.format.fractionBits + (r / k.format.binade - 1) + 1 = (k.format.fractionBits + 1) + (r / k.format.binade - 1) by omega, Nat.pow_add, Nat.pow_succ, ← hbd]
          exact Nat.mul_lt_mul_of_pos_right (by omega) (Nat.two_pow_pos _)
      rw [hlog]
      have hm : max (k.format.leastPlace + ((k.format.fractionBits + (r / k.format.binade - 1) : Nat) : Int) - (k.format.fractionBits : Int)) k.format.leastPlace = k.format.leastPlace + ((r / k.format.binade - 1 : Nat) : Int) := by omega
      simp only [hm]
      have e1 : (k.format.leastPlace - (k.format.leastPlace + ((r / k.format.binade - 1 : Nat) : Int))).toNat = 0 := by omega
      have e2 : (k.format.leastPlace + ((r / k.format.binade - 1 : Nat) : Int) - k.format.leastPlace).toNat = r / k.format.binade - 1 := by omega
      rw [e1, e2, Nat.shiftLeft_zero]
      have hcut : Ieee.Toward.even.cut s (units k.format.binade r) (r / k.format.binade - 1) = k.format.binade + r % k.format.binade := by
        unfold Ieee.Toward.cut
        rw [hlog, Nat.min_eq_left (by omega), Nat.shiftLeft_eq, Nat.one_mul, hu]
        dsimp only
        rw [Nat.mul_div_cancel _ (Nat.two_pow_pos _), Nat.mul_mod_left]
        have : 0 < 2 ^ (r / k.format.binade - 1) := Nat.two_pow_pos _
        have h2 : (2 ^ (r / k.format.binade - 1) == 2 * 0) = false := by simp
        simp [h2]
      rw [hcut]
      have hr : (r / k.format.binade - 1) * k.format.binade + (k.format.binade + r % k.format.binade) = r := by
        have := Nat.div_add_mod r k.format.binade
        have e3 : (r / k.format.binade - 1) * k.format.binade + k.format.binade = r / k.format.binade * k.format.binade := by
          rw [← Nat.succ_mul, Nat.succ_eq_add_one, Nat.sub_add_cancel hq]
        rw [Nat.mul_comm] at this
        omega
      rw [hr, Nat.min_eq_left (Nat.le_of_lt h)]
theorem even_le {s : Bool} {n d t : Nat} (h : n ≤ t * 2 ^ d) : Ieee.Toward.even.cut s n d ≤ t := by
  unfold Ieee.Toward.cut
  dsimp only
  rw [Nat.shiftLeft_eq, Nat.one_mul]
  have hp : 0 < 2 ^ min d (n.log2 + 2) := Nat.two_pow_pos _
  generalize hg : 2 ^ min d (n.log2 + 2) = g at hp ⊢
  have hdm := Nat.div_add_mod n g
  have hrest : n % g < g := Nat.mod_lt _ hp
  -- where all digits are dropped the number is less than half a unit
  by_cases hd : d ≤ n.log2 + 2
  · have hgd : g = 2 ^ d := by rw [← hg, Nat.min_eq_left hd]
    rw [← hgd] at h
    have hlow : n / g ≤ t := by
      have := Nat.div_le_div_right (c := g) h
      rwa [Nat.mul_div_cancel _ hp] at this
    rcases Nat.lt_or_eq_of_le hlow with h1 | h1
    · have : ∀ b : Bool, b.toNat ≤ 1 := fun b => by cases b <;> decide
      have := this (decide (g < 2 * (n % g)) || (g == 2 * (n % g) && n / g % 2 == 1))
      omega
    · have h2 : n % g = 0 := by
        rw [h1, Nat.mul_comm] at hdm
        omega
      have h3 : (g == 2 * 0) = false := by
        cases hb : (g == 2 * 0)
        · rfl
        · have := of_decide_eq_true (p := g = 2 * 0) (by simpa using hb); omega
      rw [h2, h3, h1]
      simp
  · have hgd : g = 2 ^ (n.log2 + 2) := by rw [← hg, Nat.min_eq_right (by omega)]
    have hn : n < 2 ^ (n.log2 + 1) := Nat.lt_log2_self
    have h2 : 2 * n < g := by rw [hgd, Nat.pow_succ]; omega
    have hlt : n < g := by omega
    rw [Nat.div_eq_of_lt hlt, Nat.mod_eq_of_lt hlt]
    have h3 : decide (g < 2 * n) = false := by simp; omega
    have h4 : (g == 2 * n) = false := by simp; omega
    rw [h3, h4]
    simp
/-- No number that is at most a word's is written above it. -/
theorem nearest_le (k : FloatKind) (s : Bool) {m : Nat} {e : Int} {r : Nat} (h : m * 2 ^ (e - k.format.leastPlace).toNat ≤ units k.format.binade r * 2 ^ (k.format.leastPlace - e).toNat) : ∃ r', r' ≤ r ∧ r' ≤ k.format.infRung ∧ k.format.nearest s m e = k.format.word s r' := by
  have hb : 0 < k.format.binade := binade_pos k
  have hbd : k.format.binade = 2 ^ k.format.fractionBits := rfl
  unfold Ieee.Format.nearest
  by_cases h0 : m = 0
  · rw [if_pos h0]; exact ⟨0, Nat.zero_le _, Nat.zero_le _, rfl⟩
  rw [if_neg h0]
  refine ⟨_, ?_, Nat.min_le_right _ _, rfl⟩
  refine Nat.le_trans (Nat.min_le_left _ _) ?_
  -- the number in units, and its binade
  generalize hE : (e - k.format.leastPlace).toNat = E at h
  generalize hF : (k.format.leastPlace - e).toNat = F at h
  have hEe : e = k.format.leastPlace + (E : Int) - (F : Int) := by omega
  have hEF : E = 0 ∨ F = 0 := by omega
  have hml : 2 ^ m.log2 ≤ m := Nat.log2_self_le h0
  have hmu : m < 2 ^ (m.log2 + 1) := Nat.lt_log2_self
  by_cases hn : E + m.log2 ≤ k.format.fractionBits + F
  · -- the least binades: a step is a unit
    have hm : max (e + (m.log2 : Int) - (k.format.fractionBits : Int)) k.format.leastPlace = k.format.leastPlace := by omega
    simp only [hm]
    rw [hE, hF, Int.sub_self, Int.toNat_zero, Nat.zero_mul, Nat.zero_add, Nat.shiftLeft_eq]
    have hu : m * 2 ^ E ≤ (2 * k.format.binade) * 2 ^ F := by
      calc m * 2 ^ E ≤ 2 ^ (m.log2 + 1) * 2 ^ E := Nat.mul_le_mul_right _ (Nat.le_of_lt hmu)
        _ = 2 ^ (E + m.log2 + 1) := by rw [← Nat.pow_add]; congr 1; omega
        _ ≤ 2 ^ (k.format.fractionBits + 1 + F) := Nat.pow_le_pow_right (by omega) (by omega)
        _ = (2 * k.format.binade) * 2 ^ F := by rw [Nat.pow_add, Nat.pow_succ, hbd, Nat.mul_comm 2]
    by_cases hr2 : r < 2 * k.format.binade
    · have : units k.format.binade r = r := by
        unfold units
        split
        · rfl
        · rename_i h1
          have hq : r / k.format.binade = 1 := by
            refine Nat.le_antisymm ?_ ((Nat.one_le_div_iff hb).2 (by omega))
            exact Nat.le_of_lt_succ (Nat.div_lt_of_lt_mul (by omega))
          have := Nat.div_add_mod r k.format.binade
          rw [hq] at this ⊢
          simp; omega
      rw [this] at h; exact even_le h
    · exact Nat.le_trans (even_le hu) (by omega)
  · -- a number with all its digits
    have hm : max (e + (m.log2 : Int) - (k.format.fractionBits : Int)) k.format.leastPlace = k.format.leastPlace + ((E + m.log2 - k.format.fractionBits - F : Nat) : Int) := by omega
    simp only [hm]
    generalize hD : E + m.log2 - k.format.fractionBits - F = D
    have e1 : (k.format.leastPlace + (D : Int) - k.format.leastPlace).toNat = D := by omega
    rw [e1]
    -- what is kept is below t where the number is
    have kept : ∀ t, m * 2 ^ E ≤ t * 2 ^ D * 2 ^ F → Ieee.Toward.even.cut s (m <<< (e - (k.format.leastPlace + (D : Int))).toNat) (k.format.leastPlace + (D : Int) - e).toNat ≤ t := by
      intro t ht
      refine even_le ?_
      rw [Nat.shiftLeft_eq]
      rw [Nat.mul_assoc, ← Nat.pow_add] at ht
      by_cases hED : D + F ≤ E
      · have d1 : (e - (k.format.leastPlace + (D : Int))).toNat = E - (D + F) := by omega
        have d2 : (k.format.leastPlace + (D : Int) - e).toNat = 0 := by omega
        rw [d1, d2, Nat.pow_zero, Nat.mul_one]
        have : m * 2 ^ E = m * 2 ^ (E - (D + F)) * 2 ^ (D + F) := by rw [Nat.mul_assoc, ← Nat.pow_add, Nat.sub_add_cancel hED]
        rw [this] at ht
        exact Nat.le_of_mul_le_mul_right ht (Nat.two_pow_pos _)
      · have d1 : (e - (k.format.leastPlace + (D : Int))).toNat = 0 := by omega
        have d2 : (k.format.leastPlace + (D : Int) - e).toNat = D + F - E := by omega
        rw [d1, d2, Nat.pow_zero, Nat.mul_one]
        have : t * 2 ^ (D + F) = t * 2 ^ (D + F - E) * 2 ^ E := by rw [Nat.mul_assoc, ← Nat.pow_add, Nat.sub_add_cancel (by omega)]
        rw [this] at ht
        exact Nat.le_of_mul_le_mul_right ht (Nat.two_pow_pos _)
    have hlow : k.format.binade * 2 ^ D * 2 ^ F ≤ m * 2 ^ E := by
      calc k.format.binade * 2 ^ D * 2 ^ F = 2 ^ (E + m.log2) := by rw [hbd, ← Nat.pow_add, ← Nat.pow_add]; congr 1; omega
        _ = 2 ^ m.log2 * 2 ^ E := by rw [← Nat.pow_add]; congr 1; omega
        _ ≤ m * 2 ^ E := Nat.mul_le_mul_right _ hml
    have hup : m * 2 ^ E ≤ (2 * k.format.binade) * 2 ^ D * 2 ^ F := by
      calc m * 2 ^ E ≤ 2 ^ (m.log2 + 1) * 2 ^ E := Nat.mul_le_mul_right _ (Nat.le_of_lt hmu)
        _ = (2 * k.format.binade) * 2 ^ D * 2 ^ F := by
          rw [hbd, ← Nat.pow_add, ← Nat.pow_succ', ← Nat.pow_add, ← Nat.pow_add]; congr 1; omega
    by_cases hr2 : D * k.format.binade + 2 * k.format.binade ≤ r
    · exact Nat.le_trans (Nat.add_le_add_left (kept _ hup) _) hr2
    · -- the word is of that binade
      have hlow' : k.format.binade * 2 ^ D ≤ units k.format.binade r := Nat.le_of_mul_le_mul_right (Nat.le_trans hlow h) (Nat.two_pow_pos F)
      have hge : D * k.format.binade + k.format.binade ≤ r := by
        rcases Nat.lt_or_ge r (D * k.format.binade + k.format.binade) with hlt | hge
        · exfalso
          have h1 := units_lt (b := k.format.binade) hb hlt
          have h2 : units k.format.binade (D * k.format.binade + k.format.binade) = k.format.binade * 2 ^ D := by
            unfold units
            rw [if_neg (by omega)]
            have h3 : D * k.format.binade + k.format.binade = (D + 1) * k.format.binade := by rw [Nat.succ_mul]
            rw [h3, Nat.mul_mod_left, Nat.mul_div_cancel _ hb]
            simp
          rw [h2] at h1
          omega
        · exact hge
      have hq : r / k.format.binade = D + 1 := by
        refine Nat.le_antisymm (Nat.le_of_lt_succ (Nat.div_lt_of_lt_mul ?_)) ((Nat.le_div_iff_mul_le hb).2 ?_)
        · rw [Nat.mul_comm, show (D + 1).succ = D + 2 from rfl, Nat.add_mul]; omega
        · rw [Nat.add_mul]; omega
      have hu : units k.format.binade r = (r - D * k.format.binade) * 2 ^ D := by
        unfold units
        rw [if_neg (by omega), hq]
        have := Nat.div_add_mod r k.format.binade
        rw [hq, Nat.mul_comm, Nat.add_mul] at this
        congr 1
        omega
      rw [hu] at h
      have := kept _ h
      omega

/-! ### zero adds nothing -/
theorem read_zero : FloatKind.f32.format.read 0 = .number false 0 FloatKind.f32.format.leastPlace := by decide +kernel
theorem neg_small {x : Nat} (h : x < 2147483648) : negB .f32 x = false := by
  unfold negB
  rw [show FloatKind.f32.format.signWeight = 2147483648 by decide +kernel, Nat.div_eq_of_lt h]; rfl
theorem rung_small {x : Nat} (h : x < 2147483648) : rung .f32 x = x := by
  unfold rung
  rw [show FloatKind.f32.format.signWeight = 2147483648 by decide +kernel, Nat.mod_eq_of_lt h]
theorem add_def (x y : Nat) : fops.bin .add .f32 x y = (((FloatKind.f32.format.read x).sum (FloatKind.f32.format.read y)).map FloatKind.f32.format.write).getD (qnan .f32) := rfl
theorem nan_read {x : Nat} (h : nanb .f32 x = true) : ∃ s t, FloatKind.f32.format.read x = .nan s t := by
  unfold nanb FloatKind.decode at h
  cases hd : FloatKind.f32.format.read x <;> rw [hd] at h <;> simp [Ieee.Datum.isNaN] at h
  exact ⟨_, _, rfl⟩
theorem add_zero {x : Nat} (hx : Cn .f32 x) (h : x < 2147483648) : fops.bin .add .f32 x 0 = x ∧ fops.bin .add .f32 0 x = x := by
  rw [add_def, add_def, read_zero]
  cases hn : nanb .f32 x with
  | true =>
    obtain ⟨s, t, hd⟩ := nan_read hn
    have hq : x = qnan .f32 := by have := hx.nan; rw [hn] at this; exact beqN.1 this.symm
    rw [hd]
    exact ⟨hq.symm, hq.symm⟩
  | false =>
    rcases read_cases .f32 x hn with ⟨m, e, h1, h2, h3, h4⟩ | ⟨h1, h4⟩
    · rw [neg_small h] at h1
      rw [rung_small h] at h3 h4
      rw [h1]
      have b1 : min e FloatKind.f32.format.leastPlace = FloatKind.f32.format.leastPlace := by omega
      have b2 : min FloatKind.f32.format.leastPlace e = FloatKind.f32.format.leastPlace := by omega
      have s1 : Ieee.signed false m (e - FloatKind.f32.format.leastPlace).toNat = ((units FloatKind.f32.format.binade x : Nat) : Int) := by
        unfold Ieee.signed
        rw [if_neg (by simp), Nat.shiftLeft_eq, h3]
      have s2 : ∀ n, Ieee.signed false 0 n = 0 := fun n => by simp [Ieee.signed]
      simp only [Ieee.Datum.sum, b1, b2, s1, s2, Int.add_zero, Int.zero_add, Option.map_some, Option.getD_some, Ieee.Format.write, Int.natAbs_natCast]
      have hneg : ∀ n : Nat, (if (n : Int) = 0 then (false && false) else decide ((n : Int) < 0)) = false := fun n => by split <;> simp
      rw [hneg, nearest_units .f32 false h4, word_false]
      exact ⟨rfl, rfl⟩
    · rw [neg_small h] at h1
      rw [rung_small h] at h4
      rw [h1]
      simp only [Ieee.Datum.sum, Option.map_some, Option.getD_some, Ieee.Format.write, word_false, h4]
      exact ⟨trivial, trivial⟩
/-- A product of two that are not negative is not negative. -/
theorem mul_pos {x y : Nat} (hx : x < 2147483648) (hy : y < 2147483648) : fops.bin .mul .f32 x y < 2147483648 := by
  have hdef : fops.bin .mul .f32 x y = (((FloatKind.f32.format.read x).product (FloatKind.f32.format.read y)).map FloatKind.f32.format.write).getD (qnan .f32) := rfl
  have hi : FloatKind.f32.format.infRung = 2139095040 := by decide +kernel
  have sgn : ∀ {z : Nat}, z < 2147483648 → (FloatKind.f32.format.read z).neg = false := by
    intro z hz
    cases hn : nanb .f32 z with
    | true =>
      unfold Ieee.Format.read
      have : (z / FloatKind.f32.format.signWeight % 2 == 1) = false := neg_small hz
      dsimp only
      rw [this]
      split
      · rfl
      · split
        · rfl
        · split <;> rfl
    | false =>
      rcases read_cases .f32 z hn with ⟨m, e, h1, _⟩ | ⟨h1, _⟩ <;> rw [h1] <;> exact neg_small hz
  have wr : ∀ d : Ieee.Datum, d.neg = false → d.isNaN = false → FloatKind.f32.format.write d < 2147483648 := by
    intro d h1 h2
    cases d with
    | nan s t => cases h2
    | infinity s => cases h1; rw [Ieee.Format.write, word_false, hi]; decide
    | number s m e =>
      cases h1
      simp only [Ieee.Format.write, Ieee.Format.nearest]
      split
      · rw [word_false]; decide
      · rw [word_false]
        exact Nat.lt_of_le_of_lt (Nat.min_le_right _ _) (by rw [hi]; decide)
  rw [hdef]
  cases hp : (FloatKind.f32.format.read x).product (FloatKind.f32.format.read y) with
  | none => decide +kernel
  | some d =>
    refine wr d ?_ (product_not_nan hp)
    have g1 := sgn hx
    have g2 := sgn hy
    cases h1 : FloatKind.f32.format.read x <;> cases h2 : FloatKind.f32.format.read y <;> rw [h1] at hp g1 <;> rw [h2] at hp g2 <;> simp only [Ieee.Datum.neg] at g1 g2 <;> subst g1 <;> subst g2 <;> simp only [Ieee.Datum.product] at hp <;> first
      | (cases hp; done)
      | (cases hp; rfl)
      | (split at hp <;> cases hp; rfl)
end Go.Proofs.Ytngdmcbjponlhaa
