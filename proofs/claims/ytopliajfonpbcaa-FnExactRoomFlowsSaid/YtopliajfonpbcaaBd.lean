/- Sums, differences and products of floats: bounds. Nothing is assumed. -/
import Derived.Test.YtopliajfonpbcaaAs
import Derived.Test.YtopliajfonpbcaaAmt
namespace Go.Proofs.Ytopliajfonpbcaa
open Go

abbrev un (r : Nat) : Nat := units FloatKind.f32.format.binade r
theorem un_le {r r' : Nat} (h : r ≤ r') : un r ≤ un r' := units_le (binade_pos .f32) h
theorem nan_word (s : Bool) {r : Nat} (h : r ≤ 2139095040) : nanb .f32 (FloatKind.f32.format.word s r) = false ∧ negB .f32 (FloatKind.f32.format.word s r) = s ∧ rung .f32 (FloatKind.f32.format.word s r) = r := by
  have hr : r < FloatKind.f32.format.signWeight := by rw [sw32]; omega
  have h1 := rung_word FloatKind.f32.format s hr
  refine ⟨?_, ?_, h1⟩
  · unfold nanb FloatKind.decode
    rw [read_nan, h1, inf32]; simp; omega
  · unfold negB
    cases s
    · rw [word_false, Nat.div_eq_of_lt hr]; rfl
    · have : FloatKind.f32.format.word true r = FloatKind.f32.format.signWeight + r := by
        unfold Ieee.Format.word; simp
      rw [this, Nat.add_div_left _ (by rw [sw32]; decide), Nat.div_eq_of_lt hr]; rfl
/-- A sum of two numbers. -/
structure SumF (z : Nat) (v : Int) : Prop where
  nan : nanb .f32 z = false
  inf : rung .f32 z ≤ 2139095040
  neg : v < 0 → negB .f32 z = true
  pos : 0 < v → negB .f32 z = false
  le : ∀ r, v.natAbs ≤ un r → rung .f32 z ≤ r
theorem sum_form {x y : Nat} (sy : Bool) (hx : Fin x) (hy : Fin y) :
    ∀ z, (((FloatKind.f32.format.read x).sum (match sy with | true => (FloatKind.f32.format.read y).opposite | false => FloatKind.f32.format.read y)).map FloatKind.f32.format.write).getD (qnan .f32) = z →
      SumF z (val x + (bif sy then - val y else val y)) ∧ (negB .f32 x = false → (bif sy then true else negB .f32 y == false) = true → val x + (bif sy then - val y else val y) = 0 → negB .f32 z = false) := by
  intro z hz
  obtain ⟨m, i, h1, h2, h3⟩ := fin_read hx
  obtain ⟨n, j, g1, g2, g3⟩ := fin_read hy
  have hop : (match sy with | true => (FloatKind.f32.format.read y).opposite | false => FloatKind.f32.format.read y) = .number (sy ^^ negB .f32 y) n j := by
    cases sy
    · rw [g1]; simp
    · rw [g1]; simp [Ieee.Datum.opposite]
  rw [hop, h1] at hz
  simp only [Ieee.Datum.sum, Option.map_some, Option.getD_some, Ieee.Format.write] at hz
  have e1 := signed_val (x := x) (b := min i j) (negB .f32 x) (by omega) (by omega) h3
  have e2 := signed_val (x := y) (b := min i j) (sy ^^ negB .f32 y) (by omega) (by omega) g3
  have e2' : sgn (sy ^^ negB .f32 y) (units FloatKind.f32.format.binade (rung .f32 y)) = bif sy then - val y else val y := by
    cases sy
    · simp [val]
    · simp [val, sgn_not]
  rw [e2'] at e2
  generalize hT : Ieee.signed (negB .f32 x) m (i - min i j).toNat + Ieee.signed (sy ^^ negB .f32 y) n (j - min i j).toNat = T at hz
  generalize hV : val x + (bif sy then - val y else val y) = V
  have hTv : T * (2 ^ (min i j - FloatKind.f32.format.leastPlace).toNat : Nat) = V := by
    rw [← hT, Int.add_mul, e1, e2, ← hV]; rfl
  have hp : (0 : Int) < ((2 ^ (min i j - FloatKind.f32.format.leastPlace).toNat : Nat) : Int) := by exact_mod_cast Nat.two_pow_pos _
  have hle : ∀ r, V.natAbs ≤ un r → T.natAbs * 2 ^ (min i j - FloatKind.f32.format.leastPlace).toNat ≤ units FloatKind.f32.format.binade r * 2 ^ (FloatKind.f32.format.leastPlace - min i j).toNat := by
    intro r hr
    have z : (FloatKind.f32.format.leastPlace - min i j).toNat = 0 := by omega
    rw [z, Nat.pow_zero, Nat.mul_one]
    have : T.natAbs * 2 ^ (min i j - FloatKind.f32.format.leastPlace).toNat = V.natAbs := by
      rw [← hTv, Int.natAbs_mul, Int.natAbs_natCast]
    rw [this]; exact hr
  generalize hS : (if T = 0 then negB .f32 x && (sy ^^ negB .f32 y) else decide (T < 0)) = S at hz
  have hform : ∀ r, V.natAbs ≤ un r → ∃ r', r' ≤ r ∧ r' ≤ 2139095040 ∧ z = FloatKind.f32.format.word S r' := by
    intro r hr
    obtain ⟨r', k1, k2, k3⟩ := nearest_le .f32 S (hle r hr)
    rw [inf32] at k2
    exact ⟨r', k1, k2, hz.symm.trans k3⟩
  -- some bound there is
  have hbig : ∃ r, V.natAbs ≤ un r := by
    have grow : ∀ n, n ≤ un n := by
      intro n
      induction n with
      | zero => exact Nat.zero_le _
      | succ n ih => exact Nat.lt_of_le_of_lt ih (units_lt (binade_pos .f32) (Nat.lt_succ_self n))
    exact ⟨_, grow _⟩
  obtain ⟨R, hR⟩ := hbig
  obtain ⟨r0, _, q2, q3⟩ := hform R hR
  obtain ⟨w1, w2, w3⟩ := nan_word S q2
  have hT0 : T < 0 ↔ V < 0 := by
    rw [← hTv]
    constructor
    · intro h; exact Int.mul_neg_of_neg_of_pos h hp
    · intro h
      rcases Int.lt_or_le T 0 with h' | h'
      · exact h'
      · have := Int.mul_nonneg h' (Int.le_of_lt hp); omega
  have hT1 : T = 0 ↔ V = 0 := by
    rw [← hTv]
    constructor
    · intro h; rw [h, Int.zero_mul]
    · intro h
      rcases Int.mul_eq_zero.1 h with h' | h'
      · exact h'
      · omega
  refine ⟨⟨by rw [q3]; exact w1, by rw [q3, w3]; exact q2, fun hv => ?_, fun hv => ?_, fun r hr => ?_⟩, fun hx0 hy0 hv => ?_⟩
  · rw [q3, w2, ← hS, if_neg (fun h => by have := hT1.1 h; omega)]
    exact decide_eq_true (hT0.2 hv)
  · rw [q3, w2, ← hS, if_neg (fun h => by have := hT1.1 h; omega)]
    exact decide_eq_false (fun h => by have := hT0.1 h; omega)
  · obtain ⟨r1, k1, k2, k3⟩ := hform r hr
    rw [k3, (nan_word S k2).2.2]; exact k1
  · rw [q3, w2, ← hS, if_pos (hT1.2 hv), hx0]; rfl
theorem add_form {x y : Nat} (hx : Fin x) (hy : Fin y) : SumF (fops.bin .add .f32 x y) (val x + val y) ∧ (negB .f32 x = false → negB .f32 y = false → val x + val y = 0 → negB .f32 (fops.bin .add .f32 x y) = false) := by
  obtain ⟨h1, h2⟩ := sum_form false hx hy _ rfl
  exact ⟨h1, fun a b c => h2 a (by simp [b]) c⟩
theorem sub_form {x y : Nat} (hx : Fin x) (hy : Fin y) : SumF (fops.bin .sub .f32 x y) (val x - val y) ∧ (negB .f32 x = false → val x - val y = 0 → negB .f32 (fops.bin .sub .f32 x y) = false) := by
  obtain ⟨h1, h2⟩ := sum_form true hx hy _ rfl
  exact ⟨h1, fun a c => h2 a rfl c⟩
/-- A word below 'r', up to the sign. -/
def Bd (x r : Nat) : Prop := Fin x ∧ rung .f32 x ≤ r
theorem val_abs (x : Nat) : (val x).natAbs = un (rung .f32 x) := by
  unfold val sgn
  cases negB .f32 x <;> simp
theorem Bd.mono {x r r' : Nat} (h : Bd x r) (hr : r ≤ r') : Bd x r' := ⟨h.1, Nat.le_trans h.2 hr⟩
theorem bd_small {x r : Nat} (h : x ≤ r) (hr : r < 2139095040) : Bd x r := ⟨fin_small (by omega), by rw [rung_small (by omega)]; exact h⟩
theorem SumF.bd {z : Nat} {v : Int} (h : SumF z v) {r : Nat} (hr : r < 2139095040) (hv : v.natAbs ≤ un r) : Bd z r := ⟨⟨h.nan, Nat.lt_of_le_of_lt (h.le r hv) hr⟩, h.le r hv⟩
theorem Bd.add {x y a b r : Nat} (hx : Bd x a) (hy : Bd y b) (hr : r < 2139095040) (h : un a + un b ≤ un r) : Bd (fops.bin .add .f32 x y) r := by
  refine (add_form hx.1 hy.1).1.bd hr (Nat.le_trans (Int.natAbs_add_le _ _) ?_)
  rw [val_abs, val_abs]
  have := un_le hx.2
  have := un_le hy.2
  omega
theorem Bd.sub {x y a b r : Nat} (hx : Bd x a) (hy : Bd y b) (hr : r < 2139095040) (h : un a + un b ≤ un r) : Bd (fops.bin .sub .f32 x y) r := by
  refine (sub_form hx.1 hy.1).1.bd hr (Nat.le_trans (Int.natAbs_sub_le _ _) ?_)
  rw [val_abs, val_abs]
  have := un_le hx.2
  have := un_le hy.2
  omega
theorem Bd.mul {x y a b r : Nat} (hx : Bd x a) (hy : Bd y b) (hr : r < 2139095040) (h : un a * un b ≤ un r * 2 ^ 149) : Bd (fops.bin .mul .f32 x y) r := by
  obtain ⟨m, i, h1, h2, h3⟩ := fin_read hx.1
  obtain ⟨n, j, g1, g2, g3⟩ := fin_read hy.1
  have hdef : fops.bin .mul .f32 x y = (((FloatKind.f32.format.read x).product (FloatKind.f32.format.read y)).map FloatKind.f32.format.write).getD (qnan .f32) := rfl
  rw [hdef, h1, g1]
  simp only [Ieee.Datum.product, Option.map_some, Option.getD_some, Ieee.Format.write]
  have lp : FloatKind.f32.format.leastPlace = -149 := by decide +kernel
  have hab : units FloatKind.f32.format.binade (rung .f32 x) * units FloatKind.f32.format.binade (rung .f32 y) ≤ un r * 2 ^ 149 :=
    Nat.le_trans (Nat.mul_le_mul (un_le hx.2) (un_le hy.2)) h
  have key : m * n * 2 ^ (i + j - FloatKind.f32.format.leastPlace).toNat ≤ units FloatKind.f32.format.binade r * 2 ^ (FloatKind.f32.format.leastPlace - (i + j)).toNat := by
    rw [← h3, ← g3] at hab
    have e1 : m * 2 ^ (i - FloatKind.f32.format.leastPlace).toNat * (n * 2 ^ (j - FloatKind.f32.format.leastPlace).toNat) = m * n * 2 ^ ((i - FloatKind.f32.format.leastPlace).toNat + (j - FloatKind.f32.format.leastPlace).toNat) := by
      rw [Nat.pow_add]; simp only [Nat.mul_comm, Nat.mul_left_comm, Nat.mul_assoc]
    rw [e1] at hab
    rw [lp] at h2 g2 hab ⊢
    by_cases hij : -149 ≤ i + j
    · have z : (-149 - (i + j)).toNat = 0 := by omega
      rw [z, Nat.pow_zero, Nat.mul_one]
      have e2 : (i - -149).toNat + (j - -149).toNat = (i + j - -149).toNat + 149 := by omega
      rw [e2, Nat.pow_add, ← Nat.mul_assoc] at hab
      exact Nat.le_of_mul_le_mul_right hab (Nat.two_pow_pos 149)
    · have z : (i + j - -149).toNat = 0 := by omega
      rw [z, Nat.pow_zero, Nat.mul_one]
      have e2 : 149 = (-149 - (i + j)).toNat + ((i - -149).toNat + (j - -149).toNat) := by omega
      have h' : m * n * 2 ^ ((i - -149).toNat + (j - -149).toNat) ≤ units FloatKind.f32.format.binade r * 2 ^ (-149 - (i + j)).toNat * 2 ^ ((i - -149).toNat + (j - -149).toNat) := by
        rw [Nat.mul_assoc (units FloatKind.f32.format.binade r), ← Nat.pow_add, ← e2]; exact hab
      exact Nat.le_of_mul_le_mul_right h' (Nat.two_pow_pos _)
  obtain ⟨r', k1, k2, k3⟩ := nearest_le .f32 (negB .f32 x ^^ negB .f32 y) key
  rw [inf32] at k2
  have k4 := nan_word (negB .f32 x ^^ negB .f32 y) k2
  rw [← k3] at k4
  refine ⟨⟨k4.1, ?_⟩, ?_⟩
  · exact Nat.lt_of_le_of_lt (Nat.le_of_eq k4.2.2) (Nat.lt_of_le_of_lt k1 hr)
  · exact Nat.le_trans (Nat.le_of_eq k4.2.2) k1
theorem Fin.num {x : Nat} (h : Fin x) : isNum x = true := by
  obtain ⟨m, e, h1, _⟩ := fin_read h
  unfold isNum; rw [h1]
theorem Bd.num {x r : Nat} (h : Bd x r) : isNum x = true := h.1.num
theorem num_fin {x : Nat} (h : isNum x = true) : Fin x := by
  have hn := nan_num h
  rcases read_cases .f32 x hn with ⟨m, e, h1, _, _, h4⟩ | ⟨h1, _⟩
  · rw [inf32] at h4; exact ⟨hn, h4⟩
  · unfold isNum at h; rw [h1] at h; cases h
theorem num_bd {x : Nat} (h : isNum x = true) : Bd x 2139095039 := ⟨num_fin h, by have := (num_fin h).2; omega⟩
theorem write_inf (s : Bool) : isNum (FloatKind.f32.format.write (.infinity s)) = false := by cases s <;> decide +kernel
theorem mul_num {x y : Nat} (h : isNum (fops.bin .mul .f32 x y) = true) : isNum x = true ∧ isNum y = true := by
  have hdef : fops.bin .mul .f32 x y = (((FloatKind.f32.format.read x).product (FloatKind.f32.format.read y)).map FloatKind.f32.format.write).getD (qnan .f32) := rfl
  have hq : isNum (qnan .f32) = false := by decide +kernel
  rw [hdef] at h
  unfold isNum
  cases h1 : FloatKind.f32.format.read x <;> cases h2 : FloatKind.f32.format.read y <;> rw [h1, h2] at h <;> simp only [Ieee.Datum.product] at h <;> first
    | exact ⟨rfl, rfl⟩
    | (simp only [Option.map_none, Option.getD_none, hq] at h; cases h)
    | (simp only [Option.map_some, Option.getD_some, write_inf] at h; cases h)
    | (split at h <;> first
        | (simp only [Option.map_none, Option.getD_none, hq] at h; cases h)
        | (simp only [Option.map_some, Option.getD_some, write_inf] at h; cases h))
/-! ### of words that are not negative -/
theorem word_of {z r : Nat} (hc : Cn .f32 z) (hn : negB .f32 z = false) (hr : rung .f32 z ≤ r) : z ≤ r := by
  have hlt : z < 4294967296 := hc.lt
  unfold negB rung at *
  rw [sw32] at *
  simp at hn
  omega
theorem add_amt {x y a b r : Nat} (hx : x ≤ a) (hy : y ≤ b) (ha : a < 2139095040) (hb : b < 2139095040) (h : un a + un b ≤ un r) : fops.bin .add .f32 x y ≤ r := by
  have fx := bd_small hx ha
  have fy := bd_small hy hb
  obtain ⟨h1, h2⟩ := add_form fx.1 fy.1
  have nx := neg_small (x := x) (by omega)
  have ny := neg_small (x := y) (by omega)
  rw [val_small (x := x) (by omega), val_small (x := y) (by omega)] at h1 h2
  refine word_of bin_cn ?_ (h1.le r ?_)
  · rcases Int.lt_or_le 0 ((units FloatKind.f32.format.binade x : Nat) + (units FloatKind.f32.format.binade y : Nat) : Int) with h3 | h3
    · exact h1.pos h3
    · exact h2 nx ny (by omega)
  · have a1 : un x ≤ un a := un_le hx
    have a2 : un y ≤ un b := un_le hy
    unfold un at *
    omega
theorem sub_amt {x y : Nat} (hx : x < 2139095040) (h : y ≤ x) : fops.bin .sub .f32 x y ≤ x := by
  have fx := fin_small hx
  have fy := fin_small (x := y) (by omega)
  obtain ⟨h1, h2⟩ := sub_form fx fy
  rw [val_small (x := x) (by omega), val_small (x := y) (by omega)] at h1 h2
  have a1 : un y ≤ un x := un_le h
  unfold un at a1
  refine word_of bin_cn ?_ (h1.le x (by unfold un; omega))
  rcases Int.lt_or_le 0 ((units FloatKind.f32.format.binade x : Nat) - (units FloatKind.f32.format.binade y : Nat) : Int) with h3 | h3
  · exact h1.pos h3
  · exact h2 (neg_small (by omega)) (by omega)
theorem gtr_nan_l {x y : Nat} (h : nanb .f32 x = true) : fops.cmp .gtr .f32 x y = false := by rw [cmp_gtr, h]; rfl
theorem sub_inf' {x y : Nat} (h : x < 2139095040) (g2 : FloatKind.f32.format.read y = .infinity false) : fops.bin .sub .f32 x y = FloatKind.f32.format.write (.infinity true) := by
  obtain ⟨m, i, g1, _⟩ := fin_read (fin_small h)
  have hdef : fops.bin .sub .f32 x y = (((FloatKind.f32.format.read x).sum (FloatKind.f32.format.read y).opposite).map FloatKind.f32.format.write).getD (qnan .f32) := rfl
  rw [hdef, g1, g2]
  simp only [Ieee.Datum.opposite, Ieee.Datum.sum, Option.map_some, Option.getD_some, Bool.not_false]
theorem inf_not_gt {c : Nat} (hc : c < 2139095040) : fops.cmp .gtr .f32 (FloatKind.f32.format.write (.infinity true)) c = false := by
  have kc : key .f32 c = c := by unfold key; rw [neg_small (by omega), rung_small (by omega)]; rfl
  have k2 : key .f32 (FloatKind.f32.format.write (.infinity true)) = -2139095040 := by decide +kernel
  rw [cmp_gtr, kc, k2, decide_eq_false (by omega), Bool.and_false]
theorem gtr_of_key {z c : Nat} (hc : c < 2139095040) (h : key .f32 z ≤ c) : fops.cmp .gtr .f32 z c = false := by
  have kc : key .f32 c = c := by unfold key; rw [neg_small (by omega), rung_small (by omega)]; rfl
  rw [cmp_gtr, kc, decide_eq_false (by omega), Bool.and_false]
/-- A number less something that is not negative. -/
theorem sub_not_gt {x y c : Nat} (hx : x ≤ c) (hc : c < 2139095040) (hy : y < 2147483648) : fops.cmp .gtr .f32 (fops.bin .sub .f32 x y) c = false := by
  by_cases hn : nanb .f32 y = true
  · refine gtr_nan_l ?_
    obtain ⟨s, t, hd⟩ := nan_read hn
    have : fops.bin .sub .f32 x y = qnan .f32 := by
      show (((FloatKind.f32.format.read x).sum (FloatKind.f32.format.read y).opposite).map FloatKind.f32.format.write).getD (qnan .f32) = _
      rw [hd]
      cases FloatKind.f32.format.read x <;> rfl
    rw [this]; exact qnan_nan .f32
  · have hn' : nanb .f32 y = false := by simpa using hn
    by_cases hf : y < 2139095040
    · refine gtr_of_key hc ?_
      obtain ⟨h1, _⟩ := sub_form (fin_small (x := x) (by omega)) (fin_small hf)
      rw [val_small (x := x) (by omega), val_small (x := y) (by omega)] at h1
      generalize hu : units FloatKind.f32.format.binade x = a at h1
      generalize units FloatKind.f32.format.binade y = b at h1
      generalize fops.bin .sub .f32 x y = z at h1
      unfold key
      cases hs : negB .f32 z with
      | true => simp only [cond_true]; omega
      | false =>
        simp only [cond_false]
        have hpos : (0 : Int) ≤ (a : Int) - b := by
          rcases Int.lt_or_le ((a : Int) - b) 0 with h3 | h3
          · rw [h1.neg h3] at hs; cases hs
          · exact h3
        have := h1.le x (by show _ ≤ units _ _; rw [hu]; omega)
        omega
    · have hi : FloatKind.f32.format.read y = .infinity false := by
        rcases read_cases .f32 y hn' with ⟨_, _, _, _, _, h4⟩ | ⟨h3, h4⟩
        · rw [rung_small hy, inf32] at h4; exact absurd h4 hf
        · rw [neg_small hy] at h3; exact h3
      rw [sub_inf' (by omega) hi]
      exact inf_not_gt hc
/-- A quotient of two that are not negative is not negative. -/
theorem quo_pos {x y : Nat} (hx : x < 2147483648) (hy : y < 2147483648) : fops.bin .quo .f32 x y < 2147483648 := by
  have hdef : fops.bin .quo .f32 x y = (((FloatKind.f32.format.read x).quotient (FloatKind.f32.format.fractionBits + 2) (FloatKind.f32.format.read y)).map FloatKind.f32.format.write).getD (qnan .f32) := rfl
  have sgn : ∀ {z : Nat}, z < 2147483648 → (FloatKind.f32.format.read z).neg = false := by
    intro z hz
    cases hn : nanb .f32 z with
    | true =>
      unfold Ieee.Format.read
      have : (z / FloatKind.f32.format.signWeight % 2 == 1) = false := neg_small hz
      dsimp only
      rw [this]
      split
      · rfl
      · split
        · rfl
        · split <;> rfl
    | false =>
      rcases read_cases .f32 z hn with ⟨m, e, h1, _⟩ | ⟨h1, _⟩ <;> rw [h1] <;> exact neg_small hz
  have wr : ∀ d : Ieee.Datum, d.neg = false → d.isNaN = false → FloatKind.f32.format.write d < 2147483648 := by
    intro d h1 h2
    cases d with
    | nan s t => cases h2
    | infinity s => cases h1; rw [Ieee.Format.write, word_false, inf32]; decide
    | number s m e =>
      cases h1
      simp only [Ieee.Format.write, Ieee.Format.nearest]
      split
      · rw [word_false]; decide
      · rw [word_false]
        exact Nat.lt_of_le_of_lt (Nat.min_le_right _ _) (by rw [inf32]; decide)
  rw [hdef]
  cases hp : (FloatKind.f32.format.read x).quotient (FloatKind.f32.format.fractionBits + 2) (FloatKind.f32.format.read y) with
  | none => decide +kernel
  | some d =>
    refine wr d ?_ (quotient_not_nan hp)
    have g1 := sgn hx
    have g2 := sgn hy
    cases h1 : FloatKind.f32.format.read x <;> cases h2 : FloatKind.f32.format.read y <;> rw [h1] at hp g1 <;> rw [h2] at hp g2 <;> simp only [Ieee.Datum.neg] at g1 g2 <;> subst g1 <;> subst g2 <;> simp only [Ieee.Datum.quotient] at hp <;> first
      | (cases hp; done)
      | (cases hp; rfl)
      | (split at hp <;> first | (cases hp; done) | (cases hp; rfl) | (split at hp <;> first | (cases hp; done) | (cases hp; rfl)))
end Go.Proofs.Ytopliajfonpbcaa
