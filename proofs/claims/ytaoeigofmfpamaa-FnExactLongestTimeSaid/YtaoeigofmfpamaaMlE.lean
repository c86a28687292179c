/- Parts of a proof, merged: Bd, Flx, Qm, Lt5, Lt6, Lt7, Lt8, Lt9, Lta, Ltb, Ltc. Nothing is assumed. -/
import Derived.Test.YtaoeigofmfpamaaMlC
import Derived.Test.YtaoeigofmfpamaaMlD
/- Sums, differences and products of floats: bounds. Nothing is assumed. -/
section
namespace Go.Proofs.Ytaoeigofmfpamaa
open Go

abbrev un (r : Nat) : Nat := units FloatKind.f32.format.binade r
theorem un_le {r r' : Nat} (h : r ≤ r') : un r ≤ un r' := units_le (binade_pos .f32) h
theorem nan_word (s : Bool) {r : Nat} (h : r ≤ 2139095040) : nanb .f32 (FloatKind.f32.format.word s r) = false ∧ negB .f32 (FloatKind.f32.format.word s r) = s ∧ rung .f32 (FloatKind.f32.format.word s r) = r := by
  have hr : r < FloatKind.f32.format.signWeight := by rw [sw32]; omega
  have h1 := rung_word FloatKind.f32.format s hr
  refine ⟨?_, ?_, h1⟩
  · unfold nanb FloatKind.decode
    rw [read_nan, h1, inf32]; simp; omega
  · unfold negB
    cases s
    · rw [word_false, Nat.div_eq_of_lt hr]; rfl
    · have : FloatKind.f32.format.word true r = FloatKind.f32.format.signWeight + r := by
        unfold Ieee.Format.word; simp
      rw [this, Nat.add_div_left _ (by rw [sw32]; decide), Nat.div_eq_of_lt hr]; rfl
/-- A sum of two numbers. -/
structure SumF (z : Nat) (v : Int) : Prop where
  nan : nanb .f32 z = false
  inf : rung .f32 z ≤ 2139095040
  neg : v < 0 → negB .f32 z = true
  pos : 0 < v → negB .f32 z = false
  le : ∀ r, v.natAbs ≤ un r → rung .f32 z ≤ r
theorem sum_form {x y : Nat} (sy : Bool) (hx : Fin x) (hy : Fin y) :
    ∀ z, (((FloatKind.f32.format.read x).sum (match sy with | true => (FloatKind.f32.format.read y).opposite | false => FloatKind.f32.format.read y)).map FloatKind.f32.format.write).getD (qnan .f32) = z →
      SumF z (val x + (bif sy then - val y else val y)) ∧ (negB .f32 x = false → (bif sy then true else negB .f32 y == false) = true → val x + (bif sy then - val y else val y) = 0 → negB .f32 z = false) := by
  intro z hz
  obtain ⟨m, i, h1, h2, h3⟩ := fin_read hx
  obtain ⟨n, j, g1, g2, g3⟩ := fin_read hy
  have hop : (match sy with | true => (FloatKind.f32.format.read y).opposite | false => FloatKind.f32.format.read y) = .number (sy ^^ negB .f32 y) n j := by
    cases sy
    · rw [g1]; simp
    · rw [g1]; simp [Ieee.Datum.opposite]
  rw [hop, h1] at hz
  simp only [Ieee.Datum.sum, Option.map_some, Option.getD_some, Ieee.Format.write] at hz
  have e1 := signed_val (x := x) (b := min i j) (negB .f32 x) (by omega) (by omega) h3
  have e2 := signed_val (x := y) (b := min i j) (sy ^^ negB .f32 y) (by omega) (by omega) g3
  have e2' : sgn (sy ^^ negB .f32 y) (units FloatKind.f32.format.binade (rung .f32 y)) = bif sy then - val y else val y := by
    cases sy
    · simp [val]
    · simp [val, sgn_not]
  rw [e2'] at e2
  generalize hT : Ieee.signed (negB .f32 x) m (i - min i j).toNat + Ieee.signed (sy ^^ negB .f32 y) n (j - min i j).toNat = T at hz
  generalize hV : val x + (bif sy then - val y else val y) = V
  have hTv : T * (2 ^ (min i j - FloatKind.f32.format.leastPlace).toNat : Nat) = V := by
    rw [← hT, Int.add_mul, e1, e2, ← hV]; rfl
  have hp : (0 : Int) < ((2 ^ (min i j - FloatKind.f32.format.leastPlace).toNat : Nat) : Int) := by exact_mod_cast Nat.two_pow_pos _
  have hle : ∀ r, V.natAbs ≤ un r → T.natAbs * 2 ^ (min i j - FloatKind.f32.format.leastPlace).toNat ≤ units FloatKind.f32.format.binade r * 2 ^ (FloatKind.f32.format.leastPlace - min i j).toNat := by
    intro r hr
    have z : (FloatKind.f32.format.leastPlace - min i j).toNat = 0 := by omega
    rw [z, Nat.pow_zero, Nat.mul_one]
    have : T.natAbs * 2 ^ (min i j - FloatKind.f32.format.leastPlace).toNat = V.natAbs := by
      rw [← hTv, Int.natAbs_mul, Int.natAbs_natCast]
    rw [this]; exact hr
  generalize hS : (if T = 0 then negB .f32 x && (sy ^^ negB .f32 y) else decide (T < 0)) = S at hz
  have hform : ∀ r, V.natAbs ≤ un r → ∃ r', r' ≤ r ∧ r' ≤ 2139095040 ∧ z = FloatKind.f32.format.word S r' := by
    intro r hr
    obtain ⟨r', k1, k2, k3⟩ := nearest_le .f32 S (hle r hr)
    rw [inf32] at k2
    exact ⟨r', k1, k2, hz.symm.trans k3⟩
  -- some bound there is
  have hbig : ∃ r, V.natAbs ≤ un r := by
    have grow : ∀ n, n ≤ un n := by
      intro n
      induction n with
      | zero => exact Nat.zero_le _
      | succ n ih => exact Nat.lt_of_le_of_lt ih (units_lt (binade_pos .f32) (Nat.lt_succ_self n))
    exact ⟨_, grow _⟩
  obtain ⟨R, hR⟩ := hbig
  obtain ⟨r0, _, q2, q3⟩ := hform R hR
  obtain ⟨w1, w2, w3⟩ := nan_word S q2
  have hT0 : T < 0 ↔ V < 0 := by
    rw [← hTv]
    constructor
    · intro h; exact Int.mul_neg_of_neg_of_pos h hp
    · intro h
      rcases Int.lt_or_le T 0 with h' | h'
      · exact h'
      · have := Int.mul_nonneg h' (Int.le_of_lt hp); omega
  have hT1 : T = 0 ↔ V = 0 := by
    rw [← hTv]
    constructor
    · intro h; rw [h, Int.zero_mul]
    · intro h
      rcases Int.mul_eq_zero.1 h with h' | h'
      · exact h'
      · omega
  refine ⟨⟨by rw [q3]; exact w1, by rw [q3, w3]; exact q2, fun hv => ?_, fun hv => ?_, fun r hr => ?_⟩, fun hx0 hy0 hv => ?_⟩
  · rw [q3, w2, ← hS, if_neg (fun h => by have := hT1.1 h; omega)]
    exact decide_eq_true (hT0.2 hv)
  · rw [q3, w2, ← hS, if_neg (fun h => by have := hT1.1 h; omega)]
    exact decide_eq_false (fun h => by have := hT0.1 h; omega)
  · obtain ⟨r1, k1, k2, k3⟩ := hform r hr
    rw [k3, (nan_word S k2).2.2]; exact k1
  · rw [q3, w2, ← hS, if_pos (hT1.2 hv), hx0]; rfl
theorem add_form {x y : Nat} (hx : Fin x) (hy : Fin y) : SumF (fops.bin .add .f32 x y) (val x + val y) ∧ (negB .f32 x = false → negB .f32 y = false → val x + val y = 0 → negB .f32 (fops.bin .add .f32 x y) = false) := by
  obtain ⟨h1, h2⟩ := sum_form false hx hy _ rfl
  exact ⟨h1, fun a b c => h2 a (by simp [b]) c⟩
theorem sub_form {x y : Nat} (hx : Fin x) (hy : Fin y) : SumF (fops.bin .sub .f32 x y) (val x - val y) ∧ (negB .f32 x = false → val x - val y = 0 → negB .f32 (fops.bin .sub .f32 x y) = false) := by
  obtain ⟨h1, h2⟩ := sum_form true hx hy _ rfl
  exact ⟨h1, fun a c => h2 a rfl c⟩
/-- A word below 'r', up to the sign. -/
def Bd (x r : Nat) : Prop := Fin x ∧ rung .f32 x ≤ r
theorem val_abs (x : Nat) : (val x).natAbs = un (rung .f32 x) := by
  unfold val sgn
  cases negB .f32 x <;> simp
theorem Bd.mono {x r r' : Nat} (h : Bd x r) (hr : r ≤ r') : Bd x r' := ⟨h.1, Nat.le_trans h.2 hr⟩
theorem bd_small {x r : Nat} (h : x ≤ r) (hr : r < 2139095040) : Bd x r := ⟨fin_small (by omega), by rw [rung_small (by omega)]; exact h⟩
theorem SumF.bd {z : Nat} {v : Int} (h : SumF z v) {r : Nat} (hr : r < 2139095040) (hv : v.natAbs ≤ un r) : Bd z r := ⟨⟨h.nan, Nat.lt_of_le_of_lt (h.le r hv) hr⟩, h.le r hv⟩
theorem Bd.add {x y a b r : Nat} (hx : Bd x a) (hy : Bd y b) (hr : r < 2139095040) (h : un a + un b ≤ un r) : Bd (fops.bin .add .f32 x y) r := by
  refine (add_form hx.1 hy.1).1.bd hr (Nat.le_trans (Int.natAbs_add_le _ _) ?_)
  rw [val_abs, val_abs]
  have := un_le hx.2
  have := un_le hy.2
  omega
theorem Bd.sub {x y a b r : Nat} (hx : Bd x a) (hy : Bd y b) (hr : r < 2139095040) (h : un a + un b ≤ un r) : Bd (fops.bin .sub .f32 x y) r := by
  refine (sub_form hx.1 hy.1).1.bd hr (Nat.le_trans (Int.natAbs_sub_le _ _) ?_)
  rw [val_abs, val_abs]
  have := un_le hx.2
  have := un_le hy.2
  omega
theorem Bd.mul {x y a b r : Nat} (hx : Bd x a) (hy : Bd y b) (hr : r < 2139095040) (h : un a * un b ≤ un r * 2 ^ 149) : Bd (fops.bin .mul .f32 x y) r := by
  obtain ⟨m, i, h1, h2, h3⟩ := fin_read hx.1
  obtain ⟨n, j, g1, g2, g3⟩ := fin_read hy.1
  have hdef : fops.bin .mul .f32 x y = (((FloatKind.f32.format.read x).product (FloatKind.f32.format.read y)).map FloatKind.f32.format.write).getD (qnan .f32) := rfl
  rw [hdef, h1, g1]
  simp only [Ieee.Datum.product, Option.map_some, Option.getD_some, Ieee.Format.write]
  have lp : FloatKind.f32.format.leastPlace = -149 := by decide +kernel
  have hab : units FloatKind.f32.format.binade (rung .f32 x) * units FloatKind.f32.format.binade (rung .f32 y) ≤ un r * 2 ^ 149 :=
    Nat.le_trans (Nat.mul_le_mul (un_le hx.2) (un_le hy.2)) h
  have key : m * n * 2 ^ (i + j - FloatKind.f32.format.leastPlace).toNat ≤ units FloatKind.f32.format.binade r * 2 ^ (FloatKind.f32.format.leastPlace - (i + j)).toNat := by
    rw [← h3, ← g3] at hab
    have e1 : m * 2 ^ (i - FloatKind.f32.format.leastPlace).toNat * (n * 2 ^ (j - FloatKind.f32.format.leastPlace).toNat) = m * n * 2 ^ ((i - FloatKind.f32.format.leastPlace).toNat + (j - FloatKind.f32.format.leastPlace).toNat) := by
      rw [Nat.pow_add]; simp only [Nat.mul_comm, Nat.mul_left_comm, Nat.mul_assoc]
    rw [e1] at hab
    rw [lp] at h2 g2 hab ⊢
    by_cases hij : -149 ≤ i + j
    · have z : (-149 - (i + j)).toNat = 0 := by omega
      rw [z, Nat.pow_zero, Nat.mul_one]
      have e2 : (i - -149).toNat + (j - -149).toNat = (i + j - -149).toNat + 149 := by omega
      rw [e2, Nat.pow_add, ← Nat.mul_assoc] at hab
      exact Nat.le_of_mul_le_mul_right hab (Nat.two_pow_pos 149)
    · have z : (i + j - -149).toNat = 0 := by omega
      rw [z, Nat.pow_zero, Nat.mul_one]
      have e2 : 149 = (-149 - (i + j)).toNat + ((i - -149).toNat + (j - -149).toNat) := by omega
      have h' : m * n * 2 ^ ((i - -149).toNat + (j - -149).toNat) ≤ units FloatKind.f32.format.binade r * 2 ^ (-149 - (i + j)).toNat * 2 ^ ((i - -149).toNat + (j - -149).toNat) := by
        rw [Nat.mul_assoc (units FloatKind.f32.format.binade r), ← Nat.pow_add, ← e2]; exact hab
      exact Nat.le_of_mul_le_mul_right h' (Nat.two_pow_pos _)
  obtain ⟨r', k1, k2, k3⟩ := nearest_le .f32 (negB .f32 x ^^ negB .f32 y) key
  rw [inf32] at k2
  have k4 := nan_word (negB .f32 x ^^ negB .f32 y) k2
  rw [← k3] at k4
  refine ⟨⟨k4.1, ?_⟩, ?_⟩
  · exact Nat.lt_of_le_of_lt (Nat.le_of_eq k4.2.2) (Nat.lt_of_le_of_lt k1 hr)
  · exact Nat.le_trans (Nat.le_of_eq k4.2.2) k1
theorem Fin.num {x : Nat} (h : Fin x) : isNum x = true := by
  obtain ⟨m, e, h1, _⟩ := fin_read h
  unfold isNum; rw [h1]
theorem Bd.num {x r : Nat} (h : Bd x r) : isNum x = true := h.1.num
theorem num_fin {x : Nat} (h : isNum x = true) : Fin x := by
  have hn := nan_num h
  rcases read_cases .f32 x hn with ⟨m, e, h1, _, _, h4⟩ | ⟨h1, _⟩
  · rw [inf32] at h4; exact ⟨hn, h4⟩
  · unfold isNum at h; rw [h1] at h; cases h
theorem num_bd {x : Nat} (h : isNum x = true) : Bd x 2139095039 := ⟨num_fin h, by have := (num_fin h).2; omega⟩
theorem write_inf (s : Bool) : isNum (FloatKind.f32.format.write (.infinity s)) = false := by cases s <;> decide +kernel
theorem mul_num {x y : Nat} (h : isNum (fops.bin .mul .f32 x y) = true) : isNum x = true ∧ isNum y = true := by
  have hdef : fops.bin .mul .f32 x y = (((FloatKind.f32.format.read x).product (FloatKind.f32.format.read y)).map FloatKind.f32.format.write).getD (qnan .f32) := rfl
  have hq : isNum (qnan .f32) = false := by decide +kernel
  rw [hdef] at h
  unfold isNum
  cases h1 : FloatKind.f32.format.read x <;> cases h2 : FloatKind.f32.format.read y <;> rw [h1, h2] at h <;> simp only [Ieee.Datum.product] at h <;> first
    | exact ⟨rfl, rfl⟩
    | (simp only [Option.map_none, Option.getD_none, hq] at h; cases h)
    | (simp only [Option.map_some, Option.getD_some, write_inf] at h; cases h)
    | (split at h <;> first
        | (simp only [Option.map_none, Option.getD_none, hq] at h; cases h)
        | (simp only [Option.map_some, Option.getD_some, write_inf] at h; cases h))
/-! ### of words that are not negative -/
theorem word_of {z r : Nat} (hc : Cn .f32 z) (hn : negB .f32 z = false) (hr : rung .f32 z ≤ r) : z ≤ r := by
  have hlt : z < 4294967296 := hc.lt
  unfold negB rung at *
  rw [sw32] at *
  simp at hn
  omega
theorem add_amt {x y a b r : Nat} (hx : x ≤ a) (hy : y ≤ b) (ha : a < 2139095040) (hb : b < 2139095040) (h : un a + un b ≤ un r) : fops.bin .add .f32 x y ≤ r := by
  have fx := bd_small hx ha
  have fy := bd_small hy hb
  obtain ⟨h1, h2⟩ := add_form fx.1 fy.1
  have nx := neg_small (x := x) (by omega)
  have ny := neg_small (x := y) (by omega)
  rw [val_small (x := x) (by omega), val_small (x := y) (by omega)] at h1 h2
  refine word_of bin_cn ?_ (h1.le r ?_)
  · rcases Int.lt_or_le 0 ((units FloatKind.f32.format.binade x : Nat) + (units FloatKind.f32.format.binade y : Nat) : Int) with h3 | h3
    · exact h1.pos h3
    · exact h2 nx ny (by omega)
  · have a1 : un x ≤ un a := un_le hx
    have a2 : un y ≤ un b := un_le hy
    unfold un at *
    omega
theorem sub_amt {x y : Nat} (hx : x < 2139095040) (h : y ≤ x) : fops.bin .sub .f32 x y ≤ x := by
  have fx := fin_small hx
  have fy := fin_small (x := y) (by omega)
  obtain ⟨h1, h2⟩ := sub_form fx fy
  rw [val_small (x := x) (by omega), val_small (x := y) (by omega)] at h1 h2
  have a1 : un y ≤ un x := un_le h
  unfold un at a1
  refine word_of bin_cn ?_ (h1.le x (by unfold un; omega))
  rcases Int.lt_or_le 0 ((units FloatKind.f32.format.binade x : Nat) - (units FloatKind.f32.format.binade y : Nat) : Int) with h3 | h3
  · exact h1.pos h3
  · exact h2 (neg_small (by omega)) (by omega)
theorem gtr_nan_l {x y : Nat} (h : nanb .f32 x = true) : fops.cmp .gtr .f32 x y = false := by rw [cmp_gtr, h]; rfl
theorem sub_inf' {x y : Nat} (h : x < 2139095040) (g2 : FloatKind.f32.format.read y = .infinity false) : fops.bin .sub .f32 x y = FloatKind.f32.format.write (.infinity true) := by
  obtain ⟨m, i, g1, _⟩ := fin_read (fin_small h)
  have hdef : fops.bin .sub .f32 x y = (((FloatKind.f32.format.read x).sum (FloatKind.f32.format.read y).opposite).map FloatKind.f32.format.write).getD (qnan .f32) := rfl
  rw [hdef, g1, g2]
  simp only [Ieee.Datum.opposite, Ieee.Datum.sum, Option.map_some, Option.getD_some, Bool.not_false]
theorem inf_not_gt {c : Nat} (hc : c < 2139095040) : fops.cmp .gtr .f32 (FloatKind.f32.format.write (.infinity true)) c = false := by
  have kc : key .f32 c = c := by unfold key; rw [neg_small (by omega), rung_small (by omega)]; rfl
  have k2 : key .f32 (FloatKind.f32.format.write (.infinity true)) = -2139095040 := by decide +kernel
  rw [cmp_gtr, kc, k2, decide_eq_false (by omega), Bool.and_false]
theorem gtr_of_key {z c : Nat} (hc : c < 2139095040) (h : key .f32 z ≤ c) : fops.cmp .gtr .f32 z c = false := by
  have kc : key .f32 c = c := by unfold key; rw [neg_small (by omega), rung_small (by omega)]; rfl
  rw [cmp_gtr, kc, decide_eq_false (by omega), Bool.and_false]
/-- A number less something that is not negative. -/
theorem sub_not_gt {x y c : Nat} (hx : x ≤ c) (hc : c < 2139095040) (hy : y < 2147483648) : fops.cmp .gtr .f32 (fops.bin .sub .f32 x y) c = false := by
  by_cases hn : nanb .f32 y = true
  · refine gtr_nan_l ?_
    obtain ⟨s, t, hd⟩ := nan_read hn
    have : fops.bin .sub .f32 x y = qnan .f32 := by
      show (((FloatKind.f32.format.read x).sum (FloatKind.f32.format.read y).opposite).map FloatKind.f32.format.write).getD (qnan .f32) = _
      rw [hd]
      cases FloatKind.f32.format.read x <;> rfl
    rw [this]; exact qnan_nan .f32
  · have hn' : nanb .f32 y = false := by simpa using hn
    by_cases hf : y < 2139095040
    · refine gtr_of_key hc ?_
      obtain ⟨h1, _⟩ := sub_form (fin_small (x := x) (by omega)) (fin_small hf)
      rw [val_small (x := x) (by omega), val_small (x := y) (by omega)] at h1
      generalize hu : units FloatKind.f32.format.binade x = a at h1
      generalize units FloatKind.f32.format.binade y = b at h1
      generalize fops.bin .sub .f32 x y = z at h1
      unfold key
      cases hs : negB .f32 z with
      | true => simp only [cond_true]; omega
      | false =>
        simp only [cond_false]
        have hpos : (0 : Int) ≤ (a : Int) - b := by
          rcases Int.lt_or_le ((a : Int) - b) 0 with h3 | h3
          · rw [h1.neg h3] at hs; cases hs
          · exact h3
        have := h1.le x (by show _ ≤ units _ _; rw [hu]; omega)
        omega
    · have hi : FloatKind.f32.format.read y = .infinity false := by
        rcases read_cases .f32 y hn' with ⟨_, _, _, _, _, h4⟩ | ⟨h3, h4⟩
        · rw [rung_small hy, inf32] at h4; exact absurd h4 hf
        · rw [neg_small hy] at h3; exact h3
      rw [sub_inf' (by omega) hi]
      exact inf_not_gt hc
/-- A quotient of two that are not negative is not negative. -/
theorem quo_pos {x y : Nat} (hx : x < 2147483648) (hy : y < 2147483648) : fops.bin .quo .f32 x y < 2147483648 := by
  have hdef : fops.bin .quo .f32 x y = (((FloatKind.f32.format.read x).quotient (FloatKind.f32.format.fractionBits + 2) (FloatKind.f32.format.read y)).map FloatKind.f32.format.write).getD (qnan .f32) := rfl
  have sgn : ∀ {z : Nat}, z < 2147483648 → (FloatKind.f32.format.read z).neg = false := by
    intro z hz
    cases hn : nanb .f32 z with
    | true =>
      unfold Ieee.Format.read
      have : (z / FloatKind.f32.format.signWeight % 2 == 1) = false := neg_small hz
      dsimp only
      rw [this]
      split
      · rfl
      · split
        · rfl
        · split <;> rfl
    | false =>
      rcases read_cases .f32 z hn with ⟨m, e, h1, _⟩ | ⟨h1, _⟩ <;> rw [h1] <;> exact neg_small hz
  have wr : ∀ d : Ieee.Datum, d.neg = false → d.isNaN = false → FloatKind.f32.format.write d < 2147483648 := by
    intro d h1 h2
    cases d with
    | nan s t => cases h2
    | infinity s => cases h1; rw [Ieee.Format.write, word_false, inf32]; decide
    | number s m e =>
      cases h1
      simp only [Ieee.Format.write, Ieee.Format.nearest]
      split
      · rw [word_false]; decide
      · rw [word_false]
        exact Nat.lt_of_le_of_lt (Nat.min_le_right _ _) (by rw [inf32]; decide)
  rw [hdef]
  cases hp : (FloatKind.f32.format.read x).quotient (FloatKind.f32.format.fractionBits + 2) (FloatKind.f32.format.read y) with
  | none => decide +kernel
  | some d =>
    refine wr d ?_ (quotient_not_nan hp)
    have g1 := sgn hx
    have g2 := sgn hy
    cases h1 : FloatKind.f32.format.read x <;> cases h2 : FloatKind.f32.format.read y <;> rw [h1] at hp g1 <;> rw [h2] at hp g2 <;> simp only [Ieee.Datum.neg] at g1 g2 <;> subst g1 <;> subst g2 <;> simp only [Ieee.Datum.quotient] at hp <;> first
      | (cases hp; done)
      | (cases hp; rfl)
      | (split at hp <;> first | (cases hp; done) | (cases hp; rfl) | (split at hp <;> first | (cases hp; done) | (cases hp; rfl)))
end Go.Proofs.Ytaoeigofmfpamaa
end

/- What holds in a valid flat; sums that stay small. Nothing is assumed. -/
section
namespace Go.Proofs.Ytaoeigofmfpamaa.Fla
open Go
noncomputable section
theorem nan_less {x : Nat} (h : x < 2139095040) : nanb .f32 x = false := by
  unfold nanb FloatKind.decode
  rw [read_nan, s32, i32]
  simp; omega
theorem key_less {x : Nat} (h : x < 2147483648) : key .f32 x = x := by
  unfold key negB rung
  rw [s32]
  have h1 : x / 2147483648 = 0 := Nat.div_eq_of_lt h
  simp [h1, Nat.mod_eq_of_lt h]
theorem k60 : key .f32 3262119936 = -1114636288 := by decide +kernel
theorem key_rung {x : Nat} {m : Nat} (h1 : -(m : Int) ≤ key .f32 x) (h2 : key .f32 x ≤ m) : rung .f32 x ≤ m := by
  revert h1 h2
  unfold key
  cases negB .f32 x
  · intro _ h2
    have h2' : (rung .f32 x : Int) ≤ m := h2
    omega
  · intro h1 _
    have h1' : -(m : Int) ≤ -(rung .f32 x : Int) := h1
    omega
theorem bd_between {a hi : Nat} (h1 : fops.cmp .geq .f32 a 3262119936 = true) (h2 : fops.cmp .leq .f32 a hi = true) (g1 : 1114636288 ≤ hi) (g2 : hi < 2139095040) : Bd a hi := by
  rw [cmp_geq, k60] at h1
  rw [cmp_leq, key_less (by omega : hi < 2147483648)] at h2
  simp only [Bool.and_eq_true, Bool.not_eq_true', decide_eq_true_eq] at h1 h2
  have hr : rung .f32 a ≤ hi := key_rung (by omega) h2.2
  exact ⟨⟨h1.1.1, by omega⟩, hr⟩
theorem hot_bd {a : Nat} (h : hot fops a = true) : Bd a 1128792064 := by
  unfold hot at h
  cases h1 : fops.cmp .geq .f32 a 3262119936 with
  | false => rw [h1] at h; cases h
  | true => rw [h1] at h; exact bd_between h1 h (by decide) (by decide)
theorem leq_word {l m : Nat} (h : l < 2139095040) (hm : m < 2139095040) (h2 : fops.cmp .leq .f32 l m = true) : l ≤ m := by
  rw [cmp_leq, key_less (by omega : l < 2147483648), key_less (by omega : m < 2147483648)] at h2
  simp only [Bool.and_eq_true, decide_eq_true_eq] at h2
  omega
theorem upTo_word {m l : Nat} (hm : m < 2139095040) (h : upTo fops m l = true) : l ≤ m := by
  unfold upTo at h
  by_cases h1 : l < 2139095040
  · rw [decide_eq_true h1] at h; exact leq_word h1 hm h
  · rw [decide_eq_false h1] at h; cases h
theorem geq_word {l m : Nat} (h : l < 2139095040) (hm : m < 2139095040) (h2 : fops.cmp .geq .f32 l m = true) : m ≤ l := by
  rw [cmp_geq, key_less (by omega : l < 2147483648), key_less (by omega : m < 2147483648)] at h2
  simp only [Bool.and_eq_true, decide_eq_true_eq] at h2
  omega
theorem sto_word {s : Nat} (h : sto fops s = true) : 1065353216 ≤ s ∧ s ≤ 1176256512 := by
  unfold sto at h
  by_cases h1 : s < 2139095040
  · rw [decide_eq_true h1] at h
    cases h2 : fops.cmp .geq .f32 s 1065353216 with
    | false => rw [h2] at h; cases h
    | true => rw [h2] at h; exact ⟨geq_word h1 (by decide) h2, leq_word h1 (by decide) h⟩
  · rw [decide_eq_false h1] at h; cases h
theorem badW_false {st : Bool} {l s : Nat} (h : badW fops st l s = false) : st = true ∧ 1015021568 ≤ l ∧ l ≤ 1120403456 ∧ sto fops s = true := by
  unfold badW at h
  cases st with
  | false => cases h
  | true =>
    by_cases h1 : l < 2139095040
    · rw [decide_eq_true h1] at h
      cases h2 : lead fops l with
      | false => rw [h2] at h; cases h
      | true =>
        rw [h2] at h
        have h3 := h2
        unfold lead at h3
        cases h4 : fops.cmp .geq .f32 l 1015021568 with
        | false => rw [h4] at h3; cases h3
        | true =>
          rw [h4] at h3
          exact ⟨rfl, geq_word h1 (by decide) h4, leq_word h1 (by decide) h3, nb h⟩
    · rw [decide_eq_false h1] at h; cases h
theorem badP_false {st : Bool} {l s : Nat} (h : badP fops st l s = false) : st = true ∧ l ≤ 1120403456 ∧ s ≤ 1092616192 := by
  unfold badP at h
  cases st with
  | false => cases h
  | true =>
    cases h2 : upTo fops 1120403456 l with
    | false => rw [h2] at h; cases h
    | true =>
      rw [h2] at h
      exact ⟨rfl, upTo_word (by decide) h2, upTo_word (by decide) (nb h)⟩
theorem std_true {n a b : Int} (h : std n a b = true) : 0 ≤ a ∧ a < n ∧ -1 ≤ b ∧ b < n ∧ a ≠ b := by
  unfold std at h
  by_cases h1 : 0 ≤ a
  · rw [decide_eq_true h1] at h
    by_cases h2 : a < n
    · rw [decide_eq_true h2] at h
      by_cases h3 : -1 ≤ b
      · rw [decide_eq_true h3] at h
        by_cases h4 : b < n
        · rw [decide_eq_true h4] at h
          exact ⟨h1, h2, h3, h4, by simpa using h⟩
        · rw [decide_eq_false h4] at h; cases h
      · rw [decide_eq_false h3] at h; cases h
    · rw [decide_eq_false h2] at h; cases h
  · rw [decide_eq_false h1] at h; cases h
section
variable {x : Fl} (h : vF fops x = true)
include h
theorem v_rooms : 1 ≤ x.n0 ∧ x.n0 ≤ 5 ∧ x.n1 = x.n0 ∧ x.n2 ≤ 10 ∧ x.n3 ≤ 8 := rgI_false (vF_true h).1
theorem v_heat {k : Int} (h0 : 0 ≤ k) (h1 : k < x.n0) : hot fops (datF x.r0 0 k) = true ∧ sto fops (datF x.r1 0 k) = true := by
  have := eqFrom_at (q := q1 fops (datF x.r0) (datF x.r1)) (vF_true h).2.1 k h0 (by omega)
  unfold q1 t1 at this
  cases h2 : hot fops (datF x.r0 0 k) with
  | false => rw [h2] at this; cases this
  | true =>
    cases h3 : sto fops (datF x.r1 0 k) with
    | false => rw [h2, h3] at this; cases this
    | true => exact ⟨rfl, rfl⟩
theorem v_wall {k : Int} (h0 : 0 ≤ k) (h1 : k < x.n2) : (0 ≤ datG x.r2 0 k ∧ datG x.r2 0 k < x.n0 ∧ -1 ≤ datG x.r2 1 k ∧ datG x.r2 1 k < x.n0 ∧ datG x.r2 0 k ≠ datG x.r2 1 k) ∧ 1015021568 ≤ datF x.r2 2 k ∧ datF x.r2 2 k ≤ 1120403456 ∧ sto fops (datF x.r2 3 k) = true ∧ hot fops (datF x.r2 4 k) = true ∧ hot fops (datF x.r2 7 k) = true := by
  have := eqFrom_at (q := q2 fops x.n0 (datF x.r2) (datG x.r2)) (vF_true h).2.2.1 k h0 (by omega)
  obtain ⟨a, b, _, _, c⟩ := wallI_true (show wallI fops (sd x.n0 (datG x.r2) k) _ _ _ _ _ _ = true from this)
  obtain ⟨d, e, f, g⟩ := badW_false a
  exact ⟨std_true d, e, f, g, b, c⟩
theorem v_pane {k : Int} (h0 : 0 ≤ k) (h1 : k < x.n3) : (0 ≤ datG x.r3 0 k ∧ datG x.r3 0 k < x.n0 ∧ -1 ≤ datG x.r3 1 k ∧ datG x.r3 1 k < x.n0 ∧ datG x.r3 0 k ≠ datG x.r3 1 k) ∧ datF x.r3 2 k ≤ 1120403456 ∧ datF x.r3 3 k ≤ 1092616192 := by
  have := eqFrom_at (q := q3 fops x.n0 (datF x.r3) (datG x.r3)) (vF_true h).2.2.2 k h0 (by omega)
  unfold q3 at this
  have hb : bP fops x.n0 (datF x.r3) (datG x.r3) k = false := by
    cases hb : bP fops x.n0 (datF x.r3) (datG x.r3) k with
    | false => rfl
    | true => rw [hb] at this; cases this
  obtain ⟨d, e, f⟩ := badP_false hb
  exact ⟨std_true d, e, f⟩
end
/-! ### sums that stay small -/
/-- The words of 0, 65536, 131072, .. -/
def wl : List Nat := [0, 1199570944, 1207959552, 1212153856, 1216348160, 1218445312, 1220542464, 1222639616, 1224736768, 1225785344, 1226833920, 1227882496, 1228931072, 1229979648, 1231028224, 1232076800, 1233125376, 1233649664, 1234173952]
def Wd (k : Nat) : Nat := wl.getD k 0
theorem Wd_all : (List.range 18).all (fun k => Nat.ble (un (Wd k) + un 1199570944) (un (Wd (k + 1))) && (Nat.ble (Wd k) (Wd (k + 1)) && Nat.ble (Wd (k + 1)) 2139095039)) = true := by decide +kernel
theorem Wd_step {k : Nat} (h : k < 18) : un (Wd k) + un 1199570944 ≤ un (Wd (k + 1)) ∧ Wd k ≤ Wd (k + 1) ∧ Wd (k + 1) < 2139095040 := by
  have := List.all_eq_true.1 Wd_all k (List.mem_range.2 h)
  simp only [Bool.and_eq_true, Nat.ble_eq] at this
  exact ⟨this.1, this.2.1, by omega⟩
theorem fold_bd {f : Int → Nat → Nat} {n : Int} (hf : ∀ k s, 0 ≤ k → k < n → f k s = s ∨ ∃ t, Bd t 1199570944 ∧ f k s = fops.bin .add .f32 s t) : ∀ (m : Nat) (k : Int) (s j : Nat), 0 ≤ k → k + m = n → j + m ≤ 18 → Bd s (Wd j) → Bd (foldFrom f k m s) (Wd (j + m)) := by
  intro m
  induction m with
  | zero => intro k s j _ _ _ hs; exact hs
  | succ m ih =>
    intro k s j hk hkn hj hs
    obtain ⟨w1, w2, w3⟩ := Wd_step (show j < 18 by omega)
    have h1 : Bd (f k s) (Wd (j + 1)) := by
      rcases hf k s hk (by omega) with e | ⟨t, ht, e⟩
      · rw [e]; exact hs.mono w2
      · rw [e]; exact Bd.add hs ht w3 w1
    have := ih (k + 1) (f k s) (j + 1) (by omega) (by omega) (by omega) h1
    rw [show j + (m + 1) = j + 1 + m by omega]
    exact this
end
end Go.Proofs.Ytaoeigofmfpamaa.Fla
end

/- Quotients of floats: a greater denominator gives no greater quotient, where it is greater by enough. Nothing is assumed. -/
section
namespace Go.Proofs.Ytaoeigofmfpamaa
open Go
theorem even_ge {s : Bool} {n d : Nat} : n / 2 ^ d ≤ Ieee.Toward.even.cut s n d := by
  unfold Ieee.Toward.cut
  dsimp only
  rw [Nat.shiftLeft_eq, Nat.one_mul]
  refine Nat.le_trans ?_ (Nat.le_add_right _ _)
  exact Nat.div_le_div_left (Nat.pow_le_pow_right (by decide) (Nat.min_le_left _ _)) (Nat.two_pow_pos _)
/-- A number with all its digits is written at its floor, or above. -/
theorem nearest_ge (k : FloatKind) (s : Bool) {m : Nat} {e : Int} (h0 : m ≠ 0) {E F : Nat} (hE : (e - k.format.leastPlace).toNat = E) (hF : (k.format.leastPlace - e).toNat = F) (hn : k.format.fractionBits + F ≤ E + m.log2) :
    ∃ r r', k.format.nearest s m e = k.format.word s (min r' k.format.infRung) ∧ r ≤ r' ∧ units k.format.binade r * 2 ^ F ≤ m * 2 ^ E ∧ m * 2 ^ E * k.format.binade < units k.format.binade r * 2 ^ F * (k.format.binade + 1) := by
  have hb : 0 < k.format.binade := binade_pos k
  have hbd : k.format.binade = 2 ^ k.format.fractionBits := rfl
  unfold Ieee.Format.nearest
  rw [if_neg h0]
  have hEe : e = k.format.leastPlace + (E : Int) - (F : Int) := by omega
  have hEF : E = 0 ∨ F = 0 := by omega
  have hml : 2 ^ m.log2 ≤ m := Nat.log2_self_le h0
  have hmu : m < 2 ^ (m.log2 + 1) := Nat.lt_log2_self
  have hm : max (e + (m.log2 : Int) - (k.format.fractionBits : Int)) k.format.leastPlace = k.format.leastPlace + ((E + m.log2 - k.format.fractionBits - F : Nat) : Int) := by omega
  simp only [hm]
  generalize hD : E + m.log2 - k.format.fractionBits - F = D
  have e1 : (k.format.leastPlace + (D : Int) - k.format.leastPlace).toNat = D := by omega
  rw [e1]
  generalize ha : (e - (k.format.leastPlace + (D : Int))).toNat = a
  generalize hd : (k.format.leastPlace + (D : Int) - e).toNat = d
  rw [Nat.shiftLeft_eq]
  generalize hf : m * 2 ^ a / 2 ^ d = f
  have hfl : f * 2 ^ (D + F) ≤ m * 2 ^ E ∧ m * 2 ^ E < (f + 1) * 2 ^ (D + F) := by
    have p := Nat.two_pow_pos d
    have q1 : f * 2 ^ d ≤ m * 2 ^ a := by rw [← hf]; exact Nat.div_mul_le_self _ _
    have q2 : m * 2 ^ a < (f + 1) * 2 ^ d := by rw [← hf, Nat.mul_comm (_ + 1)]; exact Nat.lt_mul_div_succ _ p
    by_cases hED : D + F ≤ E
    · have d1 : a = E - (D + F) := by omega
      have d2 : d = 0 := by omega
      rw [d2, Nat.pow_zero, Nat.mul_one, d1] at q1 q2
      have e3 : m * 2 ^ E = m * 2 ^ (E - (D + F)) * 2 ^ (D + F) := by rw [Nat.mul_assoc, ← Nat.pow_add, Nat.sub_add_cancel hED]
      rw [e3]
      exact ⟨Nat.mul_le_mul_right _ q1, Nat.mul_lt_mul_of_pos_right (by omega) (Nat.two_pow_pos _)⟩
    · have d1 : a = 0 := by omega
      have d2 : d = D + F - E := by omega
      rw [d1, Nat.pow_zero, Nat.mul_one, d2] at q1 q2
      have e3 : ∀ t, t * 2 ^ (D + F) = t * 2 ^ (D + F - E) * 2 ^ E := fun t => by rw [Nat.mul_assoc, ← Nat.pow_add, Nat.sub_add_cancel (by omega)]
      rw [e3, e3]
      exact ⟨Nat.mul_le_mul_right _ q1, Nat.mul_lt_mul_of_pos_right q2 (Nat.two_pow_pos _)⟩
  have hlow : k.format.binade * 2 ^ (D + F) ≤ m * 2 ^ E := by
    calc k.format.binade * 2 ^ (D + F) = 2 ^ (E + m.log2) := by rw [hbd, ← Nat.pow_add]; congr 1; omega
      _ = 2 ^ m.log2 * 2 ^ E := by rw [← Nat.pow_add]; congr 1; omega
      _ ≤ m * 2 ^ E := Nat.mul_le_mul_right _ hml
  have hup : m * 2 ^ E < (2 * k.format.binade) * 2 ^ (D + F) := by
    calc m * 2 ^ E < 2 ^ (m.log2 + 1) * 2 ^ E := Nat.mul_lt_mul_of_pos_right hmu (Nat.two_pow_pos _)
      _ = (2 * k.format.binade) * 2 ^ (D + F) := by
        rw [hbd, ← Nat.pow_add, ← Nat.pow_succ', ← Nat.pow_add]; congr 1; omega
  have f1 : k.format.binade ≤ f := Nat.le_of_lt_succ (Nat.lt_of_mul_lt_mul_right (Nat.lt_of_le_of_lt hlow hfl.2))
  have f2 : f < 2 * k.format.binade := Nat.lt_of_mul_lt_mul_right (Nat.lt_of_le_of_lt hfl.1 hup)
  have hu : units k.format.binade (D * k.format.binade + f) = f * 2 ^ D := by
    have hq : (D * k.format.binade + f) / k.format.binade = D + 1 := by
      refine Nat.le_antisymm (Nat.le_of_lt_succ (Nat.div_lt_of_lt_mul ?_)) ((Nat.le_div_iff_mul_le hb).2 ?_)
      · rw [show (D + 1).succ = D + 2 from rfl, Nat.mul_add, Nat.mul_comm k.format.binade D]; omega
      · rw [Nat.add_mul]; omega
    unfold units
    have hlt : ¬ D * k.format.binade + f < k.format.binade := by
      have : 0 ≤ D * k.format.binade := Nat.zero_le _
      omega
    rw [if_neg hlt, hq]
    have := Nat.div_add_mod (D * k.format.binade + f) k.format.binade
    rw [hq, Nat.mul_comm, Nat.add_mul] at this
    have e5 : k.format.binade + (D * k.format.binade + f) % k.format.binade = f := by omega
    rw [e5]; rfl
  refine ⟨D * k.format.binade + f, _, rfl, Nat.add_le_add_left ?_ _, ?_, ?_⟩
  · rw [← hf]; exact even_ge
  · rw [hu, Nat.mul_assoc, ← Nat.pow_add]; exact hfl.1
  · rw [hu, Nat.mul_assoc f, ← Nat.pow_add]
    have g1 : m * 2 ^ E * k.format.binade < (f + 1) * 2 ^ (D + F) * k.format.binade := Nat.mul_lt_mul_of_pos_right hfl.2 hb
    refine Nat.lt_of_lt_of_le g1 ?_
    have g2 : (f + 1) * k.format.binade ≤ f * (k.format.binade + 1) := by rw [Nat.add_mul, Nat.mul_add]; omega
    calc (f + 1) * 2 ^ (D + F) * k.format.binade = (f + 1) * k.format.binade * 2 ^ (D + F) := by simp only [Nat.mul_comm, Nat.mul_left_comm, Nat.mul_assoc]
      _ ≤ f * (k.format.binade + 1) * 2 ^ (D + F) := Nat.mul_le_mul_right _ g2
      _ = f * 2 ^ (D + F) * (k.format.binade + 1) := by simp only [Nat.mul_comm, Nat.mul_left_comm, Nat.mul_assoc]
/-- Of two numbers, of which one is less by enough, the less is written no higher. -/
theorem nearest_mono (k : FloatKind) (s : Bool) {m m' : Nat} {e e' : Int} (h0 : m ≠ 0) {E F E' F' : Nat} (hE : (e - k.format.leastPlace).toNat = E) (hF : (k.format.leastPlace - e).toNat = F)
    (hE' : (e' - k.format.leastPlace).toNat = E') (hF' : (k.format.leastPlace - e').toNat = F') (hn : k.format.fractionBits + F ≤ E + m.log2)
    (h : m' * 2 ^ E' * 2 ^ F * (k.format.binade + 1) ≤ m * 2 ^ E * 2 ^ F' * k.format.binade) : ∃ r r', k.format.nearest s m' e' = k.format.word s r' ∧ k.format.nearest s m e = k.format.word s r ∧ r' ≤ r := by
  obtain ⟨r, r2, h1, h2, h3, h4⟩ := nearest_ge k s h0 hE hF hn
  have hb : 0 < k.format.binade := binade_pos k
  have key : m' * 2 ^ (e' - k.format.leastPlace).toNat ≤ units k.format.binade r * 2 ^ (k.format.leastPlace - e').toNat := by
    rw [hE', hF']
    refine Nat.le_of_lt (Nat.lt_of_mul_lt_mul_right (a := 2 ^ F * (k.format.binade + 1)) ?_)
    have g1 : m * 2 ^ E * k.format.binade * 2 ^ F' < units k.format.binade r * 2 ^ F * (k.format.binade + 1) * 2 ^ F' := Nat.mul_lt_mul_of_pos_right h4 (Nat.two_pow_pos _)
    calc m' * 2 ^ E' * (2 ^ F * (k.format.binade + 1)) = m' * 2 ^ E' * 2 ^ F * (k.format.binade + 1) := by rw [Nat.mul_assoc (m' * 2 ^ E')]
      _ ≤ m * 2 ^ E * 2 ^ F' * k.format.binade := h
      _ = m * 2 ^ E * k.format.binade * 2 ^ F' := Nat.mul_right_comm _ _ _
      _ < units k.format.binade r * 2 ^ F * (k.format.binade + 1) * 2 ^ F' := g1
      _ = units k.format.binade r * 2 ^ F' * (2 ^ F * (k.format.binade + 1)) := by
        simp only [Nat.mul_comm, Nat.mul_left_comm, Nat.mul_assoc]
  obtain ⟨r', k1, k2, k3⟩ := nearest_le k s key
  exact ⟨_, r', k3, h1, Nat.le_min.2 ⟨Nat.le_trans k1 h2, k2⟩⟩
/-! ### words of the usual size -/
theorem b32 : FloatKind.f32.format.binade = 8388608 := by decide +kernel
theorem lp32 : FloatKind.f32.format.leastPlace = -149 := by decide +kernel
theorem fb32 : FloatKind.f32.format.fractionBits = 23 := by decide +kernel
theorem read_norm {x : Nat} (h0 : 8388608 ≤ x) (h1 : x < 2139095040) : FloatKind.f32.format.read x = .number false (8388608 + x % 8388608) (-149 + ((x / 8388608 - 1 : Nat) : Int)) := by
  unfold Ieee.Format.read
  dsimp only
  rw [sw32, b32, inf32, lp32, Nat.mod_eq_of_lt (show x < 2147483648 by omega), if_neg (by omega), if_pos h1, Nat.div_eq_of_lt (show x < 2147483648 by omega)]
  rfl
theorem un_norm {x : Nat} (h0 : 8388608 ≤ x) : un x = (8388608 + x % 8388608) * 2 ^ (x / 8388608 - 1) := by
  unfold un units
  rw [b32, if_neg (by omega)]
theorem log_of {n k : Nat} (h0 : 2 ^ k ≤ n) (h1 : n < 2 ^ (k + 1)) : n.log2 = k := (Nat.log2_eq_iff (by have := Nat.two_pow_pos k; omega)).2 ⟨h0, h1⟩
/-- A product is not far below. -/
theorem mul_ge {x y r : Nat} (hx0 : 8388608 ≤ x) (hx1 : x < 2139095040) (hy0 : 8388608 ≤ y) (hy1 : y < 2139095040) (hr : r < 2139095040) (hz : fops.bin .mul .f32 x y ≤ r) (he : 149 ≤ (x / 8388608 - 1) + (y / 8388608 - 1)) :
    un x * un y * 8388608 < un (fops.bin .mul .f32 x y) * 2 ^ 149 * 8388609 := by
  have hdef : fops.bin .mul .f32 x y = (((FloatKind.f32.format.read x).product (FloatKind.f32.format.read y)).map FloatKind.f32.format.write).getD (qnan .f32) := rfl
  rw [un_norm hx0, un_norm hy0]
  rw [read_norm hx0 hx1, read_norm hy0 hy1] at hdef
  simp only [Ieee.Datum.product, Option.map_some, Option.getD_some, Ieee.Format.write] at hdef
  generalize hmx : 8388608 + x % 8388608 = mx at *
  generalize hmy : 8388608 + y % 8388608 = my at *
  generalize hxi : x / 8388608 - 1 = xi at *
  generalize hyi : y / 8388608 - 1 = yi at *
  have m0 : mx * my ≠ 0 := Nat.mul_ne_zero (by omega) (by omega)
  have hlog : 23 ≤ (mx * my).log2 := (Nat.le_log2 m0).2 (by
    have : 8388608 * 1 ≤ mx * my := Nat.mul_le_mul (by omega) (by omega)
    exact this)
  obtain ⟨r1, r2, h1, h2, h3, h4⟩ := nearest_ge .f32 (false ^^ false) (m := mx * my) (e := -149 + (xi : Int) + (-149 + (yi : Int))) m0 (E := xi + yi - 149) (F := 0) (by rw [lp32]; omega) (by rw [lp32]; omega) (by rw [fb32]; omega)
  rw [h1] at hdef
  generalize hzz : fops.bin .mul .f32 x y = z at *
  rw [show (false ^^ false) = false from rfl, word_false, inf32] at hdef
  have hrz : r1 ≤ z := by omega
  have hu : un r1 ≤ un z := un_le hrz
  rw [b32, Nat.pow_zero, Nat.mul_one] at h4
  have h4' : mx * my * 2 ^ (xi + yi - 149) * 8388608 < un r1 * 8388609 := by unfold un; rw [b32]; exact h4
  have e1 : mx * 2 ^ xi * (my * 2 ^ yi) = mx * my * 2 ^ (xi + yi - 149) * 2 ^ 149 := by
    rw [Nat.mul_assoc (mx * my), ← Nat.pow_add, Nat.sub_add_cancel he, Nat.pow_add]
    simp only [Nat.mul_left_comm, Nat.mul_assoc]
  rw [e1]
  have h5 : mx * my * 2 ^ (xi + yi - 149) * 8388608 < un z * 8388609 := Nat.lt_of_lt_of_le h4' (Nat.mul_le_mul_right _ hu)
  have h6 := Nat.mul_lt_mul_of_pos_right h5 (Nat.two_pow_pos 149)
  calc mx * my * 2 ^ (xi + yi - 149) * 2 ^ 149 * 8388608 = mx * my * 2 ^ (xi + yi - 149) * 8388608 * 2 ^ 149 := Nat.mul_right_comm _ _ _
    _ < un z * 8388609 * 2 ^ 149 := h6
    _ = un z * 2 ^ 149 * 8388609 := Nat.mul_right_comm _ _ _
theorem quo_parts {m n : Nat} (hm0 : 8388608 ≤ m) (hm1 : m < 16777216) (hn0 : 8388608 ≤ n) (hn1 : n < 16777216) :
    25 + n.log2 - m.log2 = 25 ∧ ∀ q, 2 * ((m <<< 25) / n) + ((m <<< 25) % n != 0).toNat = q → q * n ≤ m * 67108864 + 16777216 ∧ m * 67108864 ≤ q * n + 16777216 ∧ 33554432 ≤ q := by
  have l1 : n.log2 = 23 := log_of (by omega) (by omega)
  have l2 : m.log2 = 23 := log_of (by omega) (by omega)
  refine ⟨by rw [l1, l2], fun q hq => ?_⟩
  rw [Nat.shiftLeft_eq] at hq
  obtain ⟨d, hd⟩ : ∃ d, d = m * 2 ^ 25 := ⟨_, rfl⟩
  rw [← hd] at hq
  have hd2 : d = m * 33554432 := hd
  clear hd l1 l2
  have hdm := Nat.div_add_mod d n
  have hlt := Nat.mod_lt d (show 0 < n by omega)
  generalize d / n = t at *
  generalize d % n = w at *
  have hq2 : q * n = 2 * (n * t) + (w != 0).toNat * n := by
    rw [← hq, Nat.add_mul, Nat.mul_assoc, Nat.mul_comm t n]
  have hb : ((w != 0).toNat = 0 ∧ w = 0) ∨ ((w != 0).toNat = 1 ∧ 0 < w) := by
    cases w with
    | zero => exact .inl ⟨rfl, rfl⟩
    | succ w => exact .inr ⟨rfl, Nat.succ_pos _⟩
  have ht : 16777216 ≤ t := by
    rcases Nat.lt_or_ge t 16777216 with h | h
    · exfalso
      have : n * t ≤ n * 16777215 := Nat.mul_le_mul_left _ (by omega)
      omega
    · exact h
  rcases hb with ⟨h1, h2⟩ | ⟨h1, h2⟩
  · rw [h1, Nat.zero_mul] at hq2
    rw [h1] at hq
    exact ⟨by omega, by omega, by omega⟩
  · rw [h1, Nat.one_mul] at hq2
    rw [h1] at hq
    exact ⟨by omega, by omega, by omega⟩
theorem pw2 {a b c : Nat} (h : a = b + c) : 2 ^ a = 2 ^ b * 2 ^ c := by rw [h, Nat.pow_add]
theorem quo_lin {A1 A2 W : Nat} (h0 : 562949953421312 ≤ W) (h2 : A2 ≤ W + 16777216) (h1 : W ≤ A1 + 16777216) : A2 * (8388609 * 16777218) ≤ A1 * (8388608 * 25165824) := by omega
theorem quo_mul {A1 A2 U2 U3 a b p q : Nat} (hp : 0 < p) (h1 : A2 * (b * q) ≤ A1 * (a * p)) (h2 : U2 * p ≤ U3 * q) : A2 * U2 * b ≤ A1 * U3 * a := by
  refine Nat.le_of_mul_le_mul_right (c := p) ?_ hp
  calc A2 * U2 * b * p = A2 * b * (U2 * p) := by ac_rfl
    _ ≤ A2 * b * (U3 * q) := Nat.mul_le_mul_left _ h2
    _ = A2 * (b * q) * U3 := by ac_rfl
    _ ≤ A1 * (a * p) * U3 := Nat.mul_le_mul_right _ h1
    _ = A1 * U3 * a * p := by ac_rfl
theorem quo_fin {q1 q2 n k Y Z P R S a b : Nat} (t1 : S = P * Z) (t2 : S = R * Y) (B : q2 * k * (n * Y) * b ≤ q1 * n * (k * Z) * a) (hp : 0 < n * k * (Y * Z)) : q2 * P * b ≤ q1 * R * a := by
  refine Nat.le_of_mul_le_mul_right (c := n * k * (Y * Z)) ?_ hp
  have C := Nat.mul_le_mul_right S B
  have d1 : q2 * P * b * (n * k * (Y * Z)) = q2 * k * (n * Y) * b * S := by
    rw [t1]; ac_rfl
  have d2 : q1 * R * a * (n * k * (Y * Z)) = q1 * n * (k * Z) * a * S := by
    rw [t2]; ac_rfl
  rw [d1, d2]; exact C
/-- A greater denominator, a quotient that is no greater. -/
theorem quo_le {s y z : Nat} (hs0 : 8388608 ≤ s) (hs1 : s < 2139095040) (hy0 : 8388608 ≤ y) (hy1 : y < 2139095040) (hz0 : 8388608 ≤ z) (hz1 : z < 2139095040) (h : un y * 25165824 ≤ un z * 16777218)
    (ey : y / 8388608 ≤ s / 8388608 + 100) (ez : z / 8388608 ≤ s / 8388608 + 100) : fops.bin .quo .f32 s z ≤ fops.bin .quo .f32 s y := by
  have hdef : ∀ t, fops.bin .quo .f32 s t = (((FloatKind.f32.format.read s).quotient (FloatKind.f32.format.fractionBits + 2) (FloatKind.f32.format.read t)).map FloatKind.f32.format.write).getD (qnan .f32) := fun _ => rfl
  rw [hdef, hdef, read_norm hs0 hs1, read_norm hy0 hy1, read_norm hz0 hz1, fb32]
  rw [un_norm hy0, un_norm hz0] at h
  have a0 : s % 8388608 < 8388608 := Nat.mod_lt _ (by decide)
  have a1 : y % 8388608 < 8388608 := Nat.mod_lt _ (by decide)
  have a2 : z % 8388608 < 8388608 := Nat.mod_lt _ (by decide)
  generalize hm : 8388608 + s % 8388608 = m at *
  generalize hn : 8388608 + y % 8388608 = n at *
  generalize hk : 8388608 + z % 8388608 = k at *
  have e0 : 1 ≤ s / 8388608 := by omega
  have e1 : 1 ≤ y / 8388608 := by omega
  have e2 : 1 ≤ z / 8388608 := by omega
  generalize hsi : s / 8388608 - 1 = si at *
  generalize hyi : y / 8388608 - 1 = yi at *
  generalize hzi : z / 8388608 - 1 = zi at *
  obtain ⟨m1, p1⟩ := quo_parts (m := m) (n := n) (by omega) (by omega) (by omega) (by omega)
  obtain ⟨m2, p2⟩ := quo_parts (m := m) (n := k) (by omega) (by omega) (by omega) (by omega)
  simp only [Ieee.Datum.quotient]
  rw [if_neg (by omega), if_neg (by omega), show 23 + 2 = 25 from rfl, m1, m2]
  generalize hq1 : 2 * ((m <<< 25) / n) + ((m <<< 25) % n != 0).toNat = q1
  generalize hq2 : 2 * ((m <<< 25) / k) + ((m <<< 25) % k != 0).toNat = q2
  obtain ⟨u1, v1, w1⟩ := p1 q1 hq1
  obtain ⟨u2, v2, w2⟩ := p2 q2 hq2
  simp only [Option.map_some, Option.getD_some, Ieee.Format.write]
  have key : q2 * 2 ^ (si + 123 - zi) * 8388609 ≤ q1 * 2 ^ (si + 123 - yi) * 8388608 := by
    have hp : 0 < n * k * (2 ^ yi * 2 ^ zi) := Nat.mul_pos (Nat.mul_pos (by omega) (by omega)) (Nat.mul_pos (Nat.two_pow_pos _) (Nat.two_pow_pos _))
    have W0 : 562949953421312 ≤ m * 67108864 := by omega
    exact quo_fin (pw2 (a := si + 123) (b := si + 123 - zi) (c := zi) (by omega)) (pw2 (a := si + 123) (b := si + 123 - yi) (c := yi) (by omega)) (quo_mul (by decide) (quo_lin W0 u2 v1) h) hp
  have hlog : 23 ≤ q1.log2 := (Nat.le_log2 (by omega)).2 (by omega)
  obtain ⟨r, r', g1, g2, g3⟩ := nearest_mono .f32 (false ^^ false) (m := q1) (m' := q2) (e := -149 + (si : Int) - (-149 + (yi : Int)) - ((25 : Nat) : Int) - 1) (e' := -149 + (si : Int) - (-149 + (zi : Int)) - ((25 : Nat) : Int) - 1) (by omega)
    (E := si + 123 - yi) (F := 0) (E' := si + 123 - zi) (F' := 0) (by rw [lp32]; omega) (by rw [lp32]; omega) (by rw [lp32]; omega) (by rw [lp32]; omega) (by rw [fb32]; omega) (by rw [b32, Nat.pow_zero, Nat.mul_one, Nat.mul_one]; exact key)
  rw [g1, g2]
  exact g3
/-! ### two and three times a lead -/
theorem un_step {x : Nat} (h : 8388608 ≤ x) : un (x + 8388608) = 2 * un x := by
  rw [un_norm h, un_norm (by omega)]
  have e1 : (x + 8388608) % 8388608 = x % 8388608 := Nat.add_mod_right _ _
  have e2 : (x + 8388608) / 8388608 - 1 = (x / 8388608 - 1) + 1 := by omega
  rw [e1, e2, Nat.pow_succ]
  ac_rfl
theorem un_two : un 1073741824 = 2 * 2 ^ 149 := by decide +kernel
theorem un_three : un 1077936128 = 3 * 2 ^ 149 := by decide +kernel
theorem can_p {P c u b w d : Nat} (h : c * P * u * b < w * P * d) : c * u * b < w * d := by
  refine Nat.lt_of_mul_lt_mul_right (a := P) ?_
  calc c * u * b * P = c * P * u * b := by ac_rfl
    _ < w * P * d := h
    _ = w * d * P := by ac_rfl
theorem can_q {P c u w : Nat} (h : c * u ≤ w) : c * P * u ≤ w * P := by
  calc c * P * u = c * u * P := by ac_rfl
    _ ≤ w * P := Nat.mul_le_mul_right _ h
theorem mul_word {x y r : Nat} (hx : x < 2139095040) (hy : y < 2139095040) (hr : r < 2139095040) (h : un x * un y ≤ un r * 2 ^ 149) : fops.bin .mul .f32 x y ≤ r := by
  have hb : Bd (fops.bin .mul .f32 x y) r := Bd.mul (bd_small (Nat.le_refl _) hx) (bd_small (Nat.le_refl _) hy) hr h
  exact word_of bin_cn (neg_small (mul_pos (by omega) (by omega))) hb.2
theorem two_lead {L : Nat} (h0 : 1015021568 ≤ L) (h1 : L ≤ 1120403456) : L ≤ fops.bin .mul .f32 1073741824 L ∧ fops.bin .mul .f32 1073741824 L ≤ L + 8388608 := by
  have hle : fops.bin .mul .f32 1073741824 L ≤ L + 8388608 := mul_word (by decide) (by omega) (by omega) (by rw [un_two, un_step (by omega)]; exact can_q (Nat.le_refl _))
  refine ⟨?_, hle⟩
  have h := mul_ge (x := 1073741824) (y := L) (r := L + 8388608) (by decide) (by decide) (by omega) (by omega) (by omega) hle (by omega)
  rw [un_two] at h
  have h' := can_p h
  rcases Nat.lt_or_ge (fops.bin .mul .f32 1073741824 L) L with hlt | hge
  · exfalso
    have hu : un (fops.bin .mul .f32 1073741824 L) ≤ un L := un_le (Nat.le_of_lt hlt)
    have hp : un 8388608 ≤ un L := un_le (by omega)
    have h8 : un 8388608 = 8388608 := by decide +kernel
    rw [h8] at hp
    generalize un (fops.bin .mul .f32 1073741824 L) = w at *
    generalize un L = u at *
    omega
  · exact hge
theorem three_lead {L : Nat} (h0 : 1015021568 ≤ L) (h1 : L ≤ 1120403456) : L ≤ fops.bin .mul .f32 1077936128 L ∧ fops.bin .mul .f32 1077936128 L ≤ L + 16777216 ∧ 3 * un L * 8388608 < un (fops.bin .mul .f32 1077936128 L) * 8388609 := by
  have e4 : un (L + 16777216) = 2 * (2 * un L) := by
    rw [(by omega : L + 16777216 = (L + 8388608) + 8388608), un_step (by omega), un_step (by omega)]
  have hle : fops.bin .mul .f32 1077936128 L ≤ L + 16777216 := mul_word (by decide) (by omega) (by omega) (by rw [un_three, e4]; exact can_q (by omega))
  have h := mul_ge (x := 1077936128) (y := L) (r := L + 16777216) (by decide) (by decide) (by omega) (by omega) (by omega) hle (by omega)
  rw [un_three] at h
  have h' := can_p h
  refine ⟨?_, hle, h'⟩
  rcases Nat.lt_or_ge (fops.bin .mul .f32 1077936128 L) L with hlt | hge
  · exfalso
    have hu : un (fops.bin .mul .f32 1077936128 L) ≤ un L := un_le (Nat.le_of_lt hlt)
    have hp : un 8388608 ≤ un L := un_le (by omega)
    have h8 : un 8388608 = 8388608 := by decide +kernel
    rw [h8] at hp
    generalize un (fops.bin .mul .f32 1077936128 L) = w at *
    generalize un L = u at *
    omega
  · exact hge
/-- A wall's time over three leads is no greater than over two. -/
theorem wall_quo {s L : Nat} (hs : 1065353216 ≤ s) (hs' : s ≤ 1176256512) (h0 : 1015021568 ≤ L) (h1 : L ≤ 1120403456) : fops.bin .quo .f32 s (fops.bin .mul .f32 1077936128 L) ≤ fops.bin .quo .f32 s (fops.bin .mul .f32 1073741824 L) := by
  obtain ⟨a1, a2⟩ := two_lead h0 h1
  obtain ⟨b1, b2, b3⟩ := three_lead h0 h1
  have hu : un (fops.bin .mul .f32 1073741824 L) ≤ 2 * un L := by rw [← un_step (by omega)]; exact un_le a2
  generalize fops.bin .mul .f32 1073741824 L = y at *
  generalize fops.bin .mul .f32 1077936128 L = z at *
  refine quo_le (by omega) (by omega) (by omega) (by omega) (by omega) (by omega) ?_ (by omega) (by omega)
  generalize un y = p at *
  generalize un z = q at *
  generalize un L = u at *
  omega
/-- A quotient of numbers is no NaN. -/
theorem quo_nan {s y : Nat} (hs0 : 8388608 ≤ s) (hs1 : s < 2139095040) (hy0 : 0 < y) (hy1 : y < 2139095040) : nanb .f32 (fops.bin .quo .f32 s y) = false ∧ fops.bin .quo .f32 s y ≤ 2139095040 := by
  have hdef : fops.bin .quo .f32 s y = (((FloatKind.f32.format.read s).quotient (FloatKind.f32.format.fractionBits + 2) (FloatKind.f32.format.read y)).map FloatKind.f32.format.write).getD (qnan .f32) := rfl
  have hpos := quo_pos (x := s) (y := y) (by omega) (by omega)
  obtain ⟨n, j, g1, g2, g3⟩ := fin_read (fin_small hy1)
  have hn : n ≠ 0 := by
    rintro rfl
    rw [Nat.zero_mul, rung_small (by omega)] at g3
    have := units_lt (b := FloatKind.f32.format.binade) (binade_pos .f32) hy0
    omega
  rw [read_norm hs0 hs1, g1] at hdef
  simp only [Ieee.Datum.quotient] at hdef
  rw [if_neg hn] at hdef
  simp only [Option.map_some, Option.getD_some, Ieee.Format.write] at hdef
  have hr : ∀ b m e, ∃ r, r ≤ 2139095040 ∧ FloatKind.f32.format.nearest b m e = FloatKind.f32.format.word b r := fun b m e => by
    unfold Ieee.Format.nearest
    split
    · exact ⟨0, by decide, rfl⟩
    · exact ⟨_, by rw [← inf32]; exact Nat.min_le_right _ _, rfl⟩
  obtain ⟨r, k1, k2⟩ := hr (false ^^ negB .f32 y) (2 * ((8388608 + s % 8388608) <<< (FloatKind.f32.format.fractionBits + 2 + n.log2 - (8388608 + s % 8388608).log2) / n) + ((8388608 + s % 8388608) <<< (FloatKind.f32.format.fractionBits + 2 + n.log2 - (8388608 + s % 8388608).log2) % n != 0).toNat) (-149 + ((s / 8388608 - 1 : Nat) : Int) - j - ((FloatKind.f32.format.fractionBits + 2 + n.log2 - (8388608 + s % 8388608).log2 : Nat) : Int) - 1)
  rw [k2] at hdef
  rw [neg_small (x := y) (by omega)] at hdef
  have k4 := nan_word false k1
  rw [hdef]
  refine ⟨k4.1, ?_⟩
  rw [show (false ^^ false) = false from rfl, word_false]; exact k1
end Go.Proofs.Ytaoeigofmfpamaa
end

/- The longest time of a calm step: both functions. Nothing is assumed. -/
section
namespace Go.Proofs.Ytaoeigofmfpamaa.Lt
open Go Fla
noncomputable section
def LF (O : FOps) (nm : Nat → Bool) : List (Nat × CS) := (58, gQ [.s 1] (finG nm)) :: (67, gS (fin1G nm)) :: LW O
set_option maxRecDepth 100000 in
theorem okLF : AllOK Try.prog (LF fops isNum) := ⟨cFin, cFinL, okLW⟩
def cxF (O : FOps) (nm : Nat → Bool) : Cx := ⟨Try.prog, O, orcN Try.prog O (LF O nm) 8⟩
def IC (O : FOps) (nm : Nat → Bool) (h : List (Nat × Bool)) : CS := roS (inl (cxF O nm) Try.f11 ⟨hints h, lpOf [(5, oL O), (24, vL O), (32, lL O)]⟩)
def SC' (O : FOps) (nm : Nat → Bool) (h : List (Nat × Bool)) : CS := roS (inl (cxF O nm) Try.f9 ⟨hints h, lpOf [(5, aL O), (12, bL O), (20, cL O), (27, dL O)]⟩)
def fR (S : CS) (x : Fl) (g : Fg) : Option CEff := S 5 [.a (x.sls g)] (x.rd g [])
def lst1 (O : FOps) (x : Fl) : Int × (Int → List SC) := foldFrom (stp O (xFD x)) 0 x.n1.toNat (0, fun _ => [])
def lst2 (O : FOps) (x : Fl) : Int × (Int → Nat) := foldFrom (stv O (xFD x)) 0 x.n2.toNat ((lst1 O x).1, datF (lst1 O x).2 0)
def lestI (O : FOps) (x : Fl) : Nat := foldFrom (mn O (lst2 O x).2) 0 (lst2 O x).1.toNat ((lst2 O x).2 0)
def leadS (O : FOps) (x : Fl) : Int → Nat := foldFrom (g2 O (xFD x)) 0 x.n3.toNat (foldFrom (g1 O (xFD x)) 0 x.n2.toNat fun _ => 0)
def bestS (O : FOps) (x : Fl) : Nat := foldFrom (wlS O (xFD x)) 0 x.n2.toNat (foldFrom (rmS O (xFD x) (leadS O x)) 0 x.n0.toNat 3212836864)
def tE (c : Int) : SV := .tup [.c (.flt .f32 0), .c (.int .i64 (.c c))]
def tN (f : Bool) (t : Nat) : SV := .tup [.c (.flt .f32 (bif !f then 0 else t)), .c (.int .i64 (.s (bif !f then 4 else 0)))]
def hv (O : FOps) (x : Fl) : List Bool := flR x ++ [x.ok]
def i1 (O : FOps) (x : Fl) : List Bool := flR x ++ [pB (oP 0 0 x.n1 x.n1 0 x.N3 x.N2 x.N1 x.N0 x.n0 x.n1 x.n2 x.n3 (fun _ => []) x.r0 x.r1 x.r2 x.r3)] ++
  (flR x ++ [flatR (lst1 O x).2, pB (vP (lst1 O x).1 (lst1 O x).1 x.n2 x.n2 0 x.n3 x.n2 x.n1 x.n0 x.n0 x.n1 x.n2 x.n3 (lst1 O x).2 x.r0 x.r1 x.r2 x.r3)])
def i2 (O : FOps) (x : Fl) : List Bool := [bd (lst2 O x).1 0, bd (lst2 O x).1 0] ++ (flR x ++ [flatR (RowT (lst2 O x).2), pB (lP (lst2 O x).1 (lst2 O x).1 (lst2 O x).1 0 x.n3 x.n2 x.n1 x.n0 x.n0 x.n1 x.n2 x.n3 (RowT (lst2 O x).2) x.r0 x.r1 x.r2 x.r3)])
def s1 (O : FOps) (x : Fl) : List Bool := [decide (x.n0 = x.n0 ∧ 0 ≤ x.n0 ∧ x.n0 ≤ 100000000)] ++ (flR x ++ [flatR (RowT fun _ => 0), pB (aP x.n0 0 x.n0 x.N3 x.N2 x.N1 x.N0 x.n0 x.n1 x.n2 x.n3 (RowT fun _ => 0) x.r0 x.r1 x.r2 x.r3)]) ++
  (flR x ++ [flatR (RowT (foldFrom (g1 O (xFD x)) 0 x.n2.toNat fun _ => 0)), pB (bP x.n0 0 x.n0 x.n3 x.n2 x.n1 x.n0 x.n0 x.n1 x.n2 x.n3 (RowT (foldFrom (g1 O (xFD x)) 0 x.n2.toNat fun _ => 0)) x.r0 x.r1 x.r2 x.r3)]) ++
  (flR x ++ [flatR (RowT (leadS O x)), pB (cP x.n0 0 x.n0 x.n3 x.n2 x.n1 x.n0 x.n0 x.n1 x.n2 x.n3 (RowT (leadS O x)) x.r0 x.r1 x.r2 x.r3)]) ++ (flR x ++ [pB (dP 0 x.n3 x.n2 x.n1 x.n0 x.n0 x.n1 x.n2 x.n3 x.r0 x.r1 x.r2 x.r3)])
set_option maxRecDepth 100000 in
theorem Ie0 (O : FOps) (nm : Nat → Bool) (x : Fl) (g : Fg) : fR (IC O nm [(19, true)]) x g = some ⟨tE 1, [], 181, hv O x ++ [!vF O x]⟩ := by kernel_rfl
set_option maxRecDepth 100000 in
theorem Ie1 (O : FOps) (nm : Nat → Bool) (x : Fl) (g : Fg) : fR (IC O nm [(19, false), (108, true)]) x g = some ⟨tE 6, [], 460, hv O x ++ [!!vF O x] ++ i1 O x ++ [decide ((lst2 O x).1 = 0)]⟩ := by kernel_rfl
set_option maxRecDepth 100000 in
theorem Ie2 (O : FOps) (nm : Nat → Bool) (x : Fl) (g : Fg) : fR (IC O nm [(19, false), (108, false)]) x g = some ⟨tN (allB nm [lestI O x]) (lestI O x), [], 521, hv O x ++ [!!vF O x] ++ i1 O x ++ [!decide ((lst2 O x).1 = 0)] ++ i2 O x⟩ := by kernel_rfl
set_option maxRecDepth 100000 in
theorem Se0 (O : FOps) (nm : Nat → Bool) (x : Fl) (g : Fg) : fR (SC' O nm [(15, true)]) x g = some ⟨tE 1, [], 180, hv O x ++ [!vF O x]⟩ := by kernel_rfl
set_option maxRecDepth 100000 in
theorem Se1 (O : FOps) (nm : Nat → Bool) (x : Fl) (g : Fg) : fR (SC' O nm [(15, false), (185, true)]) x g = some ⟨tE 6, [], 420, hv O x ++ [!!vF O x] ++ s1 O x ++ [O.cmp .lss .f32 (bestS O x) 0]⟩ := by kernel_rfl
set_option maxRecDepth 100000 in
theorem Se2 (O : FOps) (nm : Nat → Bool) (x : Fl) (g : Fg) : fR (SC' O nm [(15, false), (185, false)]) x g = some ⟨tN (nm (bestS O x)) (bestS O x), [], 420, hv O x ++ [!!vF O x] ++ s1 O x ++ [!O.cmp .lss .f32 (bestS O x) 0]⟩ := by kernel_rfl
end
end Go.Proofs.Ytaoeigofmfpamaa.Lt
end

/- The longest time of a calm step, in plain terms. Nothing is assumed. -/
section
namespace Go.Proofs.Ytaoeigofmfpamaa.Lt
open Go Fla
noncomputable section
/-! ### what leads into a room -/
theorem sct {s : Int → Nat} {A B i : Int} {f : Nat → Nat} (hAB : A ≠ B) (hB : -1 ≤ B) (hi : 0 ≤ i) :
    (bif decide (0 ≤ B) then up (up s A (f (s A))) B (f (up s A (f (s A)) B)) else up s A (f (s A))) i = bif or2 (decide (A = i)) (decide (B = i)) then f (s i) else s i := by
  unfold up or2
  by_cases h0 : 0 ≤ B
  · rw [decide_eq_true h0, cond_true, decide_eq_false (fun e => hAB e.symm : ¬ B = A), cond_false]
    by_cases hb : i = B
    · subst hb
      rw [decide_eq_true rfl, decide_eq_false hAB]; rfl
    · rw [decide_eq_false hb, cond_false, decide_eq_false (fun e => hb e.symm : ¬ B = i)]
      by_cases ha : i = A
      · subst ha
        rw [decide_eq_true rfl]; rfl
      · rw [decide_eq_false ha, decide_eq_false (fun e => ha e.symm : ¬ A = i)]; rfl
  · rw [decide_eq_false h0, cond_false, decide_eq_false (by omega : ¬ B = i)]
    by_cases ha : i = A
    · subst ha
      rw [decide_eq_true rfl]; rfl
    · rw [decide_eq_false ha, decide_eq_false (fun e => ha e.symm : ¬ A = i)]; rfl
theorem sct_fold {g : Int → (Int → Nat) → Int → Nat} {f : Int → Nat → Nat} {i n : Int} (h : ∀ k s, 0 ≤ k → k < n → g k s i = f k (s i)) : ∀ (m : Nat) (k : Int) (s : Int → Nat), 0 ≤ k → k + m = n → foldFrom g k m s i = foldFrom f k m (s i) := by
  intro m
  induction m with
  | zero => intro k s _ _; rfl
  | succ m ih =>
    intro k s hk hkn
    show foldFrom g (k + 1) m (g k s) i = foldFrom f (k + 1) m (f k (s i))
    rw [ih (k + 1) (g k s) (by omega) (by omega), h k s hk (by omega)]
/-- The sides of walls and of panes. -/
structure Sd (x : Fl) : Prop where
  w : ∀ k, 0 ≤ k → k < x.n2 → -1 ≤ datG x.r2 1 k ∧ datG x.r2 0 k ≠ datG x.r2 1 k
  p : ∀ k, 0 ≤ k → k < x.n3 → -1 ≤ datG x.r3 1 k ∧ datG x.r3 0 k ≠ datG x.r3 1 k
theorem leads_eq {x : Fl} (h2 : 0 ≤ x.n2) (h3 : 0 ≤ x.n3) (h : Sd x) (O : FOps) {i : Int} (hi : 0 ≤ i) : leadS O x i = lead O (xFD x) i := by
  unfold leadS lead
  rw [sct_fold (f := fP O (xFD x) i) (n := x.n3) (fun k s k0 k1 => ?_) x.n3.toNat 0 _ (Int.le_refl _) (by omega)]
  · rw [sct_fold (f := fW O (xFD x) i) (n := x.n2) (fun k s k0 k1 => ?_) x.n2.toNat 0 _ (Int.le_refl _) (by omega)]
    · rfl
    · obtain ⟨a, b⟩ := h.w k k0 k1
      exact sct (f := fun t => O.bin .add .f32 t (O.bin .mul .f32 1073741824 ((xFD x).F2 2 k))) b a hi
  · obtain ⟨a, b⟩ := h.p k k0 k1
    exact sct (f := fun t => O.bin .add .f32 t ((xFD x).F3 2 k)) b a hi
/-- The words of 0, 256, 512, .. -/
def vl : List Nat := [0, 1132462080, 1140850688, 1145044992, 1149239296, 1151336448, 1153433600, 1155530752, 1157627904, 1158676480, 1159725056, 1160773632, 1161822208, 1162870784, 1163919360, 1164967936, 1166016512, 1166540800, 1167065088, 1167589376]
def V (k : Nat) : Nat := vl.getD k 0
theorem V_all : (List.range 18).all (fun k => Nat.ble (un (V k) + un 1132462080) (un (V (k + 1))) && (Nat.ble (V k) (V (k + 1)) && Nat.ble (V (k + 1)) 2139095039)) = true := by decide +kernel
theorem V_step {k : Nat} (h : k < 18) : un (V k) + un 1132462080 ≤ un (V (k + 1)) ∧ V k ≤ V (k + 1) ∧ V (k + 1) < 2139095040 := by
  have := List.all_eq_true.1 V_all k (List.mem_range.2 h)
  simp only [Bool.and_eq_true, Nat.ble_eq] at this
  exact ⟨this.1, this.2.1, by omega⟩
theorem V_lt {k : Nat} (h : k ≤ 18) : V k < 2139095040 := by
  cases k with
  | zero => decide
  | succ k => exact (V_step (by omega)).2.2
theorem fold_amt {f : Int → Nat → Nat} {n : Int} (hf : ∀ k s, 0 ≤ k → k < n → f k s = s ∨ ∃ t, t ≤ 1132462080 ∧ f k s = fops.bin .add .f32 s t) : ∀ (m : Nat) (k : Int) (s j : Nat), 0 ≤ k → k + m = n → j + m ≤ 18 → s ≤ V j → foldFrom f k m s ≤ V (j + m) := by
  intro m
  induction m with
  | zero => intro k s j _ _ _ hs; exact hs
  | succ m ih =>
    intro k s j hk hkn hj hs
    obtain ⟨w1, w2, w3⟩ := V_step (k := j) (by omega)
    have e : j + (m + 1) = j + 1 + m := by omega
    rw [e]
    refine ih (k + 1) (f k s) (j + 1) (by omega) (by omega) (by omega) ?_
    rcases hf k s hk (by omega) with h | ⟨t, ht, h⟩
    · rw [h]; exact Nat.le_trans hs w2
    · rw [h]; exact add_amt hs ht (V_lt (by omega)) (by decide) w1
end
end Go.Proofs.Ytaoeigofmfpamaa.Lt
end

/- The longest time of a calm step: the least of the times. Nothing is assumed. -/
section
namespace Go.Proofs.Ytaoeigofmfpamaa.Lt
open Go Fla
noncomputable section
theorem nan_le {t : Nat} (h : t ≤ 2139095040) : nanb .f32 t = false := by
  have := (nan_word false h).1
  rwa [word_false] at this
theorem key_sm {x : Nat} (h : x < 2147483648) : key .f32 x = x := by unfold key; rw [neg_small h, rung_small h]; rfl
theorem lss_le {a b : Nat} (ha : a ≤ 2139095040) (hb : b ≤ 2139095040) : fops.cmp .lss .f32 a b = decide (a < b) := by
  rw [cmp_lss, nan_le ha, nan_le hb, key_sm (by omega), key_sm (by omega)]
  simp
theorem lss_zero {b : Nat} (hb : b ≤ 2139095040) : fops.cmp .lss .f32 b 0 = false := by
  rw [lss_le hb (by decide)]
  simp
theorem lss_neg : fops.cmp .lss .f32 3212836864 0 = true := by decide +kernel
theorem neq_eql (a b : Nat) : fops.cmp .neq .f32 a b = !fops.cmp .eql .f32 a b := by
  rw [cmp_key, cmp_key]
  split
  · cases compare (key .f32 a) (key .f32 b) <;> rfl
  · rfl
/-- The least of some times, or -1 where there is none. -/
def Best (P : Nat → Prop) (b : Nat) : Prop := (b = 3212836864 ∧ ∀ t, ¬ P t) ∨ (P b ∧ ∀ t, P t → b ≤ t)
theorem Best.congr {P Q : Nat → Prop} {b : Nat} (h : Best P b) (e : ∀ t, P t ↔ Q t) : Best Q b := by
  rcases h with ⟨h1, h2⟩ | ⟨h1, h2⟩
  · exact .inl ⟨h1, fun t ht => h2 t ((e t).2 ht)⟩
  · exact .inr ⟨(e b).1 h1, fun t ht => h2 t ((e t).2 ht)⟩
theorem bt_best {P : Nat → Prop} {b t : Nat} (h : Best P b) (hP : ∀ t, P t → t ≤ 2139095040) (ht : t ≤ 2139095040) : Best (fun u => P u ∨ u = t) (bt fops t b) := by
  unfold bt or2
  rcases h with ⟨h1, h2⟩ | ⟨h1, h2⟩
  · subst h1
    rw [lss_neg]
    exact .inr ⟨.inr rfl, fun u hu => hu.elim (fun h => absurd h (h2 u)) (fun e => by subst e; exact Nat.le_refl _)⟩
  · rw [lss_zero (hP b h1), lss_le ht (hP b h1)]
    by_cases hlt : t < b
    · rw [decide_eq_true hlt]
      exact .inr ⟨.inr rfl, fun u hu => hu.elim (fun h => Nat.le_trans (Nat.le_of_lt hlt) (h2 u h)) (fun e => by subst e; exact Nat.le_refl _)⟩
    · rw [decide_eq_false hlt]
      exact .inr ⟨.inl h1, fun u hu => hu.elim (fun h => h2 u h) (fun e => by subst e; show b ≤ u; omega)⟩
/-- What is the least, as the program finds it. -/
theorem mn_fold {v : Int → Nat} {M : Int} (hv : ∀ j, 0 ≤ j → j < M → v j ≤ 2139095040) : ∀ (m : Nat) (k : Int) (l : Nat), 0 ≤ k → k + m = M → l ≤ 2139095040 →
    (foldFrom (mn fops v) k m l = l ∨ ∃ j, k ≤ j ∧ j < M ∧ foldFrom (mn fops v) k m l = v j) ∧ foldFrom (mn fops v) k m l ≤ l ∧ ∀ j, k ≤ j → j < M → foldFrom (mn fops v) k m l ≤ v j := by
  intro m
  induction m with
  | zero => intro k l hk hkn _; exact ⟨.inl rfl, Nat.le_refl _, fun j h1 h2 => by omega⟩
  | succ m ih =>
    intro k l hk hkn hl
    have hk1 := hv k hk (by omega)
    have e : mn fops v k l = bif decide (v k < l) then v k else l := by unfold mn; rw [lss_le hk1 hl]
    have hm : mn fops v k l ≤ 2139095040 ∧ mn fops v k l ≤ l ∧ mn fops v k l ≤ v k ∧ (mn fops v k l = l ∨ mn fops v k l = v k) := by
      rw [e]
      by_cases hlt : v k < l
      · rw [decide_eq_true hlt]; exact ⟨hk1, Nat.le_of_lt hlt, Nat.le_refl _, .inr rfl⟩
      · rw [decide_eq_false hlt]; exact ⟨hl, Nat.le_refl _, by show l ≤ v k; omega, .inl rfl⟩
    obtain ⟨m1, m2, m3, m4⟩ := hm
    obtain ⟨i1, i2, i3⟩ := ih (k + 1) (mn fops v k l) (by omega) (by omega) m1
    have hE : foldFrom (mn fops v) k (m + 1) l = foldFrom (mn fops v) (k + 1) m (mn fops v k l) := rfl
    rw [hE]
    refine ⟨?_, Nat.le_trans i2 m2, fun j h1 h2 => ?_⟩
    · rcases i1 with i1 | ⟨j, j1, j2, j3⟩
      · rcases m4 with m4 | m4
        · exact .inl (i1.trans m4)
        · exact .inr ⟨k, Int.le_refl _, by omega, i1.trans m4⟩
      · exact .inr ⟨j, by omega, j2, j3⟩
    · rcases Int.lt_or_le k j with h | h
      · exact i3 j (by omega) h2
      · have : j = k := by omega
        subst this
        exact Nat.le_trans i2 m3
theorem least_best {v : Int → Nat} {M : Int} (hM : 0 < M) (hv : ∀ j, 0 ≤ j → j < M → v j ≤ 2139095040) : Best (fun t => ∃ j, 0 ≤ j ∧ j < M ∧ t = v j) (foldFrom (mn fops v) 0 M.toNat (v 0)) := by
  obtain ⟨h1, h2, h3⟩ := mn_fold hv M.toNat 0 (v 0) (Int.le_refl _) (by omega) (hv 0 (Int.le_refl _) hM)
  refine .inr ⟨?_, fun t ⟨j, j1, j2, e⟩ => by rw [e]; exact h3 j j1 j2⟩
  rcases h1 with h1 | ⟨j, j1, j2, j3⟩
  · exact ⟨0, Int.le_refl _, hM, h1⟩
  · exact ⟨j, j1, j2, j3⟩
/-- The least is one. -/
theorem Best.uniq {P : Nat → Prop} {a b : Nat} (ha : Best P a) (hb : Best P b) : a = b := by
  rcases ha with ⟨h1, h2⟩ | ⟨h1, h2⟩ <;> rcases hb with ⟨g1, g2⟩ | ⟨g1, g2⟩
  · rw [h1, g1]
  · exact absurd g1 (h2 b)
  · exact absurd h1 (g2 a)
  · exact Nat.le_antisymm (h2 b g1) (g2 a h1)
/-- What is no less than another of them does not matter. -/
theorem Best.drop {P Q : Nat → Prop} {b : Nat} (h : Best (fun t => P t ∨ Q t) b) (hQ : ∀ t, Q t → ∃ u, P u ∧ u ≤ t) : Best P b := by
  rcases h with ⟨h1, h2⟩ | ⟨h1, h2⟩
  · exact .inl ⟨h1, fun t ht => h2 t (.inl ht)⟩
  · refine .inr ⟨?_, fun t ht => h2 t (.inl ht)⟩
    rcases h1 with h1 | h1
    · exact h1
    · obtain ⟨u, u1, u2⟩ := hQ b h1
      have := h2 u (.inl u1)
      have e : b = u := Nat.le_antisymm this u2
      rw [e]; exact u1
end
end Go.Proofs.Ytaoeigofmfpamaa.Lt
end

/- The longest time of a calm step: both lists of times. Nothing is assumed. -/
section
namespace Go.Proofs.Ytaoeigofmfpamaa.Lt
open Go Fla
noncomputable section
/-- The times of the first rooms. -/
def Pr (X : FD) (k : Int) (t : Nat) : Prop := ∃ j, 0 ≤ j ∧ j < k ∧ ndI fops X j = true ∧ t = tmI fops X j
theorem Pr_yes {X : FD} {k : Int} (hk : 0 ≤ k) (h : ndI fops X k = true) (t : Nat) : Pr X (k + 1) t ↔ (Pr X k t ∨ t = tmI fops X k) := by
  constructor
  · rintro ⟨j, j0, j1, j2, j3⟩
    by_cases e : j = k
    · subst e; exact .inr j3
    · exact .inl ⟨j, j0, by omega, j2, j3⟩
  · rintro (⟨j, j0, j1, j2, j3⟩ | e)
    · exact ⟨j, j0, by omega, j2, j3⟩
    · exact ⟨k, hk, by omega, h, e⟩
theorem Pr_no {X : FD} {k : Int} (h : ndI fops X k = false) (t : Nat) : Pr X (k + 1) t ↔ Pr X k t := by
  constructor
  · rintro ⟨j, j0, j1, j2, j3⟩
    by_cases e : j = k
    · subst e; rw [h] at j2; cases j2
    · exact ⟨j, j0, by omega, j2, j3⟩
  · rintro ⟨j, j0, j1, j2, j3⟩
    exact ⟨j, j0, by omega, j2, j3⟩
theorem rooms_best {X : FD} {s : Int → Nat} {n : Int} (hs : ∀ k, 0 ≤ k → k < n → s k = lead fops X k) (hg : ∀ k, 0 ≤ k → k < n → ndI fops X k = true → tmI fops X k ≤ 2139095040) : ∀ (m : Nat) (k : Int) (b : Nat), 0 ≤ k → k + m = n → Best (Pr X k) b → Best (Pr X n) (foldFrom (rmS fops X s) k m b) := by
  intro m
  induction m with
  | zero =>
    intro k b hk hkn h
    have e : k = n := by omega
    subst e; exact h
  | succ m ih =>
    intro k b hk hkn h
    refine ih (k + 1) (rmS fops X s k b) (by omega) (by omega) ?_
    unfold rmS
    rw [hs k hk (by omega)]
    have e := neq_eql (lead fops X k) 0
    cases hd : ndI fops X k with
    | false =>
      have he : fops.cmp .eql .f32 (lead fops X k) 0 = true := by
        have : fops.cmp .neq .f32 (lead fops X k) 0 = false := hd
        rw [e] at this; simpa using this
      rw [he]
      exact h.congr fun t => (Pr_no hd t).symm
    | true =>
      have he : fops.cmp .eql .f32 (lead fops X k) 0 = false := by
        have : fops.cmp .neq .f32 (lead fops X k) 0 = true := hd
        rw [e] at this; simpa using this
      rw [he]
      exact (bt_best h (fun t ⟨j, j0, j1, j2, j3⟩ => by rw [j3]; exact hg j j0 (by omega) j2) (hg k hk (by omega) hd)).congr fun t => (Pr_yes hk hd t).symm
theorem walls_best {P : Nat → Prop} {q : Int → Nat} {n : Int} (hP : ∀ t, P t → t ≤ 2139095040) (hg : ∀ k, 0 ≤ k → k < n → q k ≤ 2139095040) : ∀ (m : Nat) (k : Int) (b : Nat), 0 ≤ k → k + m = n → Best (fun t => P t ∨ ∃ j, 0 ≤ j ∧ j < k ∧ t = q j) b →
    Best (fun t => P t ∨ ∃ j, 0 ≤ j ∧ j < n ∧ t = q j) (foldFrom (fun k b => bt fops (q k) b) k m b) := by
  intro m
  induction m with
  | zero =>
    intro k b hk hkn h
    have e : k = n := by omega
    subst e; exact h
  | succ m ih =>
    intro k b hk hkn h
    refine ih (k + 1) (bt fops (q k) b) (by omega) (by omega) ?_
    refine (bt_best h (fun t ht => ht.elim (hP t) fun ⟨j, j0, j1, j2⟩ => by rw [j2]; exact hg j j0 (by omega)) (hg k hk (by omega))).congr fun t => ?_
    constructor
    · rintro ((h | ⟨j, j0, j1, j2⟩) | h)
      · exact .inl h
      · exact .inr ⟨j, j0, by omega, j2⟩
      · exact .inr ⟨k, hk, by omega, h⟩
    · rintro (h | ⟨j, j0, j1, j2⟩)
      · exact .inl (.inl h)
      · by_cases e : j = k
        · subst e; exact .inr j2
        · exact .inl (.inr ⟨j, j0, by omega, j2⟩)
/-- The program's list, after the rooms. -/
structure Rl (X : FD) (k : Int) (p : Int × (Int → List SC)) : Prop where
  n0 : 0 ≤ p.1
  n1 : p.1 ≤ k
  fl : flatR p.2 = true
  to : ∀ j, 0 ≤ j → j < p.1 → ∃ t, p.2 j = [.flt .f32 t] ∧ Pr X k t
  fro : ∀ t, Pr X k t → ∃ j, 0 ≤ j ∧ j < p.1 ∧ p.2 j = [.flt .f32 t]
theorem rl_fold {X : FD} {n : Int} : ∀ (m : Nat) (k : Int) (p : Int × (Int → List SC)), 0 ≤ k → k + m = n → Rl X k p → Rl X n (foldFrom (stp fops X) k m p) := by
  intro m
  induction m with
  | zero =>
    intro k p hk hkn h
    have e : k = n := by omega
    subst e; exact h
  | succ m ih =>
    intro k p hk hkn h
    refine ih (k + 1) (stp fops X k p) (by omega) (by omega) ?_
    unfold stp
    cases hd : ndI fops X k with
    | false => exact ⟨h.n0, by have := h.n1; show p.1 ≤ k + 1; omega, h.fl, fun j j0 j1 => by
        obtain ⟨t, t1, t2⟩ := h.to j j0 j1
        exact ⟨t, t1, (Pr_no hd t).2 t2⟩, fun t ht => h.fro t ((Pr_no hd t).1 ht)⟩
    | true =>
      have g0 := h.n0
      have g1 := h.n1
      refine ⟨by show 0 ≤ p.1 + 1; omega, by show p.1 + 1 ≤ k + 1; omega, apT_flat h.fl _ _, fun j j0 j1 => ?_, fun t ht => ?_⟩
      · have j1' : j < p.1 + 1 := j1
        show ∃ t, apT p.2 p.1 (tmI fops X k) j = [.flt .f32 t] ∧ _
        unfold apT
        by_cases e : j < p.1
        · rw [decide_eq_true e]
          obtain ⟨t, t1, t2⟩ := h.to j j0 e
          exact ⟨t, t1, (Pr_yes hk hd t).2 (.inl t2)⟩
        · rw [decide_eq_false e]
          exact ⟨_, rfl, (Pr_yes hk hd _).2 (.inr rfl)⟩
      · rcases (Pr_yes hk hd t).1 ht with h1 | h1
        · obtain ⟨j, j0, j1, j2⟩ := h.fro t h1
          refine ⟨j, j0, by show j < p.1 + 1; omega, ?_⟩
          show apT p.2 p.1 (tmI fops X k) j = _
          unfold apT
          rw [decide_eq_true j1]; exact j2
        · refine ⟨p.1, g0, by show p.1 < p.1 + 1; omega, ?_⟩
          show apT p.2 p.1 (tmI fops X k) p.1 = _
          unfold apT
          rw [decide_eq_false (by omega : ¬ p.1 < p.1), h1]; rfl
theorem rl_zero (X : FD) : Rl X 0 (0, fun _ => []) := ⟨Int.le_refl _, Int.le_refl _, @decide_eq_true _ (Classical.propDecidable _) fun _ => rfl, fun j j0 (j1 : j < 0) => by omega, fun t ⟨j, j0, j1, _⟩ => by omega⟩
theorem Rl.told {X : FD} {k : Int} {p : Int × (Int → List SC)} (h : Rl X k p) : Told p.1 p.2 := fun j j0 j1 => by
  obtain ⟨t, t1, _⟩ := h.to j j0 j1
  have : datF p.2 0 j = t := by unfold datF; rw [t1]; rfl
  rw [t1]
  show _ = [SC.flt .f32 (datF p.2 0 j)]
  rw [this]
theorem Rl.set {X : FD} {k : Int} {p : Int × (Int → List SC)} (h : Rl X k p) (t : Nat) : (∃ j, 0 ≤ j ∧ j < p.1 ∧ t = datF p.2 0 j) ↔ Pr X k t := by
  have hd : ∀ j u, p.2 j = [.flt .f32 u] → datF p.2 0 j = u := fun j u e => by unfold datF; rw [e]; rfl
  constructor
  · rintro ⟨j, j0, j1, rfl⟩
    obtain ⟨u, u1, u2⟩ := h.to j j0 j1
    rw [hd j u u1]; exact u2
  · intro ht
    obtain ⟨j, j0, j1, j2⟩ := h.fro t ht
    exact ⟨j, j0, j1, (hd j t j2).symm⟩
/-- The program's list, after the walls. -/
theorem wl_fold {X : FD} {n : Int} {P : Nat → Prop} : ∀ (m : Nat) (k : Int) (p : Int × (Int → Nat)), 0 ≤ k → k + m = n → 0 ≤ p.1 →
    (∀ t, (∃ j, 0 ≤ j ∧ j < p.1 ∧ t = p.2 j) ↔ ((P t ∨ ∃ j, 0 ≤ j ∧ j < k ∧ t = q3 fops X j) ∨ ∃ j, 0 ≤ j ∧ j < k ∧ t = q2 fops X j)) →
    (foldFrom (stv fops X) k m p).1 = p.1 + 2 * m ∧ ∀ t, (∃ j, 0 ≤ j ∧ j < (foldFrom (stv fops X) k m p).1 ∧ t = (foldFrom (stv fops X) k m p).2 j) ↔ ((P t ∨ ∃ j, 0 ≤ j ∧ j < n ∧ t = q3 fops X j) ∨ ∃ j, 0 ≤ j ∧ j < n ∧ t = q2 fops X j) := by
  intro m
  induction m with
  | zero =>
    intro k p hk hkn h0 h
    have e : k = n := by omega
    subst e; exact ⟨by show p.1 = p.1 + 2 * ((0 : Nat) : Int); omega, h⟩
  | succ m ih =>
    intro k p hk hkn h0 h
    have hE : foldFrom (stv fops X) k (m + 1) p = foldFrom (stv fops X) (k + 1) m (stv fops X k p) := rfl
    rw [hE]
    have hS1 : (stv fops X k p).1 = p.1 + 2 := rfl
    have hS2 : ∀ j, (stv fops X k p).2 j = apv2 p.2 p.1 (q3 fops X k) (q2 fops X k) j := fun _ => rfl
    obtain ⟨i1, i2⟩ := ih (k + 1) (stv fops X k p) (by omega) (by omega) (by rw [hS1]; omega) (fun t => by
      rw [hS1]
      constructor
      · rintro ⟨j, j0, j1, e⟩
        rw [hS2] at e
        unfold apv2 at e
        by_cases c1 : j < p.1
        · rw [decide_eq_true c1] at e
          rcases (h t).1 ⟨j, j0, c1, e⟩ with (g | ⟨i, a, b, c⟩) | ⟨i, a, b, c⟩
          · exact .inl (.inl g)
          · exact .inl (.inr ⟨i, a, by omega, c⟩)
          · exact .inr ⟨i, a, by omega, c⟩
        · rw [decide_eq_false c1] at e
          by_cases c2 : j = p.1
          · rw [decide_eq_true c2] at e
            exact .inl (.inr ⟨k, hk, by omega, e⟩)
          · rw [decide_eq_false c2] at e
            exact .inr ⟨k, hk, by omega, e⟩
      · have old : (∃ j, 0 ≤ j ∧ j < p.1 ∧ t = p.2 j) → ∃ j, 0 ≤ j ∧ j < p.1 + 2 ∧ t = (stv fops X k p).2 j := by
          rintro ⟨j, j0, j1, e⟩
          exact ⟨j, j0, by omega, by rw [hS2]; unfold apv2; rw [decide_eq_true j1]; exact e⟩
        rintro ((g | ⟨i, a, b, c⟩) | ⟨i, a, b, c⟩)
        · exact old ((h t).2 (.inl (.inl g)))
        · by_cases ei : i = k
          · subst ei
            exact ⟨p.1, h0, by omega, by rw [hS2]; unfold apv2; rw [decide_eq_false (by omega : ¬ p.1 < p.1), decide_eq_true rfl]; exact c⟩
          · exact old ((h t).2 (.inl (.inr ⟨i, a, by omega, c⟩)))
        · by_cases ei : i = k
          · subst ei
            exact ⟨p.1 + 1, by omega, by omega, by rw [hS2]; unfold apv2; rw [decide_eq_false (by omega : ¬ p.1 + 1 < p.1), decide_eq_false (by omega : ¬ p.1 + 1 = p.1)]; exact c⟩
          · exact old ((h t).2 (.inr ⟨i, a, by omega, c⟩)))
    exact ⟨by rw [i1, hS1]; omega, i2⟩
end
end Go.Proofs.Ytaoeigofmfpamaa.Lt
end

/- The longest time of a calm step: both answer the same for a valid flat. Nothing is assumed. -/
section
namespace Go.Proofs.Ytaoeigofmfpamaa.Lt
open Go Fla
noncomputable section
theorem sto_word {a : Nat} (h : sto fops a = true) : 1065353216 ≤ a ∧ a ≤ 1176256512 := by
  unfold sto at h
  by_cases h0 : a < 2139095040
  · rw [decide_eq_true h0] at h
    cases h1 : fops.cmp .geq .f32 a 1065353216 with
    | false => rw [h1] at h; cases h
    | true =>
      rw [h1] at h
      have h2 : fops.cmp .leq .f32 a 1176256512 = true := h
      rw [cmp_geq, key_sm (show a < 2147483648 by omega), key_sm (show 1065353216 < 2147483648 by decide)] at h1
      rw [cmp_leq, key_sm (show a < 2147483648 by omega), key_sm (show 1176256512 < 2147483648 by decide)] at h2
      simp at h1 h2
      omega
  · rw [decide_eq_false h0] at h; cases h
theorem three_good {s L : Nat} (hs : 1065353216 ≤ s ∧ s ≤ 1176256512) (h0 : 1015021568 ≤ L) (h1 : L ≤ 1120403456) : fops.bin .quo .f32 s (fops.bin .mul .f32 1077936128 L) ≤ 2139095040 ∧ fops.bin .quo .f32 s (fops.bin .mul .f32 1073741824 L) ≤ 2139095040 := by
  obtain ⟨a1, a2⟩ := two_lead h0 h1
  obtain ⟨b1, b2, _⟩ := three_lead h0 h1
  exact ⟨(quo_nan (by omega) (by omega) (by omega) (by omega)).2, (quo_nan (by omega) (by omega) (by omega) (by omega)).2⟩
section
variable {x : Fl} (hv : vF fops x = true) (h2 : 0 ≤ x.n2) (h3 : 0 ≤ x.n3)
include hv h2 h3
theorem lead_lt (i : Int) : lead fops (xFD x) i < 2139095040 := by
  obtain ⟨_, _, _, c2, c3⟩ := v_rooms hv
  have w : foldFrom (fW fops (xFD x) i) 0 x.n2.toNat 0 ≤ V (0 + x.n2.toNat) := fold_amt (n := x.n2) (fun k s hk hlt => by
    unfold fW
    cases or2 (decide ((xFD x).G2 0 k = i)) (decide ((xFD x).G2 1 k = i)) with
    | false => exact .inl rfl
    | true =>
      obtain ⟨_, l0, l1, _⟩ := v_wall hv hk hlt
      obtain ⟨_, a2⟩ := two_lead l0 l1
      exact .inr ⟨_, Nat.le_trans a2 (by omega), rfl⟩) x.n2.toNat 0 0 0 (Int.le_refl _) (by omega) (by omega) (Nat.le_refl _)
  have p := fold_amt (f := fP fops (xFD x) i) (n := x.n3) (fun k s hk hlt => by
    unfold fP
    cases or2 (decide ((xFD x).G3 0 k = i)) (decide ((xFD x).G3 1 k = i)) with
    | false => exact .inl rfl
    | true =>
      obtain ⟨_, l1, _⟩ := v_pane hv hk hlt
      exact .inr ⟨_, Nat.le_trans l1 (by decide), rfl⟩) x.n3.toNat 0 _ (0 + x.n2.toNat) (Int.le_refl _) (by omega) (by omega) w
  exact Nat.lt_of_le_of_lt p (V_lt (by omega))
theorem tm_good {k : Int} (k0 : 0 ≤ k) (k1 : k < x.n0) (hd : ndI fops (xFD x) k = true) : tmI fops (xFD x) k ≤ 2139095040 := by
  have hs := sto_word (v_heat hv k0 k1).2
  have hl := lead_lt hv h2 h3 k
  have hp : 0 < lead fops (xFD x) k := by
    rcases Nat.eq_zero_or_pos (lead fops (xFD x) k) with h | h
    · unfold ndI at hd
      rw [h] at hd
      rw [show fops.cmp .neq .f32 0 0 = false by decide +kernel] at hd
      cases hd
    · exact h
  exact (quo_nan (s := datF x.r1 0 k) (by omega) (by omega) hp hl).2
theorem both : ((lst2 fops x).1 = 0 ∧ fops.cmp .lss .f32 (bestS fops x) 0 = true) ∨ (0 < (lst2 fops x).1 ∧ fops.cmp .lss .f32 (bestS fops x) 0 = false ∧ lestI fops x = bestS fops x) := by
  obtain ⟨c0, _, c1, c2, c3⟩ := v_rooms hv
  have hsd : Sd x := ⟨fun k a b => ⟨(v_wall hv a b).1.2.2.1, (v_wall hv a b).1.2.2.2.2⟩, fun k a b => ⟨(v_pane hv a b).1.2.2.1, (v_pane hv a b).1.2.2.2.2⟩⟩
  have hw : ∀ k, 0 ≤ k → k < x.n2 → q3 fops (xFD x) k ≤ 2139095040 ∧ q2 fops (xFD x) k ≤ 2139095040 ∧ q3 fops (xFD x) k ≤ q2 fops (xFD x) k := fun k a b => by
    obtain ⟨_, l0, l1, hs, _⟩ := v_wall hv a b
    have s := sto_word hs
    obtain ⟨g1, g2⟩ := three_good s l0 l1
    exact ⟨g1, g2, wall_quo s.1 s.2 l0 l1⟩
  have hPg : ∀ t, Pr (xFD x) x.n0 t → t ≤ 2139095040 := fun t ⟨j, j0, j1, j2, j3⟩ => by rw [j3]; exact tm_good hv h2 h3 j0 j1 j2
  have r1 := rl_fold (X := xFD x) (n := x.n1) x.n1.toNat 0 (0, fun _ => []) (Int.le_refl _) (by omega) (rl_zero _)
  have r1' : Rl (xFD x) x.n1 (lst1 fops x) := r1
  have b1 := rooms_best (X := xFD x) (s := leadS fops x) (n := x.n0) (fun k a _ => leads_eq h2 h3 hsd fops a) (fun k a b c => tm_good hv h2 h3 a b c) x.n0.toNat 0 3212836864 (Int.le_refl _) (by omega) (.inl ⟨rfl, fun t ⟨j, j0, j1, _⟩ => by omega⟩)
  have b2 := walls_best (P := Pr (xFD x) x.n0) (q := fun k => q3 fops (xFD x) k) (n := x.n2) hPg (fun k a b => (hw k a b).1) x.n2.toNat 0 _ (Int.le_refl _) (by omega) (b1.congr fun t => ⟨fun h => .inl h, fun h => h.elim id fun ⟨j, j0, j1, _⟩ => by omega⟩)
  have b2' : Best (fun t => Pr (xFD x) x.n0 t ∨ ∃ j, 0 ≤ j ∧ j < x.n2 ∧ t = q3 fops (xFD x) j) (bestS fops x) := b2
  obtain ⟨w1, w2⟩ := wl_fold (X := xFD x) (n := x.n2) (P := Pr (xFD x) x.n0) x.n2.toNat 0 ((lst1 fops x).1, datF (lst1 fops x).2 0) (Int.le_refl _) (by omega) r1'.n0 (fun t => by
    have := r1'.set t
    rw [c1] at this
    constructor
    · intro h; exact .inl (.inl (this.1 h))
    · rintro ((h | ⟨j, j0, j1, _⟩) | ⟨j, j0, j1, _⟩)
      · exact this.2 h
      · omega
      · omega)
  have w1' : (lst2 fops x).1 = (lst1 fops x).1 + 2 * x.n2.toNat := w1
  have w2' : ∀ t, (∃ j, 0 ≤ j ∧ j < (lst2 fops x).1 ∧ t = (lst2 fops x).2 j) ↔ ((Pr (xFD x) x.n0 t ∨ ∃ j, 0 ≤ j ∧ j < x.n2 ∧ t = q3 fops (xFD x) j) ∨ ∃ j, 0 ≤ j ∧ j < x.n2 ∧ t = q2 fops (xFD x) j) := w2
  have g0 := r1'.n0
  have hgood : ∀ t, (Pr (xFD x) x.n0 t ∨ ∃ j, 0 ≤ j ∧ j < x.n2 ∧ t = q3 fops (xFD x) j) → t ≤ 2139095040 := fun t h => h.elim (hPg t) fun ⟨j, j0, j1, e⟩ => by rw [e]; exact (hw j j0 j1).1
  rcases Int.lt_or_le 0 (lst2 fops x).1 with hM | hM
  · right
    have hvg : ∀ j, 0 ≤ j → j < (lst2 fops x).1 → (lst2 fops x).2 j ≤ 2139095040 := fun j j0 j1 => by
      rcases (w2' _).1 ⟨j, j0, j1, rfl⟩ with h | ⟨i, i0, i1, e⟩
      · exact hgood _ h
      · rw [e]; exact (hw i i0 i1).2.1
    have l1 := (least_best hM hvg).congr w2'
    have l2 := l1.drop fun t ⟨j, j0, j1, e⟩ => ⟨q3 fops (xFD x) j, .inr ⟨j, j0, j1, rfl⟩, by rw [e]; exact (hw j j0 j1).2.2⟩
    have l2' : Best (fun t => Pr (xFD x) x.n0 t ∨ ∃ j, 0 ≤ j ∧ j < x.n2 ∧ t = q3 fops (xFD x) j) (lestI fops x) := l2
    have e := l2'.uniq b2'
    refine ⟨hM, ?_, e⟩
    rcases b2' with ⟨_, g2⟩ | ⟨g1, _⟩
    · rcases l2' with ⟨m1, _⟩ | ⟨m1, _⟩
      · exfalso
        obtain ⟨j, j0, j1, j2⟩ := (w2' ((lst2 fops x).2 0)).1 ⟨0, Int.le_refl _, hM, rfl⟩ |>.elim (fun h => absurd h (g2 _)) id
        exact g2 _ (.inr ⟨j, j0, j1, rfl⟩)
      · exact absurd m1 (g2 _)
    · exact lss_zero (hgood _ g1)
  · left
    have hz : (lst2 fops x).1 = 0 := by omega
    refine ⟨hz, ?_⟩
    rcases b2' with ⟨g1, _⟩ | ⟨g1, _⟩
    · rw [g1]; exact lss_neg
    · obtain ⟨j, j0, j1, _⟩ := (w2' _).2 (.inl g1)
      omega
end
end
end Go.Proofs.Ytaoeigofmfpamaa.Lt
end

/- The law LongestTime: the contracts. Nothing is assumed. -/
section
namespace Go.Proofs.Ytaoeigofmfpamaa.Lt
open Go Fla
noncomputable section
/-- What comes out: 0: the flat is not valid; 1: there is no time; 2: there is one. -/
def ltV (O : FOps) (nm : Nat → Bool) (e : Nat) (x : Fl) (rest : List SV) : Option (SV × List Bool) := match rest with
  | [] => match e with
    | 0 => some (tE 1, [!vF O x])
    | 1 => some (tE 6, [!!vF O x, decide ((lst2 O x).1 = 0)])
    | _ => some (tN (nm (bestS O x)) (bestS O x), [!!vF O x, !decide ((lst2 O x).1 = 0)])
  | _ :: _ => none
def hI (e : Nat) : List (Nat × Bool) := match e with
  | 0 => [(19, true)]
  | 1 => [(19, false), (108, true)]
  | _ => [(19, false), (108, false)]
def hS (e : Nat) : List (Nat × Bool) := match e with
  | 0 => [(15, true)]
  | 1 => [(15, false), (185, true)]
  | _ => [(15, false), (185, false)]
def nI (e : Nat) : Nat := match e with
  | 0 => 181
  | 1 => 460
  | _ => 521
def nS (e : Nat) : Nat := match e with
  | 0 => 180
  | _ => 420
set_option maxRecDepth 100000 in
theorem CI (h : List (Nat × Bool)) : CallOK Try.prog 11 (IC fops isNum h) := by
  have hb : Try.f11.body.isSome = true := by kernel_rfl
  obtain ⟨c, hc⟩ := Option.isSome_iff_exists.1 hb
  have h1 : (match Try.f11.body with | some c => onceB (loopsIn c) && ((match loopAt 5 (loopsIn c) with | some _ => true | none => false) && ((match loopAt 24 (loopsIn c) with | some _ => true | none => false) && (match loopAt 32 (loopsIn c) with | some _ => true | none => false))) | none => false) = true := by kernel_rfl
  rw [hc] at h1
  simp only [Bool.and_eq_true] at h1
  exact (inlL_of (l := LF fops isNum) (ls := [(5, oL fops), (24, vL fops), (32, lL fops)]) okLF mixed 8 Try.func11 (by kernel_rfl) (hints h) hc h1.1 ⟨⟨_, bodyOf_at hc h1.2.1, oO⟩, ⟨_, bodyOf_at hc h1.2.2.1, vO⟩, ⟨_, bodyOf_at hc h1.2.2.2, lO⟩, trivial⟩).ro
set_option maxRecDepth 100000 in
theorem CS' (h : List (Nat × Bool)) : CallOK Try.prog 9 (SC' fops isNum h) := by
  have hb : Try.f9.body.isSome = true := by kernel_rfl
  obtain ⟨c, hc⟩ := Option.isSome_iff_exists.1 hb
  have h1 : (match Try.f9.body with | some c => onceB (loopsIn c) && ((match loopAt 5 (loopsIn c) with | some _ => true | none => false) && ((match loopAt 12 (loopsIn c) with | some _ => true | none => false) && ((match loopAt 20 (loopsIn c) with | some _ => true | none => false) && (match loopAt 27 (loopsIn c) with | some _ => true | none => false)))) | none => false) = true := by kernel_rfl
  rw [hc] at h1
  simp only [Bool.and_eq_true] at h1
  exact (inlL_of (l := LF fops isNum) (ls := [(5, aL fops), (12, bL fops), (20, cL fops), (27, dL fops)]) okLF mixed 8 Try.func9 (by kernel_rfl) (hints h) hc h1.1 ⟨⟨_, bodyOf_at hc h1.2.1, aO⟩, ⟨_, bodyOf_at hc h1.2.2.1, bO⟩, ⟨_, bodyOf_at hc h1.2.2.2.1, cO⟩, ⟨_, bodyOf_at hc h1.2.2.2.2, dO⟩, trivial⟩).ro
end
end Go.Proofs.Ytaoeigofmfpamaa.Lt
end

/- The law LongestTime: the contracts, told by hand. Nothing is assumed. -/
section
namespace Go.Proofs.Ytaoeigofmfpamaa.Lt
open Go Fla
noncomputable section
theorem stv_len (O : FOps) (X : FD) : ∀ (m : Nat) (k : Int) (p : Int × (Int → Nat)), (foldFrom (stv O X) k m p).1 = p.1 + 2 * m
  | 0, _, p => by show p.1 = p.1 + 2 * ((0 : Nat) : Int); omega
  | m + 1, k, p => by
    show (foldFrom (stv O X) (k + 1) m (stv O X k p)).1 = _
    rw [stv_len O X m (k + 1) (stv O X k p)]
    show p.1 + 2 + 2 * (m : Int) = p.1 + 2 * ((m + 1 : Nat) : Int)
    omega
section
variable {x : Fl} (hx : x.ok = true) (hv : vF fops x = true)
include hx hv
theorem lst_facts : Rl (xFD x) x.n1 (lst1 fops x) ∧ (lst2 fops x).1 = (lst1 fops x).1 + 2 * x.n2 := by
  obtain ⟨_, _, _, _, b0, _, b2, _⟩ := pB_iff.1 hx
  obtain ⟨c0, _, c1, c2, c3⟩ := v_rooms hv
  refine ⟨rl_fold (X := xFD x) (n := x.n1) x.n1.toNat 0 (0, fun _ => []) (Int.le_refl _) (by omega) (rl_zero _), ?_⟩
  have := stv_len fops (xFD x) x.n2.toNat 0 ((lst1 fops x).1, datF (lst1 fops x).2 0)
  have e : (lst2 fops x).1 = (lst1 fops x).1 + 2 * (x.n2.toNat : Int) := this
  omega
theorem i1_ok : AllT (i1 fops x) := by
  obtain ⟨r, e⟩ := lst_facts hx hv
  obtain ⟨c0, c5, c1, c2, c3⟩ := v_rooms hv
  have hf := flR_ok hx
  have g0 := r.n0
  have g1 := r.n1
  refine AllT.app (AllT.app hf (AllT.one' (pB_iff.2 ⟨rfl, rfl, rfl, rfl, rfl, ⟨by omega, by omega⟩, (rl_zero (xFD x)).fl, pB_iff.1 hx⟩))) (AllT.app hf (AllT.cons r.fl (AllT.one' (pB_iff.2 ⟨rfl, rfl, rfl, rfl, ⟨g0, by omega⟩, by omega, r.told, okd2 hx⟩))))
theorem i2_ok (hM : 0 < (lst2 fops x).1) : AllT (i2 fops x) := by
  obtain ⟨r, e⟩ := lst_facts hx hv
  obtain ⟨c0, c5, c1, c2, c3⟩ := v_rooms hv
  have hf := flR_ok hx
  have g1 := r.n1
  have b := bd_ok (n := (lst2 fops x).1) (k := 0) (Int.le_refl _) hM
  exact AllT.app (AllT.cons b (AllT.one' b)) (AllT.app hf (AllT.cons (RowT_flat _) (AllT.one' (pB_iff.2 ⟨rfl, rfl, rfl, ⟨by omega, by omega⟩, rfl, okd2 hx⟩))))
theorem s1_ok : AllT (s1 fops x) := by
  obtain ⟨c0, c5, c1, c2, c3⟩ := v_rooms hv
  have hf := flR_ok hx
  have hW : Win (xFD x) := fun _ a b => ⟨(v_wall hv a b).1.1, (v_wall hv a b).1.2.1, (v_wall hv a b).1.2.2.1, (v_wall hv a b).1.2.2.2.1⟩
  have hP : Pan (xFD x) := fun _ a b => ⟨(v_pane hv a b).1.1, (v_pane hv a b).1.2.1, (v_pane hv a b).1.2.2.1, (v_pane hv a b).1.2.2.2.1⟩
  refine AllT.app (AllT.app (AllT.app (AllT.app (AllT.one' (by simp; omega)) ?_) ?_) ?_) ?_
  · exact AllT.app hf (AllT.cons (RowT_flat _) (AllT.one' (pB_iff.2 ⟨rfl, rfl, rfl, hW, rfl, pB_iff.1 hx⟩)))
  · exact AllT.app hf (AllT.cons (RowT_flat _) (AllT.one' (pB_iff.2 ⟨rfl, rfl, rfl, hP, rfl, okd2 hx⟩)))
  · exact AllT.app hf (AllT.cons (RowT_flat _) (AllT.one' (pB_iff.2 ⟨rfl, rfl, rfl, c1, rfl, okd2 hx⟩)))
  · exact AllT.app hf (AllT.one' (pB_iff.2 ⟨rfl, okd2 hx⟩))
end
theorem all_one (nm : Nat → Bool) (z : Nat) : allB nm [z] = nm z := by
  cases h : nm z <;> simp [h, allB]
def lI (O : FOps) (nm : Nat → Bool) (e : Nat) : CS := canS (flH flV (nI e) (ltV O nm e))
def lS (O : FOps) (nm : Nat → Bool) (e : Nat) : CS := canS (flH flV (nS e) (ltV O nm e))
theorem hv_ok {x : Fl} (hx : x.ok = true) : AllT (hv fops x) := AllT.app (flR_ok hx) (AllT.one' hx)
set_option maxRecDepth 100000 in
theorem cI (e : Nat) : CallOK Try.prog 11 (lI fops isNum e) := CallOK.can (CallOK.hand (H := flH flV (nI e) (ltV fops isNum e)) (CI (hI e)) fun b args rd ef h hob => by
  obtain ⟨x, rest, v, ob, h1, h2, rfl⟩ := flH_some h
  obtain ⟨g, rfl, rfl, rfl⟩ := flV_some h1
  have hx := hob.head
  obtain ⟨_, _, _, _, b0, _, b2, _, b3, _⟩ := pB_iff.1 hx
  have ho := hob.tail
  unfold ltV at h2
  split at h2 <;> try (cases h2; done)
  match e, h2 with
  | 0, h2 =>
    cases h2
    exact ⟨_, Ie0 fops isNum x g, AllT.app (hv_ok hx) (AllT.one' ho.head)⟩
  | 1, h2 =>
    cases h2
    have hV : vF fops x = true := by simpa using ho.head
    exact ⟨_, Ie1 fops isNum x g, AllT.app (AllT.app (AllT.app (hv_ok hx) (AllT.one' ho.head)) (i1_ok hx hV)) (AllT.one' ho.tail.head)⟩
  | e + 2, h2 =>
    cases h2
    have hV : vF fops x = true := by simpa using ho.head
    have r := Ie2 fops isNum x g
    rcases both hV b2 b3 with ⟨hz, _⟩ | ⟨hM, _, hE⟩
    · have : (lst2 fops x).1 ≠ 0 := by simpa using ho.tail.head
      exact absurd hz this
    · rw [all_one, hE] at r
      exact ⟨_, r, AllT.app (AllT.app (AllT.app (AllT.app (hv_ok hx) (AllT.one' ho.head)) (i1_ok hx hV)) (AllT.one' ho.tail.head)) (i2_ok hx hV hM)⟩)
set_option maxRecDepth 100000 in
theorem cS (e : Nat) : CallOK Try.prog 9 (lS fops isNum e) := CallOK.can (CallOK.hand (H := flH flV (nS e) (ltV fops isNum e)) (CS' (hS e)) fun b args rd ef h hob => by
  obtain ⟨x, rest, v, ob, h1, h2, rfl⟩ := flH_some h
  obtain ⟨g, rfl, rfl, rfl⟩ := flV_some h1
  have hx := hob.head
  obtain ⟨_, _, _, _, b0, _, b2, _, b3, _⟩ := pB_iff.1 hx
  have ho := hob.tail
  unfold ltV at h2
  split at h2 <;> try (cases h2; done)
  match e, h2 with
  | 0, h2 =>
    cases h2
    exact ⟨_, Se0 fops isNum x g, AllT.app (hv_ok hx) (AllT.one' ho.head)⟩
  | 1, h2 =>
    cases h2
    have hV : vF fops x = true := by simpa using ho.head
    rcases both hV b2 b3 with ⟨_, hl⟩ | ⟨hM, _, _⟩
    · exact ⟨_, Se1 fops isNum x g, AllT.app (AllT.app (AllT.app (hv_ok hx) (AllT.one' ho.head)) (s1_ok hx hV)) (AllT.one' hl)⟩
    · have : (lst2 fops x).1 = 0 := by simpa using ho.tail.head
      omega
  | e + 2, h2 =>
    cases h2
    have hV : vF fops x = true := by simpa using ho.head
    rcases both hV b2 b3 with ⟨hz, _⟩ | ⟨_, hl, _⟩
    · have : (lst2 fops x).1 ≠ 0 := by simpa using ho.tail.head
      exact absurd hz this
    · exact ⟨_, Se2 fops isNum x g, AllT.app (AllT.app (AllT.app (hv_ok hx) (AllT.one' ho.head)) (s1_ok hx hV)) (AllT.one' (by rw [hl]; rfl))⟩)
end
end Go.Proofs.Ytaoeigofmfpamaa.Lt
end

/- The law LongestTime: what its text computes. Nothing is assumed. -/
section
namespace Go.Proofs.Ytaoeigofmfpamaa.Lt
open Go Fla
noncomputable section
def lI2 (O : FOps) (nm : Nat → Bool) (e : Nat) : CS := orS (lI O nm e) (inl (cxF O nm) Try.f11 noH)
def lS2 (O : FOps) (nm : Nat → Bool) (e : Nat) : CS := orS (lS O nm e) (inl (cxF O nm) Try.f9 noH)
def L3 (O : FOps) (nm : Nat → Bool) (e : Nat) : List (Nat × CS) := (11, lI2 O nm e) :: (9, lS2 O nm e) :: LW O
set_option maxRecDepth 100000 in
theorem okL3 (e : Nat) : AllOK Try.prog (L3 fops isNum e) := ⟨(cI e).or (inlN_of (l := LF fops isNum) okLF mixed 8 Try.func11 (by kernel_rfl) (fun _ => none)), (cS e).or (inlN_of (l := LF fops isNum) okLF mixed 8 Try.func9 (by kernel_rfl) (fun _ => none)), okLW⟩
noncomputable def hLaw : List (Nat × Bool) := [(13, false), (37, false), (42, false)]
noncomputable def run (O : FOps) (nm : Nat → Bool) (e : Nat) (hl : List (Nat × Bool)) (v : SV) (rd : List (Nat × Seg)) : Option (SV × List Bool) :=
  rE 5 (inl ⟨Try.prog, O, orcN Try.prog O (L3 O nm e) 8⟩ Try.f3 ⟨hints hl, fun _ => none⟩ 5 [v] rd)
def tB (O : FOps) (x y : Nat) (c d : Int) : Bool := bif !sf O (O.conv .f32 .f64 x) (O.conv .f32 .f64 y) then true else !decide (c = d)
theorem tB_false (x : Nat) (c : Int) : tB fops x x c c = false := by unfold tB; simp [sf_self]
def wN (O : FOps) (nm : Nat → Bool) (x : Fl) : Nat := bif !nm (bestS O x) then 0 else bestS O x
def cN (O : FOps) (nm : Nat → Bool) (x : Fl) : Int := bif !nm (bestS O x) then 4 else 0
set_option maxRecDepth 100000 in
theorem run_0 (O : FOps) (nm : Nat → Bool) (x : FD) : run O nm 0 hLaw (flA x) (rdA x) = some (.c (.bool .t), obP O x (oV x ++ [!vF O x.fl]) (oV x ++ [!vF O x.fl]) (tB O 0 0 1 1)) := by kernel_rfl
set_option maxRecDepth 100000 in
theorem run_1 (O : FOps) (nm : Nat → Bool) (x : FD) : run O nm 1 hLaw (flA x) (rdA x) = some (.c (.bool .t), obP O x (oV x ++ [!!vF O x.fl, decide ((lst2 O x.fl).1 = 0)]) (oV x ++ [!!vF O x.fl, decide ((lst2 O x.fl).1 = 0)]) (tB O 0 0 6 6)) := by kernel_rfl
set_option maxRecDepth 100000 in
theorem run_2 (O : FOps) (nm : Nat → Bool) (x : FD) : run O nm 2 hLaw (flA x) (rdA x) = some (.c (.bool .t), obP O x (oV x ++ [!!vF O x.fl, !decide ((lst2 O x.fl).1 = 0)]) (oV x ++ [!!vF O x.fl, !decide ((lst2 O x.fl).1 = 0)]) (tB O (wN O nm x.fl) (wN O nm x.fl) (cN O nm x.fl) (cN O nm x.fl))) := by kernel_rfl
set_option maxRecDepth 100000 in
theorem run_big (O : FOps) (nm : Nat → Bool) (x : FD) : run O nm 0 [(13, true)] (flA x) (rdA x) = some (.c (.bool .t), [decide (sz x < 0)]) := by kernel_rfl
set_option maxRecDepth 100000 in
theorem run0 (O : FOps) (nm : Nat → Bool) : run O nm 0 hLaw flA0 [] = some (.c (.bool .t), [!tB O 0 0 1 1]) := by kernel_rfl
theorem law_all0 : ∃ hh hl ob, run fops isNum hh hl flA0 [] = some (.c (.bool .t), ob) ∧ AllT ob := ⟨_, _, _, run0 fops isNum, AllT.one' (by rw [tB_false]; rfl)⟩
theorem law_all {x : FD} (hn : Nn x) : ∃ hh hl ob, run fops isNum hh hl (flA x) (rdA x) = some (.c (.bool .t), ob) ∧ AllT ob := by
  cases hz : decide (sz x < 0) with
  | true => exact ⟨_, _, _, run_big fops isNum x, AllT.one' hz⟩
  | false =>
    have h := sz_small hn hz
    have v := oV_ok h
    cases hv : vF fops x.fl with
    | false =>
      have o := AllT.app v (AllT.one' (b := !vF fops x.fl) (by rw [hv]; rfl))
      exact ⟨_, _, _, run_0 fops isNum x, obP_ok h hz o o (tB_false _ _)⟩
    | true =>
      have hvv : (!!vF fops x.fl) = true := by rw [hv]; rfl
      cases hm : decide ((lst2 fops x.fl).1 = 0) with
      | true =>
        have o := AllT.app v (AllT.cons hvv (AllT.one' hm))
        exact ⟨_, _, _, run_1 fops isNum x, obP_ok h hz o o (tB_false _ _)⟩
      | false =>
        have o := AllT.app v (AllT.cons hvv (AllT.one' (b := !decide ((lst2 fops x.fl).1 = 0)) (by rw [hm]; rfl)))
        exact ⟨_, _, _, run_2 fops isNum x, obP_ok h hz o o (tB_false _ _)⟩
end
end Go.Proofs.Ytaoeigofmfpamaa.Lt
end
