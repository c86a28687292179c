/- The root of a widened single is never too large for a single. Nothing is assumed. -/
import Derived.Test.YtohmpnnncpjjlaaSqt
import Derived.Test.YtohmpnnncpjjlaaAr
namespace Go.Proofs.Ytohmpnnncpjjlaa
open Go
noncomputable section
set_option exponentiation.threshold 3000
theorem rootFrom_sq (n : Nat) : ∀ (todo root : Nat), root * root ≤ n → Ieee.Datum.rootFrom n todo root * Ieee.Datum.rootFrom n todo root ≤ n
  | 0, _, h => h
  | todo + 1, root, h => by
    unfold Ieee.Datum.rootFrom
    dsimp only
    split
    · rename_i h2; exact rootFrom_sq n todo _ h2
    · exact rootFrom_sq n todo _ h
theorem word_read (k : FloatKind) (s : Bool) {r : Nat} (hr : r < k.format.infRung) : ∃ s' m e, k.decode (k.format.word s r) = .number s' m e ∧ k.format.leastPlace ≤ e ∧ m * 2 ^ (e - k.format.leastPlace).toNat = units k.format.binade r := by
  have hi : k.format.infRung < k.format.signWeight := by cases k <;> decide +kernel
  have hw : k.format.word s r % k.format.signWeight = r := rung_word _ _ (by omega)
  have hn : nanb k (k.format.word s r) = false := by
    unfold nanb FloatKind.decode Ieee.Format.read
    dsimp only
    rw [hw]
    split
    · rfl
    · first | rfl | (split <;> first | rfl | omega)
  rcases read_cases k _ hn with ⟨m, e, h1, h2, h3, _⟩ | ⟨_, h2⟩
  · refine ⟨_, m, e, h1, h2, ?_⟩
    rw [h3]
    unfold rung
    rw [hw]
  · unfold rung at h2
    rw [hw] at h2
    omega
theorem enc_le (k : FloatKind) (s : Bool) {m : Nat} {e : Int} {r : Nat} (hr : r < k.format.infRung) (h : m * 2 ^ (e - k.format.leastPlace).toNat ≤ units k.format.binade r * 2 ^ (k.format.leastPlace - e).toNat) :
    ∃ s' m' e', k.decode (k.encode (.number s m e)) = .number s' m' e' ∧ k.format.leastPlace ≤ e' ∧ m' * 2 ^ (e' - k.format.leastPlace).toNat ≤ units k.format.binade r := by
  obtain ⟨r', h1, _, h2⟩ := nearest_le k s h
  obtain ⟨s', m', e', h3, h4, h5⟩ := word_read k s (r := r') (by omega)
  refine ⟨s', m', e', ?_, h4, by rw [h5]; exact units_le (binade_pos k) h1⟩
  show k.decode (k.format.nearest s m e) = _
  rw [h2]; exact h3
theorem l64 : FloatKind.f64.format.leastPlace = -1074 := by decide +kernel
theorem l32 : FloatKind.f32.format.leastPlace = -149 := by decide +kernel
theorem u128 : units FloatKind.f64.format.binade 5183643171103440896 = 2 ^ 1202 := by decide +kernel
theorem u65 : units FloatKind.f64.format.binade 4899916394579099648 = 2 ^ 1139 := by decide +kernel
theorem u66 : units FloatKind.f32.format.binade 1619001344 = 2 ^ 215 := by decide +kernel
theorem ir64 : FloatKind.f64.format.infRung = 9218868437227405312 := by decide +kernel
theorem ir32 : FloatKind.f32.format.infRung = 2139095040 := by decide +kernel
/-- A number below 2^128, its root below 2^65. -/
theorem root_le {m : Nat} {e : Int} (h0 : m ≠ 0) (he : -1074 ≤ e) (h : m * 2 ^ (e - -1074).toNat ≤ 2 ^ 1202) : ∃ M I, Ieee.Datum.root 54 (.number false m e) = some (.number false M I) ∧ M * 2 ^ (I - -1074).toNat ≤ 2 ^ 1139 * 2 ^ (-1074 - I).toNat := by
  rw [Ieee.Datum.root, if_neg h0, if_neg (by simp)]
  dsimp only
  generalize hmo : 108 - m.log2 + ((e - ((108 - m.log2 : Nat) : Int)) % 2).toNat = more
  generalize hW : Ieee.Datum.rootFrom (m <<< more) ((m <<< more).log2 / 2 + 1) 0 = w
  have hw : w * w ≤ m * 2 ^ more := by
    rw [← Nat.shiftLeft_eq, ← hW]
    exact rootFrom_sq _ _ _ (Nat.zero_le _)
  refine ⟨_, _, rfl, ?_⟩
  have hm109 : more ≤ 109 := by omega
  generalize ht : (e - (more : Int)) / 2 = t
  have hev : e - more = 2 * t := by omega
  have he2 : e ≤ 128 := by
    by_cases hc : e ≤ 128
    · exact hc
    exfalso
    have h1 : 1203 ≤ (e - -1074).toNat := by omega
    have h2 : 2 ^ 1203 ≤ 2 ^ (e - -1074).toNat := Nat.pow_le_pow_right (by decide) h1
    have h3 : 1 * 2 ^ (e - -1074).toNat ≤ m * 2 ^ (e - -1074).toNat := Nat.mul_le_mul_right _ (by omega)
    have h4 : (2 : Nat) ^ 1202 < 2 ^ 1203 := by decide +kernel
    omega
  generalize ha : (t - 1 - -1074).toNat = a
  have haI : (a : Int) = t + 1073 := by omega
  have hc : (-1074 - (t - 1)).toNat = 0 := by omega
  rw [hc, Nat.pow_zero, Nat.mul_one]
  -- the root, at the place below
  have hx : (w * 2 ^ (a + 1)) * (w * 2 ^ (a + 1)) ≤ 2 ^ 1138 * 2 ^ 1138 := by
    have g1 : (w * 2 ^ (a + 1)) * (w * 2 ^ (a + 1)) = (w * w) * 2 ^ (2 * a + 2) := by
      rw [show 2 * a + 2 = (a + 1) + (a + 1) by omega, Nat.pow_add 2 (a + 1) (a + 1)]
      generalize 2 ^ (a + 1) = z
      ac_rfl
    have g2 : m * 2 ^ more * 2 ^ (2 * a + 2) = m * 2 ^ (e - -1074).toNat * 2 ^ 1074 := by
      rw [Nat.mul_assoc, ← Nat.pow_add, Nat.mul_assoc, ← Nat.pow_add]
      congr 2
      omega
    rw [g1]
    refine Nat.le_trans (Nat.mul_le_mul_right _ hw) ?_
    rw [g2]
    refine Nat.le_trans (Nat.mul_le_mul_right _ h) ?_
    exact (by decide +kernel : 2 ^ 1202 * 2 ^ 1074 ≤ 2 ^ 1138 * 2 ^ 1138)
  have hx2 : w * 2 ^ (a + 1) ≤ 2 ^ 1138 := Nat.mul_self_le_mul_self_iff.1 hx
  have ha2 : 2 ^ a ≤ 2 ^ 1137 := Nat.pow_le_pow_right (by decide) (by omega)
  have hb : (w * w != m <<< more).toNat ≤ 1 := by cases (w * w != m <<< more) <;> simp
  calc (2 * w + (w * w != m <<< more).toNat) * 2 ^ a ≤ (2 * w + 1) * 2 ^ a := Nat.mul_le_mul_right _ (by omega)
    _ = w * 2 ^ (a + 1) + 2 ^ a := by rw [Nat.pow_succ, Nat.add_mul, Nat.one_mul]; congr 1; ac_rfl
    _ ≤ 2 ^ 1138 + 2 ^ 1137 := Nat.add_le_add hx2 ha2
    _ ≤ 2 ^ 1139 := by decide +kernel
theorem narrow_le {m : Nat} {e : Int} (he : -1074 ≤ e) (h : m * 2 ^ (e - -1074).toNat ≤ 2 ^ 1139) : m * 2 ^ (e - -149).toNat ≤ 2 ^ 215 * 2 ^ (-149 - e).toNat := by
  by_cases hc : -149 ≤ e
  · have h1 : (e - -1074).toNat = (e - -149).toNat + 925 := by omega
    have h2 : (-149 - e).toNat = 0 := by omega
    rw [h1, Nat.pow_add, ← Nat.mul_assoc] at h
    rw [h2, Nat.pow_zero, Nat.mul_one]
    have h3 : m * 2 ^ (e - -149).toNat ≤ 2 ^ 214 := Nat.le_of_mul_le_mul_right (c := 2 ^ 925) (by rw [← Nat.pow_add]; exact h) (Nat.two_pow_pos _)
    exact Nat.le_trans h3 (Nat.pow_le_pow_right (by decide) (by decide))
  · have h2 : (e - -149).toNat = 0 := by omega
    rw [h2, Nat.pow_zero, Nat.mul_one]
    refine Nat.le_of_mul_le_mul_right (c := 2 ^ (e - -1074).toNat) (Nat.le_trans h ?_) (Nat.two_pow_pos _)
    rw [← Nat.pow_add, ← Nat.pow_add]
    exact Nat.pow_le_pow_right (by decide) (by omega)
theorem ok_num {q : Nat} {s : Bool} {m : Nat} {e : Int} (hq : FloatKind.f64.decode q = .number s m e) (he : -1074 ≤ e) (h : m * 2 ^ (e - -1074).toNat ≤ 2 ^ 1139) : fops.convOk .f64 .f32 q = true := by
  have h1 := narrow_le he h
  obtain ⟨s', m', e', h2, _⟩ := enc_le .f32 s (m := m) (e := e) (r := 1619001344) (by rw [ir32]; decide) (by rw [l32, u66]; exact h1)
  show ((floatToFloatBits .f64 q .f32).isSome || (FloatKind.f64.decode q).isNaN) = true
  unfold floatToFloatBits
  rw [if_neg (by decide), hq]
  dsimp only
  rw [h2]
  rfl
theorem ok_nan : fops.convOk .f64 .f32 (qnan .f64) = true := by decide +kernel
theorem ok_sqv {y : Nat} {s : Bool} {m : Nat} {e : Int} (hy : FloatKind.f64.decode y = .number s m e) (he : -1074 ≤ e) (h : m * 2 ^ (e - -1074).toNat ≤ 2 ^ 1202) : fops.convOk .f64 .f32 (sqv y) = true := by
  unfold sqv Ieee.Format.sqrt
  have hy' : FloatKind.f64.format.read y = .number s m e := hy
  rw [hy', show FloatKind.f64.format.fractionBits + 2 = 54 by decide +kernel]
  by_cases hm : m = 0
  · subst hm
    have : Ieee.Datum.root 54 (.number s 0 e) = some (.number s 0 e) := by rw [Ieee.Datum.root, if_pos rfl]
    rw [this]
    obtain ⟨s', m', e', h2, h3, h4⟩ := enc_le .f64 s (m := 0) (e := e) (r := 0) (by rw [ir64]; decide) (by rw [Nat.zero_mul]; exact Nat.zero_le _)
    have hu : units FloatKind.f64.format.binade 0 = 0 := by decide +kernel
    rw [l64] at h3 h4
    exact ok_num h2 h3 (by rw [hu] at h4; exact Nat.le_trans h4 (Nat.zero_le _))
  · cases s with
    | true =>
      have : Ieee.Datum.root 54 (.number true m e) = none := by rw [Ieee.Datum.root, if_neg hm, if_pos rfl]
      rw [this]
      exact ok_nan
    | false =>
      obtain ⟨M, I, h1, h2⟩ := root_le hm he h
      rw [h1]
      obtain ⟨s', m', e', h3, h4, h5⟩ := enc_le .f64 false (m := M) (e := I) (r := 4899916394579099648) (by rw [ir64]; decide) (by rw [l64, u65]; exact h2)
      rw [l64] at h4 h5
      rw [u65] at h5
      exact ok_num h3 h4 h5
theorem root_ok (x : Nat) : fops.convOk .f64 .f32 (sqv (fops.conv .f32 .f64 x)) = true := by
  show fops.convOk .f64 .f32 (sqv ((floatToFloatBits .f32 x .f64).getD (qnan .f64))) = true
  unfold floatToFloatBits
  rw [if_neg (by decide)]
  cases h : FloatKind.f32.decode x with
  | nan s t => exact (by decide +kernel : fops.convOk .f64 .f32 (sqv (qnan .f64)) = true)
  | infinity s => cases s <;> decide +kernel
  | number s m e =>
    dsimp only
    rw [if_neg (by rw [conv_fin h]; decide)]
    obtain ⟨h1, h2, h3⟩ := read_f32 h
    have hb : m * 2 ^ (e - -1074).toNat ≤ 2 ^ 1202 := by
      calc m * 2 ^ (e - -1074).toNat ≤ 2 ^ 24 * 2 ^ 1178 := Nat.mul_le_mul (by omega) (Nat.pow_le_pow_right (by decide) (by omega))
        _ = 2 ^ 1202 := by rw [← Nat.pow_add]
    obtain ⟨s', m', e', h4, h5, h6⟩ := enc_le .f64 s (m := m) (e := e) (r := 5183643171103440896) (by rw [ir64]; decide) (by
      rw [l64, u128]
      rw [show (-1074 - e).toNat = 0 by omega, Nat.pow_zero, Nat.mul_one]
      exact hb)
    rw [l64] at h5 h6
    rw [u128] at h6
    exact ok_sqv h4 h5 h6
end
end Go.Proofs.Ytohmpnnncpjjlaa
