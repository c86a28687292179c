/- What holds in a valid flat; sums that stay small. Nothing is assumed. -/
import Derived.Test.YtopliajfonpbcaaFld
import Derived.Test.YtopliajfonpbcaaBd
import Derived.Test.YtopliajfonpbcaaFn
namespace Go.Proofs.Ytopliajfonpbcaa.Fla
open Go
noncomputable section
theorem nan_less {x : Nat} (h : x < 2139095040) : nanb .f32 x = false := by
  unfold nanb FloatKind.decode
  rw [read_nan, s32, i32]
  simp; omega
theorem key_less {x : Nat} (h : x < 2147483648) : key .f32 x = x := by
  unfold key negB rung
  rw [s32]
  have h1 : x / 2147483648 = 0 := Nat.div_eq_of_lt h
  simp [h1, Nat.mod_eq_of_lt h]
theorem k60 : key .f32 3262119936 = -1114636288 := by decide +kernel
theorem key_rung {x : Nat} {m : Nat} (h1 : -(m : Int) ≤ key .f32 x) (h2 : key .f32 x ≤ m) : rung .f32 x ≤ m := by
  revert h1 h2
  unfold key
  cases negB .f32 x
  · intro _ h2
    have h2' : (rung .f32 x : Int) ≤ m := h2
    omega
  · intro h1 _
    have h1' : -(m : Int) ≤ -(rung .f32 x : Int) := h1
    omega
theorem bd_between {a hi : Nat} (h1 : fops.cmp .geq .f32 a 3262119936 = true) (h2 : fops.cmp .leq .f32 a hi = true) (g1 : 1114636288 ≤ hi) (g2 : hi < 2139095040) : Bd a hi := by
  rw [cmp_geq, k60] at h1
  rw [cmp_leq, key_less (by omega : hi < 2147483648)] at h2
  simp only [Bool.and_eq_true, Bool.not_eq_true', decide_eq_true_eq] at h1 h2
  have hr : rung .f32 a ≤ hi := key_rung (by omega) h2.2
  exact ⟨⟨h1.1.1, by omega⟩, hr⟩
theorem hot_bd {a : Nat} (h : hot fops a = true) : Bd a 1128792064 := by
  unfold hot at h
  cases h1 : fops.cmp .geq .f32 a 3262119936 with
  | false => rw [h1] at h; cases h
  | true => rw [h1] at h; exact bd_between h1 h (by decide) (by decide)
theorem leq_word {l m : Nat} (h : l < 2139095040) (hm : m < 2139095040) (h2 : fops.cmp .leq .f32 l m = true) : l ≤ m := by
  rw [cmp_leq, key_less (by omega : l < 2147483648), key_less (by omega : m < 2147483648)] at h2
  simp only [Bool.and_eq_true, decide_eq_true_eq] at h2
  omega
theorem upTo_word {m l : Nat} (hm : m < 2139095040) (h : upTo fops m l = true) : l ≤ m := by
  unfold upTo at h
  by_cases h1 : l < 2139095040
  · rw [decide_eq_true h1] at h; exact leq_word h1 hm h
  · rw [decide_eq_false h1] at h; cases h
theorem geq_word {l m : Nat} (h : l < 2139095040) (hm : m < 2139095040) (h2 : fops.cmp .geq .f32 l m = true) : m ≤ l := by
  rw [cmp_geq, key_less (by omega : l < 2147483648), key_less (by omega : m < 2147483648)] at h2
  simp only [Bool.and_eq_true, decide_eq_true_eq] at h2
  omega
theorem sto_word {s : Nat} (h : sto fops s = true) : 1065353216 ≤ s ∧ s ≤ 1176256512 := by
  unfold sto at h
  by_cases h1 : s < 2139095040
  · rw [decide_eq_true h1] at h
    cases h2 : fops.cmp .geq .f32 s 1065353216 with
    | false => rw [h2] at h; cases h
    | true => rw [h2] at h; exact ⟨geq_word h1 (by decide) h2, leq_word h1 (by decide) h⟩
  · rw [decide_eq_false h1] at h; cases h
theorem badW_false {st : Bool} {l s : Nat} (h : badW fops st l s = false) : st = true ∧ 1015021568 ≤ l ∧ l ≤ 1120403456 ∧ sto fops s = true := by
  unfold badW at h
  cases st with
  | false => cases h
  | true =>
    by_cases h1 : l < 2139095040
    · rw [decide_eq_true h1] at h
      cases h2 : lead fops l with
      | false => rw [h2] at h; cases h
      | true =>
        rw [h2] at h
        have h3 := h2
        unfold lead at h3
        cases h4 : fops.cmp .geq .f32 l 1015021568 with
        | false => rw [h4] at h3; cases h3
        | true =>
          rw [h4] at h3
          exact ⟨rfl, geq_word h1 (by decide) h4, leq_word h1 (by decide) h3, nb h⟩
    · rw [decide_eq_false h1] at h; cases h
theorem badP_false {st : Bool} {l s : Nat} (h : badP fops st l s = false) : st = true ∧ l ≤ 1120403456 ∧ s ≤ 1092616192 := by
  unfold badP at h
  cases st with
  | false => cases h
  | true =>
    cases h2 : upTo fops 1120403456 l with
    | false => rw [h2] at h; cases h
    | true =>
      rw [h2] at h
      exact ⟨rfl, upTo_word (by decide) h2, upTo_word (by decide) (nb h)⟩
theorem std_true {n a b : Int} (h : std n a b = true) : 0 ≤ a ∧ a < n ∧ -1 ≤ b ∧ b < n ∧ a ≠ b := by
  unfold std at h
  by_cases h1 : 0 ≤ a
  · rw [decide_eq_true h1] at h
    by_cases h2 : a < n
    · rw [decide_eq_true h2] at h
      by_cases h3 : -1 ≤ b
      · rw [decide_eq_true h3] at h
        by_cases h4 : b < n
        · rw [decide_eq_true h4] at h
          exact ⟨h1, h2, h3, h4, by simpa using h⟩
        · rw [decide_eq_false h4] at h; cases h
      · rw [decide_eq_false h3] at h; cases h
    · rw [decide_eq_false h2] at h; cases h
  · rw [decide_eq_false h1] at h; cases h
section
variable {x : Fl} (h : vF fops x = true)
include h
theorem v_rooms : 1 ≤ x.n0 ∧ x.n0 ≤ 5 ∧ x.n1 = x.n0 ∧ x.n2 ≤ 10 ∧ x.n3 ≤ 8 := rgI_false (vF_true h).1
theorem v_heat {k : Int} (h0 : 0 ≤ k) (h1 : k < x.n0) : hot fops (datF x.r0 0 k) = true ∧ sto fops (datF x.r1 0 k) = true := by
  have := eqFrom_at (q := q1 fops (datF x.r0) (datF x.r1)) (vF_true h).2.1 k h0 (by omega)
  unfold q1 t1 at this
  cases h2 : hot fops (datF x.r0 0 k) with
  | false => rw [h2] at this; cases this
  | true =>
    cases h3 : sto fops (datF x.r1 0 k) with
    | false => rw [h2, h3] at this; cases this
    | true => exact ⟨rfl, rfl⟩
theorem v_wall {k : Int} (h0 : 0 ≤ k) (h1 : k < x.n2) : (0 ≤ datG x.r2 0 k ∧ datG x.r2 0 k < x.n0 ∧ -1 ≤ datG x.r2 1 k ∧ datG x.r2 1 k < x.n0 ∧ datG x.r2 0 k ≠ datG x.r2 1 k) ∧ 1015021568 ≤ datF x.r2 2 k ∧ datF x.r2 2 k ≤ 1120403456 ∧ sto fops (datF x.r2 3 k) = true ∧ hot fops (datF x.r2 4 k) = true ∧ hot fops (datF x.r2 7 k) = true := by
  have := eqFrom_at (q := q2 fops x.n0 (datF x.r2) (datG x.r2)) (vF_true h).2.2.1 k h0 (by omega)
  obtain ⟨a, b, _, _, c⟩ := wallI_true (show wallI fops (sd x.n0 (datG x.r2) k) _ _ _ _ _ _ = true from this)
  obtain ⟨d, e, f, g⟩ := badW_false a
  exact ⟨std_true d, e, f, g, b, c⟩
theorem v_pane {k : Int} (h0 : 0 ≤ k) (h1 : k < x.n3) : (0 ≤ datG x.r3 0 k ∧ datG x.r3 0 k < x.n0 ∧ -1 ≤ datG x.r3 1 k ∧ datG x.r3 1 k < x.n0 ∧ datG x.r3 0 k ≠ datG x.r3 1 k) ∧ datF x.r3 2 k ≤ 1120403456 ∧ datF x.r3 3 k ≤ 1092616192 := by
  have := eqFrom_at (q := q3 fops x.n0 (datF x.r3) (datG x.r3)) (vF_true h).2.2.2 k h0 (by omega)
  unfold q3 at this
  have hb : bP fops x.n0 (datF x.r3) (datG x.r3) k = false := by
    cases hb : bP fops x.n0 (datF x.r3) (datG x.r3) k with
    | false => rfl
    | true => rw [hb] at this; cases this
  obtain ⟨d, e, f⟩ := badP_false hb
  exact ⟨std_true d, e, f⟩
end
/-! ### sums that stay small -/
/-- The words of 0, 65536, 131072, .. -/
def wl : List Nat := [0, 1199570944, 1207959552, 1212153856, 1216348160, 1218445312, 1220542464, 1222639616, 1224736768, 1225785344, 1226833920, 1227882496, 1228931072, 1229979648, 1231028224, 1232076800, 1233125376, 1233649664, 1234173952]
def Wd (k : Nat) : Nat := wl.getD k 0
theorem Wd_all : (List.range 18).all (fun k => Nat.ble (un (Wd k) + un 1199570944) (un (Wd (k + 1))) && (Nat.ble (Wd k) (Wd (k + 1)) && Nat.ble (Wd (k + 1)) 2139095039)) = true := by decide +kernel
theorem Wd_step {k : Nat} (h : k < 18) : un (Wd k) + un 1199570944 ≤ un (Wd (k + 1)) ∧ Wd k ≤ Wd (k + 1) ∧ Wd (k + 1) < 2139095040 := by
  have := List.all_eq_true.1 Wd_all k (List.mem_range.2 h)
  simp only [Bool.and_eq_true, Nat.ble_eq] at this
  exact ⟨this.1, this.2.1, by omega⟩
theorem fold_bd {f : Int → Nat → Nat} {n : Int} (hf : ∀ k s, 0 ≤ k → k < n → f k s = s ∨ ∃ t, Bd t 1199570944 ∧ f k s = fops.bin .add .f32 s t) : ∀ (m : Nat) (k : Int) (s j : Nat), 0 ≤ k → k + m = n → j + m ≤ 18 → Bd s (Wd j) → Bd (foldFrom f k m s) (Wd (j + m)) := by
  intro m
  induction m with
  | zero => intro k s j _ _ _ hs; exact hs
  | succ m ih =>
    intro k s j hk hkn hj hs
    obtain ⟨w1, w2, w3⟩ := Wd_step (show j < 18 by omega)
    have h1 : Bd (f k s) (Wd (j + 1)) := by
      rcases hf k s hk (by omega) with e | ⟨t, ht, e⟩
      · rw [e]; exact hs.mono w2
      · rw [e]; exact Bd.add hs ht w3 w1
    have := ih (k + 1) (f k s) (j + 1) (by omega) (by omega) (by omega) h1
    rw [show j + (m + 1) = j + 1 + m by omega]
    exact this
end
end Go.Proofs.Ytopliajfonpbcaa.Fla
