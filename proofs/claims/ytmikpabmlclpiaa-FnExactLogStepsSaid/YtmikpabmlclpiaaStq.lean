/- The parts of a log's step: the program's are the reference's. Nothing is assumed. -/
import Derived.Test.YtmikpabmlclpiaaStp
import Derived.Test.YtmikpabmlclpiaaBd
namespace Go.Proofs.Ytmikpabmlclpiaa
open Go

/-- What is known of a log on its way. -/
structure Inv (w : Nat → Nat) : Prop where
  cn : ∀ i, i < 18 → Cn .f32 (w i)
  wet : ∀ i, i < 6 → w i ≤ 1092616192
  fuel : ∀ i, i < 6 → w (12 + i) ≤ 1092616192
  heat : ∀ i, i < 6 → fops.cmp .gtr .f32 (w (6 + i)) 1153138688 = false
theorem six_all {f : Nat → Bool} (h : six f = true) : ∀ i, i < 6 → f i = false := by
  unfold six at h
  have : f 0 = false ∧ f 1 = false ∧ f 2 = false ∧ f 3 = false ∧ f 4 = false ∧ f 5 = false := by
    revert h
    cases f 0 <;> cases f 1 <;> cases f 2 <;> cases f 3 <;> cases f 4 <;> cases f 5 <;> simp
  intro i hi
  match i, hi with
  | 0, _ => exact this.1
  | 1, _ => exact this.2.1
  | 2, _ => exact this.2.2.1
  | 3, _ => exact this.2.2.2.1
  | 4, _ => exact this.2.2.2.2.1
  | 5, _ => exact this.2.2.2.2.2
theorem key_word {x : Nat} (h : x ≤ 2139095040) : nanb .f32 x = false ∧ key .f32 x = x := by
  refine ⟨?_, by unfold key; rw [neg_small (by omega), rung_small (by omega)]; rfl⟩
  unfold nanb FloatKind.decode
  rw [read_nan, sw32, inf32]
  simp; omega
theorem leq_gtr {x : Nat} (h : fops.cmp .leq .f32 x 1153138688 = true) : fops.cmp .gtr .f32 x 1153138688 = false := by
  rw [cmp_leq] at h
  rw [cmp_gtr]
  simp only [Bool.and_eq_true, decide_eq_true_eq] at h
  rw [decide_eq_false (by omega), Bool.and_false]
theorem inv_of {w : Nat → Nat} (hc : ∀ i, i < 18 → Cn .f32 (w i)) (h : valid w = true) : Inv w := by
  have h1 := six_all h
  have h2 : ∀ i, i < 6 → good w i = true := fun i hi => by have := h1 i hi; simpa using this
  refine ⟨hc, fun i hi => ?_, fun i hi => ?_, fun i hi => ?_⟩
  · have := h2 i hi; unfold good at this; simp only [Bool.and_eq_true, decide_eq_true_eq] at this; exact this.1
  · have := h2 i hi; unfold good at this; simp only [Bool.and_eq_true, decide_eq_true_eq] at this; rw [Nat.add_comm]; exact this.2.1
  · have := h2 i hi
    unfold good hotB at this
    simp only [Bool.and_eq_true] at this
    rw [Nat.add_comm]
    refine leq_gtr ?_
    have h3 := this.2.2
    revert h3
    cases fops.cmp .geq .f32 (w (i + 6)) 3262119936 <;> simp
/-- A word above a bound, and not above another one. -/
theorem between_words {x lo : Nat} (hc : Cn .f32 x) (hlo : lo < 2139095040) (h1 : fops.cmp .gtr .f32 x lo = true ∨ fops.cmp .geq .f32 x lo = true) (hp : 0 < lo) (h2 : fops.cmp .gtr .f32 x 1153138688 = false) : lo ≤ x ∧ x ≤ 1153138688 := by
  have k1 := key_word (x := lo) (by omega)
  have k2 := key_word (x := 1153138688) (by decide)
  have hlt : x < 4294967296 := hc.lt
  have hx : nanb .f32 x = false ∧ (lo : Int) ≤ key .f32 x := by
    rcases h1 with h1 | h1
    · rw [cmp_gtr, k1.2] at h1
      simp only [Bool.and_eq_true, decide_eq_true_eq, Bool.not_eq_true'] at h1
      exact ⟨h1.1.1, by omega⟩
    · rw [cmp_geq, k1.2] at h1
      simp only [Bool.and_eq_true, decide_eq_true_eq, Bool.not_eq_true'] at h1
      exact ⟨h1.1.1, by omega⟩
  rw [cmp_gtr, hx.1, k2.1, k2.2] at h2
  simp only [Bool.not_false, Bool.true_and, decide_eq_false_iff_not] at h2
  have hk := hx.2
  rw [key32 hc] at hk h2
  split at hk
  · rename_i hs
    rw [if_pos hs] at h2
    omega
  · omega
def Share (t : Nat) : Prop := t ≤ 1065353216
theorem share_of {t : Nat} (h : shareB fops t = true) : Share t := by
  unfold shareB at h
  cases h1 : decide (t < 2139095040) with
  | false => rw [h1] at h; cases h
  | true =>
    rw [h1] at h
    have h2 := of_decide_eq_true h1
    have k1 := key_word (x := t) (by omega)
    have k2 := key_word (x := 1065353216) (by decide)
    simp only [cond_true] at h
    rw [cmp_leq, k1.1, k2.1, k1.2, k2.2] at h
    simp only [Bool.not_false, Bool.true_and, decide_eq_true_eq] at h
    unfold Share; omega
/-- What is left of a heat above 'lo'. -/
theorem less_word {x lo r : Nat} (h1 : lo ≤ x) (h2 : x ≤ 1153138688) (hr : un 1153138688 ≤ un r + un lo) : fops.bin .sub .f32 x lo ≤ r := by
  have fx := fin_small (x := x) (by omega)
  have fy := fin_small (x := lo) (by omega)
  obtain ⟨h3, h4⟩ := sub_form fx fy
  rw [val_small (x := x) (by omega), val_small (x := lo) (by omega)] at h3 h4
  have a1 : un lo ≤ un x := un_le h1
  have a2 : un x ≤ un 1153138688 := un_le h2
  refine word_of bin_cn ?_ (h3.le r ?_)
  · rcases Int.lt_or_le 0 ((units FloatKind.f32.format.binade x : Nat) - (units FloatKind.f32.format.binade lo : Nat) : Int) with h5 | h5
    · exact h3.pos h5
    · exact h4 (neg_small (by omega)) (by unfold un at a1; omega)
  · have e1 : units FloatKind.f32.format.binade x = un x := rfl
    have e2 : units FloatKind.f32.format.binade lo = un lo := rfl
    rw [e1, e2]
    generalize un x = p at *
    generalize un lo = q at *
    generalize un r = s at *
    generalize un 1153138688 = c at *
    omega
theorem Xd_le {h t : Nat} (h1 : 1120403456 ≤ h) (h2 : h ≤ 1153138688) (ht : Share t) : Xd fops h t ≤ 1077936128 := by
  unfold Xd
  have a := less_word (r := 1152319488) h1 h2 (by decide +kernel)
  have b := (mul_le (x := fops.bin .sub .f32 h 1120403456) (y := 990057071) (r := 1077936128) (by omega) (by decide) (Nat.le_trans (Nat.mul_le_mul_right _ (un_le a)) (by decide +kernel))).1
  unfold Share at ht
  exact (mul_le (r := 1077936128) (by omega) (by omega) (Nat.le_trans (Nat.mul_le_mul (un_le b) (un_le ht)) (by decide +kernel))).1
theorem Xb_le {h a t : Nat} (h1 : 1132068864 ≤ h) (h2 : h ≤ 1153138688) (ha : Share a) (ht : Share t) : Xb fops h a t ≤ 1073741824 := by
  unfold Xb
  have c := less_word (r := 1151090688) h1 h2 (by decide +kernel)
  have b := (mul_le (x := fops.bin .sub .f32 h 1132068864) (y := 981668463) (r := 1073741824) (by omega) (by decide) (Nat.le_trans (Nat.mul_le_mul_right _ (un_le c)) (by decide +kernel))).1
  unfold Share at ha ht
  have d := (mul_le (r := 1073741824) (by omega) (by omega : a < 2139095040) (Nat.le_trans (Nat.mul_le_mul (un_le b) (un_le ha)) (by decide +kernel))).1
  exact (mul_le (r := 1073741824) (by omega) (by omega) (Nat.le_trans (Nat.mul_le_mul (un_le d) (un_le ht)) (by decide +kernel))).1
theorem mn_eq {a x : Nat} (ha : a ≤ 2139095040) (hx : x ≤ 2139095040) : mnI fops a x = mnS fops a x := less_eq ha hx
theorem mn_le {a x : Nat} (ha : a ≤ 2139095040) (hx : x ≤ 2139095040) : mnI fops a x ≤ a := by
  unfold mnI
  have k1 := key_word ha
  have k2 := key_word hx
  rw [cmp_lss, k1.1, k2.1, k1.2, k2.2]
  by_cases h : a < x
  · rw [decide_eq_true (by omega : (a : Int) < x)]; exact Nat.le_refl _
  · rw [decide_eq_false (by omega : ¬ (a : Int) < x)]
    show x ≤ a
    omega
theorem cn_small {x : Nat} (h : x ≤ 2139095040) : Cn .f32 x := ⟨x, Nat.lt_of_le_of_lt h (by decide +kernel), by
  have := (key_word h).1
  unfold nanb at this
  simp [can, this]⟩
theorem bif_not {α : Type} (b : Bool) (x y : α) : (bif !b then x else y) = bif b then y else x := by cases b <;> rfl

section
variable {w : Nat → Nat} (hw : Inv w)
include hw
theorem hot_word {i : Nat} (hi : i < 6) (h : hot fops (w (6 + i)) = true) : 1120403456 ≤ w (6 + i) ∧ w (6 + i) ≤ 1153138688 :=
  between_words (hw.cn _ (by omega)) (by decide) (.inl h) (by decide) (hw.heat i hi)
theorem dI_le {t i : Nat} (hi : i < 6) (ht : Share t) (h : hot fops (w (6 + i)) = true) : dI fops w t i = dS fops w t i ∧ dI fops w t i ≤ w i := by
  obtain ⟨h1, h2⟩ := hot_word hw hi h
  have hx := Xd_le h1 h2 ht
  have ha := hw.wet i hi
  exact ⟨mn_eq (by omega) (by omega), mn_le (by omega) (by omega)⟩
theorem wet_eq {t i : Nat} (hi : i < 6) (ht : Share t) : wetI fops w t i = wetS fops w t i := by
  unfold wetI wetS
  rw [bif_not]
  cases h : hot fops (w (6 + i)) with
  | false => rfl
  | true => rw [(dI_le hw hi ht h).1]
theorem ht_eq {t i : Nat} (hi : i < 6) (ht : Share t) : htI fops w t i = htS fops w t i := by
  unfold htI htS
  rw [bif_not]
  cases h : hot fops (w (6 + i)) with
  | false => rfl
  | true => rw [(dI_le hw hi ht h).1]
theorem dry_eq {t : Nat} (ht : Share t) : dryI fops w t = dryS fops w t := by
  unfold dryI dryS
  rw [wet_eq hw (i := 0) (by decide) ht, wet_eq hw (i := 1) (by decide) ht, wet_eq hw (i := 2) (by decide) ht, wet_eq hw (i := 3) (by decide) ht, wet_eq hw (i := 4) (by decide) ht, wet_eq hw (i := 5) (by decide) ht,
    ht_eq hw (i := 0) (by decide) ht, ht_eq hw (i := 1) (by decide) ht, ht_eq hw (i := 2) (by decide) ht, ht_eq hw (i := 3) (by decide) ht, ht_eq hw (i := 4) (by decide) ht, ht_eq hw (i := 5) (by decide) ht]
end
/-- Sums of up to six numbers. -/
def tens : Nat → Nat
  | 0 => 0
  | 1 => 1092616192
  | 2 => 1101004800
  | 3 => 1106247680
  | 4 => 1109393408
  | 5 => 1112014848
  | _ => 1114636288
def heats : Nat → Nat
  | 0 => 0
  | 1 => 1195593728
  | 2 => 1203982336
  | 3 => 1209170944
  | 4 => 1212370944
  | 5 => 1215570944
  | _ => 1217559552
theorem tens_step (i : Nat) (hi : i < 6) : tens i < 2139095040 ∧ un (tens i) + un 1092616192 ≤ un (tens (i + 1)) := by
  match i, hi with
  | 0, _ => decide +kernel
  | 1, _ => decide +kernel
  | 2, _ => decide +kernel
  | 3, _ => decide +kernel
  | 4, _ => decide +kernel
  | 5, _ => decide +kernel
theorem heats_step (i : Nat) (hi : i < 6) : heats i < 2139095040 ∧ un (heats i) + un 1195593728 ≤ un (heats (i + 1)) := by
  match i, hi with
  | 0, _ => decide +kernel
  | 1, _ => decide +kernel
  | 2, _ => decide +kernel
  | 3, _ => decide +kernel
  | 4, _ => decide +kernel
  | 5, _ => decide +kernel
/-- A sum from nought on that leaves some out is the sum in which they count nought. -/
theorem sums_eq {off : Nat → Bool} {x : Nat → Nat} {B : Nat → Nat} {c : Nat} (hc : c < 2139095040) (hB : ∀ i, i < 6 → B i < 2139095040 ∧ un (B i) + un c ≤ un (B (i + 1))) (hx : ∀ i, i < 6 → off i = false → x i ≤ c) {A S : Nat → Nat}
    (hA0 : A 0 = 0) (hA : ∀ i, i < 6 → A (i + 1) = bif off i then A i else fops.bin .add .f32 (A i) (x i)) (hS0 : S 0 = bif off 0 then 0 else x 0) (hS : ∀ i, i + 1 < 6 → S (i + 1) = fops.bin .add .f32 (S i) (bif off (i + 1) then 0 else x (i + 1))) :
    ∀ i, i < 6 → A (i + 1) = S i ∧ S i ≤ B (i + 1) := by
  have b0 : ∀ i, i < 6 → B i ≤ B (i + 1) := fun i hi => by
    have := (hB i hi).2
    rcases Nat.lt_or_ge (B (i + 1)) (B i) with h | h
    · have : un (B (i + 1)) < un (B i) := units_lt (binade_pos .f32) h
      omega
    · exact h
  have c0 : c ≤ B 1 := by
    have := (hB 0 (by decide)).2
    rw [Nat.zero_add] at this
    rcases Nat.lt_or_ge (B 1) c with h | h
    · have : un (B 1) < un c := units_lt (binade_pos .f32) h
      omega
    · exact h
  intro i
  induction i with
  | zero =>
    intro h0
    rw [hA 0 h0, hS0, hA0]
    cases h : off 0 with
    | true => exact ⟨rfl, Nat.zero_le _⟩
    | false =>
      have h1 := hx 0 (by decide) h
      simp only [cond_false]
      exact ⟨(add_zero (cn_small (by omega)) (by omega)).2, Nat.le_trans h1 c0⟩
  | succ i ih =>
    intro hi
    obtain ⟨e1, e2⟩ := ih (by omega)
    have b1 := hB (i + 1) hi
    rw [hA _ hi, hS _ hi, e1]
    cases h : off (i + 1) with
    | true =>
      simp only [cond_true]
      exact ⟨(add_zero (cn_small (by omega)) (by omega)).1.symm, by rw [(add_zero (cn_small (by omega)) (by omega)).1]; exact Nat.le_trans e2 (b0 _ hi)⟩
    | false =>
      simp only [cond_false]
      exact ⟨trivial, add_amt e2 (hx (i + 1) hi h) b1.1 hc b1.2⟩
theorem on_off (w : Nat → Nat) (i : Nat) : onS fops w i = !offI fops w i := by
  unfold onS offI
  cases fops.cmp .geq .f32 (w (6 + i)) 1132068864 <;> cases fops.cmp .lss .f32 (w i) 1040187392 <;> rfl
section
variable {w : Nat → Nat} (hw : Inv w)
include hw
theorem steam_eq {t : Nat} (ht : Share t) : smI fops w t 6 = smS fops w t 5 ∧ smS fops w t 5 ≤ 1114636288 := by
  have hd : ∀ i, i < 6 → (bif hot fops (w (6 + i)) then dS fops w t i else 0) = bif !hot fops (w (6 + i)) then 0 else dI fops w t i := by
    intro i hi
    cases h : hot fops (w (6 + i)) with
    | false => rfl
    | true => exact (dI_le hw hi ht h).1.symm
  exact sums_eq (off := fun i => !hot fops (w (6 + i))) (x := dI fops w t) (B := tens) (c := 1092616192) (A := smI fops w t) (S := smS fops w t) (by decide) tens_step (fun i hi h => by
      have h' : hot fops (w (6 + i)) = true := by simpa using h
      exact Nat.le_trans (dI_le hw hi ht h').2 (hw.wet i hi)) rfl (fun i _ => rfl) (hd 0 (by decide)) (fun i hi => by
      show fops.bin .add .f32 (smS fops w t i) (bif hot fops (w (7 + i)) then dS fops w t (i + 1) else 0) = _
      rw [show 7 + i = 6 + (i + 1) by omega, hd (i + 1) hi]) 5 (by decide)
theorem on_word {i : Nat} (hi : i < 6) (h : offI fops w i = false) : 1132068864 ≤ w (6 + i) ∧ w (6 + i) ≤ 1153138688 := by
  unfold offI at h
  refine between_words (hw.cn _ (by omega)) (by decide) (.inr ?_) (by decide) (hw.heat i hi)
  cases h2 : fops.cmp .geq .f32 (w (6 + i)) 1132068864 with
  | true => rfl
  | false => rw [h2] at h; cases h
theorem buI_le {a t i : Nat} (hi : i < 6) (ha : Share a) (ht : Share t) (h : offI fops w i = false) : buI fops w a t i = buS fops w a t i ∧ buI fops w a t i ≤ w (12 + i) := by
  obtain ⟨h1, h2⟩ := on_word hw hi h
  have hx := Xb_le h1 h2 ha ht
  have ha := hw.fuel i hi
  exact ⟨mn_eq (by omega) (by omega), mn_le (by omega) (by omega)⟩
theorem bh_eq {a t i : Nat} (hi : i < 6) (ha : Share a) (ht : Share t) : bhI fops w a t i = bhS fops w a t i := by
  unfold bhI bhS
  rw [on_off w, bif_not]
  cases h : offI fops w i with
  | true => rfl
  | false =>
    rw [(buI_le hw hi ha ht h).1]
    simp only [cond_false]
    unfold mnS
    have : ∀ q c, fops.cmp .gtr .f32 q c = fops.cmp .lss .f32 c q := fun q c => by
      rw [cmp_gtr, cmp_lss, Bool.and_comm (!nanb .f32 q)]
    rw [this]
theorem fu_eq {a t i : Nat} (hi : i < 6) (ha : Share a) (ht : Share t) : fuI fops w a t i = fuS fops w a t i := by
  unfold fuI fuS
  rw [on_off w, bif_not]
  cases h : offI fops w i with
  | true => rfl
  | false => rw [(buI_le hw hi ha ht h).1]
theorem burn_eq {a t : Nat} (ha : Share a) (ht : Share t) : burnI fops w a t = burnS fops w a t := by
  unfold burnI burnS
  rw [bh_eq hw (i := 0) (by decide) ha ht, bh_eq hw (i := 1) (by decide) ha ht, bh_eq hw (i := 2) (by decide) ha ht, bh_eq hw (i := 3) (by decide) ha ht, bh_eq hw (i := 4) (by decide) ha ht, bh_eq hw (i := 5) (by decide) ha ht,
    fu_eq hw (i := 0) (by decide) ha ht, fu_eq hw (i := 1) (by decide) ha ht, fu_eq hw (i := 2) (by decide) ha ht, fu_eq hw (i := 3) (by decide) ha ht, fu_eq hw (i := 4) (by decide) ha ht, fu_eq hw (i := 5) (by decide) ha ht]
theorem burnt_eq {a t : Nat} (ha : Share a) (ht : Share t) : fsI fops w a t 6 = fsS fops w a t 5 ∧ fsS fops w a t 5 ≤ 1114636288 := by
  have hd : ∀ i, i < 6 → (bif onS fops w i then buS fops w a t i else 0) = bif offI fops w i then 0 else buI fops w a t i := by
    intro i hi
    rw [on_off w]
    cases h : offI fops w i with
    | true => rfl
    | false => exact (buI_le hw hi ha ht h).1.symm
  exact sums_eq (off := offI fops w) (x := buI fops w a t) (B := tens) (c := 1092616192) (A := fsI fops w a t) (S := fsS fops w a t) (by decide) tens_step (fun i hi h => Nat.le_trans (buI_le hw hi ha ht h).2 (hw.fuel i hi)) rfl (fun i _ => rfl) (hd 0 (by decide)) (fun i hi => by
      show fops.bin .add .f32 (fsS fops w a t i) (bif onS fops w (i + 1) then buS fops w a t (i + 1) else 0) = _
      rw [hd (i + 1) hi]) 5 (by decide)
theorem given_eq {a t : Nat} (ha : Share a) (ht : Share t) : hsI fops w a t 6 = hsS fops w a t 5 ∧ hsS fops w a t 5 ≤ 1217559552 := by
  have z : fops.bin .mul .f32 1167867904 0 = 0 := by decide +kernel
  have hd : ∀ i, i < 6 → fops.bin .mul .f32 1167867904 (bif onS fops w i then buS fops w a t i else 0) = bif offI fops w i then 0 else fops.bin .mul .f32 1167867904 (buI fops w a t i) := by
    intro i hi
    rw [on_off w]
    cases h : offI fops w i with
    | true => exact z
    | false => rw [(buI_le hw hi ha ht h).1]; rfl
  exact sums_eq (off := offI fops w) (x := fun i => fops.bin .mul .f32 1167867904 (buI fops w a t i)) (B := heats) (c := 1195593728) (A := hsI fops w a t) (S := hsS fops w a t) (by decide) heats_step (fun i hi h => by
      have h1 := Nat.le_trans (buI_le hw hi ha ht h).2 (hw.fuel i hi)
      exact (mul_le (r := 1195593728) (by decide) (by omega) (Nat.le_trans (Nat.mul_le_mul_left _ (un_le h1)) (by decide +kernel))).1) rfl (fun i _ => rfl) (hd 0 (by decide)) (fun i hi => by
      show fops.bin .add .f32 (hsS fops w a t i) (fops.bin .mul .f32 1167867904 (bif onS fops w (i + 1) then buS fops w a t (i + 1) else 0)) = _
      rw [hd (i + 1) hi]) 5 (by decide)
end

/-! ### what stays of it -/
theorem six_of {P : Nat → Prop} (h0 : P 0) (h1 : P 1) (h2 : P 2) (h3 : P 3) (h4 : P 4) (h5 : P 5) : ∀ i, i < 6 → P i := by
  intro i hi
  match i, hi with
  | 0, _ => exact h0
  | 1, _ => exact h1
  | 2, _ => exact h2
  | 3, _ => exact h3
  | 4, _ => exact h4
  | 5, _ => exact h5
theorem inv_mk {x y z : Nat → Nat} (hx : ∀ i, i < 6 → x i ≤ 1092616192) (hz : ∀ i, i < 6 → z i ≤ 1092616192) (hy : ∀ i, i < 6 → Cn .f32 (y i) ∧ fops.cmp .gtr .f32 (y i) 1153138688 = false) :
    Inv (fun j => [x 0, x 1, x 2, x 3, x 4, x 5, y 0, y 1, y 2, y 3, y 4, y 5, z 0, z 1, z 2, z 3, z 4, z 5].getD j 0) := by
  have cx : ∀ i, i < 6 → Cn .f32 (x i) := fun i hi => cn_small (by have := hx i hi; omega)
  have cz : ∀ i, i < 6 → Cn .f32 (z i) := fun i hi => cn_small (by have := hz i hi; omega)
  refine ⟨fun i hi => ?_, six_of (hx 0 (by decide)) (hx 1 (by decide)) (hx 2 (by decide)) (hx 3 (by decide)) (hx 4 (by decide)) (hx 5 (by decide)),
    six_of (hz 0 (by decide)) (hz 1 (by decide)) (hz 2 (by decide)) (hz 3 (by decide)) (hz 4 (by decide)) (hz 5 (by decide)),
    six_of (hy 0 (by decide)).2 (hy 1 (by decide)).2 (hy 2 (by decide)).2 (hy 3 (by decide)).2 (hy 4 (by decide)).2 (hy 5 (by decide)).2⟩
  match i, hi with
  | 0, _ => exact cx 0 (by decide)
  | 1, _ => exact cx 1 (by decide)
  | 2, _ => exact cx 2 (by decide)
  | 3, _ => exact cx 3 (by decide)
  | 4, _ => exact cx 4 (by decide)
  | 5, _ => exact cx 5 (by decide)
  | 6, _ => exact (hy 0 (by decide)).1
  | 7, _ => exact (hy 1 (by decide)).1
  | 8, _ => exact (hy 2 (by decide)).1
  | 9, _ => exact (hy 3 (by decide)).1
  | 10, _ => exact (hy 4 (by decide)).1
  | 11, _ => exact (hy 5 (by decide)).1
  | 12, _ => exact cz 0 (by decide)
  | 13, _ => exact cz 1 (by decide)
  | 14, _ => exact cz 2 (by decide)
  | 15, _ => exact cz 3 (by decide)
  | 16, _ => exact cz 4 (by decide)
  | 17, _ => exact cz 5 (by decide)
  | n + 18, h => exact absurd h (by omega)
theorem cn_const {x : Nat} (h : x < 4294967296) (hn : nanb .f32 x = false) : Cn .f32 x := ⟨x, Nat.lt_of_lt_of_le h (by decide +kernel), by
  unfold nanb at hn
  simp [can, hn]⟩
theorem held_ok {x : Nat} (hx : Cn .f32 x) : Cn .f32 (heldH fops x) ∧ fops.cmp .gtr .f32 (heldH fops x) 1153138688 = false := by
  unfold heldH
  cases h1 : fops.cmp .lss .f32 x 3262119936 with
  | true =>
      simp only [cond_true, cond_false]
      exact ⟨cn_const (by decide) (by decide +kernel), by decide +kernel⟩
  | false =>
    cases h2 : fops.cmp .gtr .f32 x 1153138688 with
    | true =>
      simp only [cond_true, cond_false]
      exact ⟨cn_const (by decide) (by decide +kernel), by decide +kernel⟩
    | false => exact ⟨hx, h2⟩
theorem warm_inv {w : Nat → Nat} (hw : Inv w) (a t : Nat) : Inv (warmW fops w a t) :=
  inv_mk (x := w) (y := heatW fops w a t) (z := fun i => w (12 + i)) hw.wet hw.fuel fun i _ => held_ok bin_cn
theorem mass_lt {x y : Nat} (hx : x ≤ 1092616192) (hy : y ≤ 1092616192) : mass fops x y < 2147483648 := by
  unfold mass
  have a := (mul_le (x := x) (y := 1082130432) (r := 1109393408) (by omega) (by decide) (Nat.le_trans (Nat.mul_le_mul_right _ (un_le hx)) (by decide +kernel))).1
  have b := (mul_le (x := y) (y := 1073741824) (r := 1101004800) (by omega) (by decide) (Nat.le_trans (Nat.mul_le_mul_right _ (un_le hy)) (by decide +kernel))).1
  have c := add_amt (r := 1114636288) a b (by decide) (by decide) (by decide +kernel)
  have d := add_amt (y := 1048576000) (b := 1048576000) (r := 1114898432) c (Nat.le_refl _) (by decide) (by decide) (by decide +kernel)
  omega
theorem dry_inv {w : Nat → Nat} (hw : Inv w) {t : Nat} (ht : Share t) : Inv (dryI fops w t) := by
  refine inv_mk (x := wetI fops w t) (y := htI fops w t) (z := fun i => w (12 + i)) (fun i hi => ?_) hw.fuel fun i hi => ?_
  · unfold wetI
    cases h : hot fops (w (6 + i)) with
    | false => exact hw.wet i hi
    | true =>
      have h1 := hw.wet i hi
      exact Nat.le_trans (sub_amt (by omega) (dI_le hw hi ht h).2) h1
  · unfold htI
    cases h : hot fops (w (6 + i)) with
    | false => exact ⟨hw.cn _ (by omega), hw.heat i hi⟩
    | true =>
      simp only [Bool.not_true, cond_false]
      unfold dryH
      cases h2 : fops.cmp .lss .f32 (fops.bin .sub .f32 (w (6 + i)) (fops.bin .quo .f32 (fops.bin .mul .f32 1157234688 (dI fops w t i)) (mass fops (w i) (w (12 + i))))) 1120403456 with
      | true =>
      simp only [cond_true, cond_false]
      exact ⟨cn_const (by decide) (by decide +kernel), by decide +kernel⟩
      | false =>
        have h3 := (dI_le hw hi ht h).2
        have h4 := hw.wet i hi
        have h5 := mul_pos (x := 1157234688) (y := dI fops w t i) (by decide) (by omega)
        exact ⟨bin_cn, sub_not_gt (hot_word hw hi h).2 (by decide) (quo_pos h5 (mass_lt h4 (hw.fuel i hi)))⟩
theorem burn_inv {w : Nat → Nat} (hw : Inv w) {a t : Nat} (ha : Share a) (ht : Share t) : Inv (burnI fops w a t) := by
  refine inv_mk (x := w) (y := bhI fops w a t) (z := fuI fops w a t) hw.wet (fun i hi => ?_) fun i hi => ?_
  · unfold fuI
    cases h : offI fops w i with
    | true => exact hw.fuel i hi
    | false =>
      have h1 := hw.fuel i hi
      exact Nat.le_trans (sub_amt (by omega) (buI_le hw hi ha ht h).2) h1
  · unfold bhI
    cases h : offI fops w i with
    | true => exact ⟨hw.cn _ (by omega), hw.heat i hi⟩
    | false =>
      simp only [cond_false]
      cases h2 : fops.cmp .gtr .f32 (bq fops (buI fops w a t i) (w (6 + i)) (mass fops (w i) (w (12 + i)))) 1153138688 with
      | true =>
      simp only [cond_true, cond_false]
      exact ⟨cn_const (by decide) (by decide +kernel), by decide +kernel⟩
      | false => exact ⟨bin_cn, h2⟩
/-- What flows in is at most half of all if it is a number. -/
theorem flow_bd {w : Nat → Nat} {a t : Nat} (ht : Share t) (h : isNum (flow fops w a t 0) = true) : Bd (flow fops w a t 0) 2130706431 := by
  unfold flow at h ⊢
  have h1 := (mul_num h).1
  have h2 := (mul_num h1).2
  unfold Share at ht
  have h3 := Bd.mul (x := 1056964608) (a := 1056964608) (r := 2130706431) (bd_small (Nat.le_refl _) (by decide)) (num_bd h2) (by decide) (by decide +kernel)
  exact Bd.mul h3 (bd_small ht (by decide)) (by decide) (by decide +kernel)
/-- The numbers of a step are finite if what flows in is. -/
theorem step_num {w v : Nat → Nat} (hv : Inv v) {a b t : Nat} (ha : Share a) (ht : Share t) (h : isNum (flow fops w b t 0) = true) : isNum (fops.bin .sub .f32 (hsI fops v a t 6) (flow fops w b t 0)) = true := by
  have h1 := (given_eq hv ha ht).1
  have h2 := (given_eq hv ha ht).2
  rw [h1]
  exact (Bd.sub (bd_small h2 (by decide)) (flow_bd ht h) (r := 2139095039) (by decide) (by decide +kernel)).num
theorem back_cn {w : Nat → Nat} (hc : ∀ i, i < 18 → Cn .f32 (w i)) : ∀ i, i < 18 → Cn .f32 (back w i) := by
  intro i hi
  match i, hi with
  | 0, h => exact hc 0 h
  | 1, h => exact hc 1 h
  | 2, h => exact hc 2 h
  | 3, h => exact hc 3 h
  | 4, h => exact hc 4 h
  | 5, h => exact hc 5 h
  | 6, h => exact hc 6 h
  | 7, h => exact hc 7 h
  | 8, h => exact hc 8 h
  | 9, h => exact hc 9 h
  | 10, h => exact hc 10 h
  | 11, h => exact hc 11 h
  | 12, h => exact hc 12 h
  | 13, h => exact hc 13 h
  | 14, h => exact hc 14 h
  | 15, h => exact hc 15 h
  | 16, h => exact hc 16 h
  | 17, h => exact hc 17 h
  | n + 18, h => exact absurd h (by omega)
theorem word_num {x : Nat} (h : x ≤ 1114636288) : isNum x = true := (fin_small (by omega)).num
end Go.Proofs.Ytmikpabmlclpiaa
