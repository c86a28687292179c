/- Floats up to the bits of a NaN: what the model's operations give. Nothing is assumed. -/
import Derived.Test.YtaodbpejeglmlaaDoorSd
namespace Go.Proofs.YtaodbpejeglmlaaDoor
open Go

theorem rung_word (f : Ieee.Format) (neg : Bool) {rung : Nat} (h : rung < f.signWeight) : f.word neg rung % f.signWeight = rung := by
  unfold Ieee.Format.word
  split
  · rw [Nat.add_mod_left, Nat.mod_eq_of_lt h]
  · exact Nat.mod_eq_of_lt h
theorem read_nan (f : Ieee.Format) (x : Nat) : (f.read x).isNaN = decide (f.infRung < x % f.signWeight ∧ f.binade ≤ x % f.signWeight) := by
  unfold Ieee.Format.read
  dsimp only
  split
  · simp [Ieee.Datum.isNaN]; omega
  · split
    · simp [Ieee.Datum.isNaN]; omega
    · split
      · simp [Ieee.Datum.isNaN]; omega
      · simp [Ieee.Datum.isNaN]; omega
theorem write_not_nan (f : Ieee.Format) (d : Ieee.Datum) (h : d.isNaN = false) : (f.read (f.write d)).isNaN = false := by
  rw [read_nan]
  cases d with
  | nan s t => simp [Ieee.Datum.isNaN] at h
  | infinity s =>
    simp only [Ieee.Format.write, rung_word f s f.infRung_lt]
    simp
  | number s m e =>
    simp only [Ieee.Format.write, Ieee.Format.nearest]
    split
    · have : 0 < f.signWeight := Nat.two_pow_pos _
      rw [rung_word f s this]; simp
    · have h1 := Nat.min_le_right
      rw [rung_word f s (Nat.lt_of_le_of_lt (Nat.min_le_right ..) f.infRung_lt)]
      simp only [decide_eq_false_iff_not, not_and, Nat.not_le]
      intro h2
      exact absurd (Nat.min_le_right ..) (Nat.not_le.2 h2)
theorem sum_not_nan : ∀ {a b c : Ieee.Datum}, a.sum b = some c → c.isNaN = false
  | .nan .., _, _, h => by simp [Ieee.Datum.sum] at h
  | .number .., .nan .., _, h => by simp [Ieee.Datum.sum] at h
  | .infinity .., .nan .., _, h => by simp [Ieee.Datum.sum] at h
  | .infinity s, .infinity t, c, h => by simp only [Ieee.Datum.sum] at h; split at h <;> cases h; rfl
  | .infinity s, .number .., c, h => by cases h; rfl
  | .number .., .infinity s, c, h => by cases h; rfl
  | .number .., .number .., c, h => by cases h; rfl
theorem product_not_nan : ∀ {a b c : Ieee.Datum}, a.product b = some c → c.isNaN = false
  | .nan .., _, _, h => by simp [Ieee.Datum.product] at h
  | .number .., .nan .., _, h => by simp [Ieee.Datum.product] at h
  | .infinity .., .nan .., _, h => by simp [Ieee.Datum.product] at h
  | .infinity s, .infinity t, c, h => by cases h; rfl
  | .infinity s, .number .., c, h => by simp only [Ieee.Datum.product] at h; split at h <;> cases h; rfl
  | .number .., .infinity s, c, h => by simp only [Ieee.Datum.product] at h; split at h <;> cases h; rfl
  | .number .., .number .., c, h => by cases h; rfl
theorem quotient_not_nan {n : Nat} : ∀ {a b c : Ieee.Datum}, a.quotient n b = some c → c.isNaN = false
  | .nan .., _, _, h => by simp [Ieee.Datum.quotient] at h
  | .number .., .nan .., _, h => by simp [Ieee.Datum.quotient] at h
  | .infinity .., .nan .., _, h => by simp [Ieee.Datum.quotient] at h
  | .infinity s, .infinity t, c, h => by simp [Ieee.Datum.quotient] at h
  | .infinity s, .number .., c, h => by cases h; rfl
  | .number .., .infinity s, c, h => by cases h; rfl
  | .number .., .number .., c, h => by
    simp only [Ieee.Datum.quotient] at h
    split at h
    · split at h <;> cases h; rfl
    · cases h; rfl
theorem floatBits_not_nan {op : BinOp} {k : FloatKind} {x y r : Nat} (h : floatBits op k x y = some r) : (k.decode r).isNaN = false := by
  have key : ∀ d : Option Ieee.Datum, d.map k.format.write = some r → (∀ c, d = some c → c.isNaN = false) → (k.decode r).isNaN = false := by
    intro d hd hc
    cases d with
    | none => cases hd
    | some c => cases hd; exact write_not_nan _ _ (hc c rfl)
  unfold floatBits at h
  split at h
  · exact key _ h fun c hc => sum_not_nan hc
  · exact key _ h fun c hc => sum_not_nan hc
  · exact key _ h fun c hc => product_not_nan hc
  · exact key _ h fun c hc => quotient_not_nan hc
  · cases h

theorem floatBits_lt {op : BinOp} {k : FloatKind} {x y r : Nat} (h : floatBits op k x y = some r) : r < 2 ^ k.format.width := by
  unfold floatBits at h
  split at h
  · exact k.format.add_lt h
  · exact k.format.sub_lt h
  · exact k.format.mul_lt h
  · exact k.format.div_lt h
  · cases h
theorem qnan_nan (k : FloatKind) : (k.decode (qnan k)).isNaN = true := by cases k <;> decide +kernel
theorem can_cases (k : FloatKind) (r : Nat) : ((k.decode r).isNaN = true ∧ can k r = qnan k) ∨ ((k.decode r).isNaN = false ∧ can k r = r) := by
  unfold can
  cases h : (k.decode r).isNaN
  · exact .inr ⟨rfl, by simp⟩
  · exact .inl ⟨rfl, by simp⟩
theorem can_nan (k : FloatKind) (r : Nat) : (k.decode (can k r)).isNaN = (k.decode r).isNaN := by
  rcases can_cases k r with ⟨h1, h2⟩ | ⟨h1, h2⟩
  · rw [h1, h2]; exact qnan_nan k
  · rw [h2]
theorem can_can (k : FloatKind) (r : Nat) : can k (can k r) = can k r := by
  rcases can_cases k r with ⟨h1, h2⟩ | ⟨h1, h2⟩
  · rw [h2]; simp [can, qnan_nan]
  · rw [h2, h2]
theorem sum_nan_l {a : Ieee.Datum} (b : Ieee.Datum) (h : a.isNaN = true) : a.sum b = none := by
  cases a <;> simp [Ieee.Datum.isNaN] at h; simp [Ieee.Datum.sum]
theorem sum_nan_r (a : Ieee.Datum) {b : Ieee.Datum} (h : b.isNaN = true) : a.sum b = none := by
  cases b <;> simp [Ieee.Datum.isNaN] at h; cases a <;> simp [Ieee.Datum.sum]
theorem opp_nan {b : Ieee.Datum} : b.opposite.isNaN = b.isNaN := by cases b <;> rfl
theorem product_nan_l {a : Ieee.Datum} (b : Ieee.Datum) (h : a.isNaN = true) : a.product b = none := by
  cases a <;> simp [Ieee.Datum.isNaN] at h; simp [Ieee.Datum.product]
theorem product_nan_r (a : Ieee.Datum) {b : Ieee.Datum} (h : b.isNaN = true) : a.product b = none := by
  cases b <;> simp [Ieee.Datum.isNaN] at h; cases a <;> simp [Ieee.Datum.product]
theorem quotient_nan_l {n : Nat} {a : Ieee.Datum} (b : Ieee.Datum) (h : a.isNaN = true) : a.quotient n b = none := by
  cases a <;> simp [Ieee.Datum.isNaN] at h; simp [Ieee.Datum.quotient]
theorem quotient_nan_r {n : Nat} (a : Ieee.Datum) {b : Ieee.Datum} (h : b.isNaN = true) : a.quotient n b = none := by
  cases b <;> simp [Ieee.Datum.isNaN] at h; cases a <;> simp [Ieee.Datum.quotient]
theorem order_nan_l {a : Ieee.Datum} (b : Ieee.Datum) (h : a.isNaN = true) : a.order b = none := by
  cases a <;> simp [Ieee.Datum.isNaN] at h; simp [Ieee.Datum.order]
theorem order_nan_r (a : Ieee.Datum) {b : Ieee.Datum} (h : b.isNaN = true) : a.order b = none := by
  cases b <;> simp [Ieee.Datum.isNaN] at h; cases a <;> simp [Ieee.Datum.order]
theorem floatBits_nan_l (op : BinOp) (k : FloatKind) {x : Nat} (y : Nat) (h : (k.decode x).isNaN = true) : floatBits op k x y = none := by
  unfold FloatKind.decode at h
  unfold floatBits
  split
  · simp [Ieee.Format.add, sum_nan_l _ h]
  · simp [Ieee.Format.sub, sum_nan_l _ h]
  · simp [Ieee.Format.mul, product_nan_l _ h]
  · simp [Ieee.Format.div, quotient_nan_l _ h]
  · rfl
theorem floatBits_nan_r (op : BinOp) (k : FloatKind) (x : Nat) {y : Nat} (h : (k.decode y).isNaN = true) : floatBits op k x y = none := by
  unfold FloatKind.decode at h
  unfold floatBits
  split
  · simp [Ieee.Format.add, sum_nan_r _ h]
  · simp [Ieee.Format.sub, sum_nan_r _ (opp_nan.trans h)]
  · simp [Ieee.Format.mul, product_nan_r _ h]
  · simp [Ieee.Format.div, quotient_nan_r _ h]
  · rfl
theorem floatBits_can (op : BinOp) (k : FloatKind) (x y : Nat) : floatBits op k (can k x) (can k y) = floatBits op k x y := by
  rcases can_cases k x with ⟨h1, h2⟩ | ⟨h1, h2⟩
  · rw [floatBits_nan_l op k y h1, floatBits_nan_l op k _ (by rw [can_nan]; exact h1)]
  · rcases can_cases k y with ⟨h3, h4⟩ | ⟨h3, h4⟩
    · rw [floatBits_nan_r op k x h3, floatBits_nan_r op k _ (by rw [can_nan]; exact h3)]
    · rw [h2, h4]
theorem order_can (k : FloatKind) (x y : Nat) : k.format.order (can k x) (can k y) = k.format.order x y := by
  unfold Ieee.Format.order
  rcases can_cases k x with ⟨h1, h2⟩ | ⟨h1, h2⟩
  · have h1' := h1; have h3 := can_nan k x; unfold FloatKind.decode at h1' h3
    rw [order_nan_l _ h1', order_nan_l _ (h3.trans h1')]
  · rcases can_cases k y with ⟨h3, h4⟩ | ⟨h3, h4⟩
    · have h1' := h3; have h5 := can_nan k y; unfold FloatKind.decode at h1' h5
      rw [order_nan_r _ h1', order_nan_r _ (h5.trans h1')]
    · rw [h2, h4]

def cmpOrd (op : BinOp) (c : Option Ordering) : Bool :=
  match op with
  | .eql => c == some .eq
  | .neq => c != some .eq
  | .lss => c == some .lt
  | .leq => c == some .lt || c == some .eq
  | .gtr => c == some .gt
  | .geq => c == some .gt || c == some .eq
  | _ => false
noncomputable def fops : FOps where
  bin op k x y := (floatBits op k x y).getD (qnan k)
  cmp op k x y := cmpOrd op (k.format.order x y)
  neg k x := can k (Op.negFloat k x)
  conv s k x := (floatToFloatBits s x k).getD (qnan k)
  convOk s k x := (floatToFloatBits s x k).isSome || (s.decode x).isNaN
  ofInt k n := k.nearest n
  toInt s k x := (floatToIntVal s x k).getD 0
  toIntOk s k x := (floatToIntVal s x k).isSome

theorem width_eq (k : FloatKind) : k.format.width = 1 + k.format.exponentBits + k.format.fractionBits := rfl
/-- A NaN out of the tape is a NaN. -/
theorem tape_nan (k : FloatKind) (x y t : Nat) : ((Question.nanBits k x y).cut t) < 2 ^ k.format.width ∧ (k.decode ((Question.nanBits k x y).cut t)).isNaN = true := by
  unfold FloatKind.decode
  rw [read_nan]
  have e32 : FloatKind.f32.format.width = 32 := rfl
  have e64 : FloatKind.f64.format.width = 64 := rfl
  have s32 : FloatKind.f32.format.signWeight = 2147483648 := by decide +kernel
  have s64 : FloatKind.f64.format.signWeight = 9223372036854775808 := by decide +kernel
  have i32 : FloatKind.f32.format.infRung = 2139095040 := by decide +kernel
  have i64 : FloatKind.f64.format.infRung = 9218868437227405312 := by decide +kernel
  have b32 : FloatKind.f32.format.binade = 8388608 := by decide +kernel
  have b64 : FloatKind.f64.format.binade = 4503599627370496 := by decide +kernel
  have ht : t % 2 = 0 ∨ t % 2 = 1 := by omega
  cases k
  · simp only [Question.cut, e32, s32, i32, b32, decide_eq_true_eq]
    rcases ht with h | h <;> rw [h] <;> omega
  · simp only [Question.cut, e64, s64, i64, b64, decide_eq_true_eq]
    rcases ht with h | h <;> rw [h] <;> omega
theorem tape_nanConv (k : FloatKind) (x t : Nat) : ((Question.nanConv k x).cut t) < 2 ^ k.format.width ∧ (k.decode ((Question.nanConv k x).cut t)).isNaN = true := by
  have h := tape_nan k x x t
  cases k <;> exact h
theorem can_of_nan {k : FloatKind} {r : Nat} (h : (k.decode r).isNaN = true) : can k r = qnan k := by simp [can, h]
theorem can_of_not {k : FloatKind} {r : Nat} (h : (k.decode r).isNaN = false) : can k r = r := by simp [can, h]

theorem neg_nan (k : FloatKind) (r : Nat) : (k.decode (Op.negFloat k r)).isNaN = (k.decode r).isNaN := by
  unfold FloatKind.decode
  rw [read_nan, read_nan]
  have : Op.negFloat k r % k.format.signWeight = r % k.format.signWeight := by
    unfold Op.negFloat Ieee.Format.signWeight
    rw [Nat.xor_mod_two_pow]; simp
  rw [this]
theorem neg_lt (k : FloatKind) {r : Nat} (h : r < 2 ^ k.format.width) : Op.negFloat k r < 2 ^ k.format.width := by
  unfold Op.negFloat
  refine Nat.xor_lt_two_pow h (Nat.pow_lt_pow_right (by decide) ?_)
  rw [width_eq]; omega
theorem neg_can (k : FloatKind) (r : Nat) : can k (Op.negFloat k (can k r)) = can k (Op.negFloat k r) := by
  rcases can_cases k r with ⟨h1, h2⟩ | ⟨h1, h2⟩
  · rw [can_of_nan (by rw [neg_nan, can_nan]; exact h1), can_of_nan (by rw [neg_nan]; exact h1)]
  · rw [h2]
theorem FR.bin {op : BinOp} (hop : isArf op = true) {k : FloatKind} {x y : Nat} {u v : Value} (hu : FR k x u) (hv : FR k y v) (P : Program) (t : TypeId) (w : World) :
    ∃ r w', (binOp op t u v).run P w = .ok r w' ∧ FR k (fops.bin op k x y) r ∧ w'.heap = w.heap ∧ w'.os = w.os ∧ w'.output = w.output := by
  obtain ⟨a, rfl, ha, rfl⟩ := hu
  obtain ⟨b, rfl, hb, rfl⟩ := hv
  have e : fops.bin op k (can k a) (can k b) = (floatBits op k a b).getD (qnan k) := by
    show (floatBits op k (can k a) (can k b)).getD (qnan k) = _
    rw [floatBits_can]
  cases h : floatBits op k a b with
  | some r =>
    refine ⟨.float k r, w, run_float_arith w op t k a b r h, ⟨r, rfl, ?_, ?_⟩, rfl, rfl, rfl⟩
    · exact floatBits_lt h
    · rw [e, h]; exact can_of_not (floatBits_not_nan h)
  | none =>
    have hq : (Question.nanBits k a b).forced = false := by cases k <;> rfl
    have hn := tape_nan k a b (w.tape w.drawn (.nanBits k a b))
    refine ⟨.float k ((Question.nanBits k a b).cut (w.tape w.drawn (.nanBits k a b))), { w with drawn := w.drawn + 1 }, ?_, ⟨_, rfl, hn.1, ?_⟩, rfl, rfl, rfl⟩
    · unfold floatBits at h
      cases op <;> simp [isArf] at hop <;> simp only at h <;> simp [binOp, Op.floatArith, h, hq]
    · rw [e, h]; exact can_of_nan hn.2
theorem FR.cmp {op : BinOp} (hop : isArf op = false) (hc : isCmp op = true) {k : FloatKind} {x y : Nat} {u v : Value} (hu : FR k x u) (hv : FR k y v) (P : Program) (t : TypeId) (w : World) :
    (binOp op t u v).run P w = .ok (.bool (fops.cmp op k x y)) w := by
  obtain ⟨a, rfl, ha, rfl⟩ := hu
  obtain ⟨b, rfl, hb, rfl⟩ := hv
  have e : fops.cmp op k (can k a) (can k b) = cmpOrd op (k.format.order a b) := by
    show cmpOrd op (k.format.order (can k a) (can k b)) = _
    rw [order_can]
  rw [e]
  cases op <;> simp [isArf] at hop <;> simp [isCmp] at hc <;> simp [binOp, Op.floatCmp, cmpOrd]
theorem FR.neg {k : FloatKind} {x : Nat} {u : Value} (hu : FR k x u) (P : Program) (w : World) : ∃ r, (Op.unary .neg u).run P w = .ok r w ∧ FR k (fops.neg k x) r := by
  obtain ⟨a, rfl, ha, rfl⟩ := hu
  exact ⟨.float k (Op.negFloat k a), rfl, _, rfl, neg_lt k ha, (neg_can k a).symm⟩
theorem FR.ofInt (k : FloatKind) (n : Int) : FR k (fops.ofInt k n) (.float k (k.nearest n)) :=
  ⟨k.nearest n, rfl, k.format.write_lt (.number (n < 0) n.natAbs 0), can_of_not (write_not_nan k.format (.number (n < 0) n.natAbs 0) rfl)⟩
theorem FR.conv {s k : FloatKind} (hne : s ≠ k) {x : Nat} {u : Value} (hu : FR s x u) (hok : fops.convOk s k x = true) (P : Program) (w : World) {b : Nat} (hb : u = .float s b) :
    ∃ r w', (Conv.floatToFloat s b k).run P w = .ok r w' ∧ FR k (fops.conv s k x) r ∧ w'.heap = w.heap ∧ w'.os = w.os ∧ w'.output = w.output := by
  obtain ⟨a, rfl, ha, rfl⟩ := hu
  cases hb
  rcases can_cases s b with ⟨h1, h2⟩ | ⟨h1, h2⟩
  · have hd : ∃ sg t, s.decode b = .nan sg t := by
      cases hh : s.decode b <;> simp [hh, Ieee.Datum.isNaN] at h1
      exact ⟨_, _, rfl⟩
    obtain ⟨sg, t, hd⟩ := hd
    have hdc : ∃ sg t, s.decode (can s b) = .nan sg t := by
      have := can_nan s b; rw [h1] at this
      cases hh : s.decode (can s b) <;> simp [hh, Ieee.Datum.isNaN] at this
      exact ⟨_, _, rfl⟩
    obtain ⟨sg', t', hdc⟩ := hdc
    have hq : (Question.nanConv k b).forced = false := by cases k <;> rfl
    have hn := tape_nanConv k b (w.tape w.drawn (.nanConv k b))
    refine ⟨.float k ((Question.nanConv k b).cut (w.tape w.drawn (.nanConv k b))), { w with drawn := w.drawn + 1 }, ?_, ⟨_, rfl, hn.1, ?_⟩, rfl, rfl, rfl⟩
    · simp [Conv.floatToFloat, hne, hd, hq]
    · rw [can_of_nan hn.2]
      show _ = (floatToFloatBits s (can s b) k).getD (qnan k)
      simp [floatToFloatBits, hne, hdc]
  · rw [h2] at hok ⊢
    have hs : (floatToFloatBits s b k).isSome = true := by
      have : ((floatToFloatBits s b k).isSome || (s.decode b).isNaN) = true := hok
      simpa [h1] using this
    obtain ⟨r, hr⟩ := Option.isSome_iff_exists.1 hs
    have hval : fops.conv s k b = r := by show (floatToFloatBits s b k).getD (qnan k) = r; rw [hr]; rfl
    have hr' := hr
    unfold floatToFloatBits at hr'
    rw [if_neg hne] at hr'
    cases hd : s.decode b with
    | nan sg t => simp [hd, Ieee.Datum.isNaN] at h1
    | infinity sg =>
      simp only [hd, Option.some.injEq] at hr'
      refine ⟨.float k r, w, by simp [Conv.floatToFloat, hne, hd, hr'], ⟨r, rfl, ?_, ?_⟩, rfl, rfl, rfl⟩
      · rw [← hr']; exact k.format.write_lt _
      · rw [hval, ← hr']; exact can_of_not (write_not_nan _ _ rfl)
    | number sg m e =>
      simp only [hd] at hr'
      split at hr'
      · cases hr'
      · rename_i hi
        simp only [Option.some.injEq] at hr'
        subst hr'
        refine ⟨.float k _, w, by simp only [Conv.floatToFloat, hne, if_false, hd, hi, Bool.false_eq_true]; rfl, ⟨_, rfl, k.format.write_lt _, ?_⟩, rfl, rfl, rfl⟩
        rw [hval]; exact can_of_not (write_not_nan _ _ rfl)
theorem FR.toInt {s : FloatKind} {k : IntKind} {x b : Nat} (hu : FR s x (.float s b)) (hok : fops.toIntOk s k x = true) (P : Program) (w : World) :
    (Conv.floatToInt s b k).run P w = .ok (.int k (fops.toInt s k x)) w := by
  obtain ⟨a, he, ha, rfl⟩ := hu
  cases he
  have hs : (floatToIntVal s (can s b) k).isSome = true := hok
  have hn : (s.decode b).isNaN = false := by
    rw [← can_nan]
    cases h : (s.decode (can s b)).isNaN
    · rfl
    · exfalso
      have : (s.decode (can s b)).toInt .zero = none := by
        cases hh : s.decode (can s b) <;> simp [hh, Ieee.Datum.isNaN] at h
        rfl
      simp [floatToIntVal, this] at hs
  rw [can_of_not hn] at hs ⊢
  obtain ⟨n, hr⟩ := Option.isSome_iff_exists.1 hs
  have hv : fops.toInt s k b = n := by show (floatToIntVal s b k).getD 0 = n; rw [hr]; rfl
  rw [hv]
  unfold floatToIntVal at hr
  split at hr
  · rename_i m he
    split at hr
    · rename_i hb; cases hr; simp [Conv.floatToInt, he, hb.1, hb.2]
    · cases hr
  · cases hr


/-! ### from single to double nothing is lost -/
theorem read_f32 {x : Nat} {s : Bool} {m : Nat} {e : Int} (h : FloatKind.f32.decode x = .number s m e) : m < 2 ^ 24 ∧ -149 ≤ e ∧ e ≤ 104 := by
  unfold FloatKind.decode Ieee.Format.read at h
  have s32 : FloatKind.f32.format.signWeight = 2147483648 := by decide +kernel
  have i32 : FloatKind.f32.format.infRung = 2139095040 := by decide +kernel
  have b32 : FloatKind.f32.format.binade = 8388608 := by decide +kernel
  have l32 : FloatKind.f32.format.leastPlace = -149 := by decide +kernel
  simp only [s32, i32, b32, l32] at h
  split at h
  · cases h; omega
  · split at h
    · cases h; omega
    · split at h <;> cases h
theorem cut_zero (w : Ieee.Toward) (s : Bool) (n : Nat) : w.cut s n 0 = n := by
  unfold Ieee.Toward.cut
  cases w <;> simp [Nat.mod_one]
theorem fin_aux {a k : Nat} (h1 : a ≤ 1149) (h2 : k < 2 ^ 53) : min (a * 4503599627370496 + k) 9218868437227405312 < 9218868437227405312 := by
  have h2' : k < 9007199254740992 := h2
  omega
theorem conv_fin {x : Nat} {s : Bool} {m : Nat} {e : Int} (h : FloatKind.f32.decode x = .number s m e) : (FloatKind.f64.decode (FloatKind.f64.encode (.number s m e))).isInfinity = false := by
  obtain ⟨h1, h2, h3⟩ := read_f32 h
  have s64 : FloatKind.f64.format.signWeight = 9223372036854775808 := by decide +kernel
  have i64 : FloatKind.f64.format.infRung = 9218868437227405312 := by decide +kernel
  have b64 : FloatKind.f64.format.binade = 4503599627370496 := by decide +kernel
  have l64 : FloatKind.f64.format.leastPlace = -1074 := by decide +kernel
  have f64 : FloatKind.f64.format.fractionBits = 52 := by decide +kernel
  -- a rung below that of infinity
  have key : ∀ (neg : Bool) (r : Nat), r < 9218868437227405312 → (FloatKind.f64.decode (FloatKind.f64.format.word neg r)).isInfinity = false := by
    intro neg r hr
    unfold FloatKind.decode Ieee.Format.read
    have hw : FloatKind.f64.format.word neg r % FloatKind.f64.format.signWeight = r := rung_word _ _ (by rw [s64]; omega)
    dsimp only
    rw [hw, i64, b64]
    split
    · rfl
    · first | rfl | (split <;> first | rfl | omega)
  show (FloatKind.f64.decode (FloatKind.f64.format.nearest s m e)).isInfinity = false
  unfold Ieee.Format.nearest
  split
  · exact key s 0 (by decide)
  · rename_i hm
    have hlog : m.log2 ≤ 23 := by
      have := (Nat.log2_lt hm).2 h1
      omega
    have hmax : max (e + (m.log2 : Int) - (52 : Nat)) (-1074) = e + m.log2 - 52 := by omega
    simp only [f64, l64, i64, b64, hmax]
    have d1 : (e + (m.log2 : Int) - 52 - e).toNat = 0 := by omega
    have d2 : (e - (e + (m.log2 : Int) - 52)).toNat = 52 - m.log2 := by omega
    rw [d1, d2, cut_zero]
    have hk : m <<< (52 - m.log2) < 2 ^ 53 := by
      rw [Nat.shiftLeft_eq]
      have : m < 2 ^ (m.log2 + 1) := Nat.lt_log2_self
      calc m * 2 ^ (52 - m.log2) < 2 ^ (m.log2 + 1) * 2 ^ (52 - m.log2) := Nat.mul_lt_mul_of_pos_right this (Nat.two_pow_pos _)
        _ = 2 ^ 53 := by rw [← Nat.pow_add]; congr 1; omega
    have d3 : (e + (m.log2 : Int) - 52 - -1074).toNat ≤ 1149 := by omega
    exact key s _ (fin_aux d3 hk)
theorem conv_ok (x : Nat) : fops.convOk .f32 .f64 x = true := by
  show ((floatToFloatBits .f32 x .f64).isSome || (FloatKind.f32.decode x).isNaN) = true
  unfold floatToFloatBits
  cases h : (FloatKind.f32.decode x) with
  | nan s t => simp [Ieee.Datum.isNaN]
  | infinity s => simp
  | number s m e => simp [conv_fin h]

end Go.Proofs.YtaodbpejeglmlaaDoor
