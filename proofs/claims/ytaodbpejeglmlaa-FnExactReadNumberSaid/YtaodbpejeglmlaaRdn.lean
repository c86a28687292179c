/- The number with a text. Nothing is assumed. -/
import Derived.Test.YtaodbpejeglmlaaRdn0
namespace Go.Proofs.Ytaodbpejeglmlaa.Rdn
open Go
noncomputable section

def sz8 (s : ByteArray) : Bool := decide ((s.size : Int) = 8)
def rN (s : ByteArray) : Int := (rdS s 8 0 0).getD 0
def rO (s : ByteArray) : Bool := (rdS s 8 0 0).isNone
def gN (s : ByteArray) : Nat := can .f32 (rN s).toNat
set_option maxRecDepth 100000 in
theorem R_run (O : FOps) (s : ByteArray) : rE 1 (inl (cx0 O) Try.f28 ⟨fun _ => none, lpOf [(5, RL O)]⟩ 1 [.c (.str s)] []) =
    some (.tup [.c (.flt .f32 (bif !sz8 s then 0 else bif rO s then 0 else gN s)), .c (.bool (.s (bif !sz8 s then false else bif rO s then false else decide (sB O (gN s) = rN s))))],
     [!sz8 s || decide (s.size = 8 ∧ (0 : Int) = 0), !sz8 s || (rO s || decide (0 ≤ rN s ∧ rN s < 4294967296)), !sz8 s || (rO s || (O.cmp .neq .f32 (gN s) (gN s) || !Nat.beq (gN s) (qnan .f32)))]) := by kernel_rfl

/-! ### digits -/
def digOK (n : Nat) : Bool :=
  bif decide (ixB hexD n < 0) then !loB n && !hiB n
  else decide (0 ≤ ixB hexD n) && (decide (ixB hexD n < 16) && (decide (byteAt hexD (ixB hexD n) = n) && bif loB n then decide (ixB hexD n = n - 48) && decide (48 ≤ n ∧ n ≤ 57) else hiB n && (decide (ixB hexD n = n - 87) && decide (97 ≤ n ∧ n ≤ 102))))
theorem digs : (List.range 256).all (fun n => digOK n) = true := by decide +kernel
theorem dig_of {n : Nat} (h : n < 256) : digOK n = true := List.all_eq_true.1 digs n (List.mem_range.2 h)
theorem byte_lt (s : ByteArray) (k : Int) : ∃ n : Nat, byteAt s k = n ∧ n < 256 := ⟨(s.data.toList.getD k.toNat 0).toNat, rfl, UInt8.toNat_lt _⟩
theorem or_add {a d : Nat} (ha : a < 268435456) (hd : d < 16) : uN a d = ((a * 16 + d : Nat) : Int) := by
  unfold uN orI
  rw [show ((a : Int) * 2 ^ 4) = ((a * 16 : Nat) : Int) by omega, wrap_nat (n := a * 16) (by omega), wrap_nat (n := d) (by omega)]
  show IntKind.u32.wrap ((BitVec.ofInt 32 ((a * 16 : Nat) : Int) ||| BitVec.ofInt 32 (d : Int)).toNat : Nat) = _
  have h2 : (BitVec.ofInt 32 ((a * 16 : Nat) : Int) ||| BitVec.ofInt 32 (d : Int)).toNat = a * 16 + d := by
    rw [BitVec.toNat_or]
    simp only [BitVec.toNat_ofInt]
    rw [show (((a * 16 : Nat) : Int) % ((2 ^ 32 : Nat) : Int)).toNat = 2 ^ 4 * a by omega, show ((d : Int) % ((2 ^ 32 : Nat) : Int)).toNat = d by omega, ← Nat.two_pow_add_eq_or_of_lt (show d < 2 ^ 4 by omega)]
    omega
  rw [h2, wrap_nat (by omega)]
theorem u8w {n : Nat} (h : n < 256) : IntKind.u8.wrap (n : Int) = n := by
  show (n : Int) % 256 = n
  omega
theorem rL_eq {a n : Nat} (ha : a < 268435456) (h1 : 48 ≤ n) (h2 : n ≤ 57) : rL a n = ((a * 16 + (n - 48) : Nat) : Int) := by
  unfold rL
  rw [show ((n : Int) - 48) = ((n - 48 : Nat) : Int) by omega, u8w (by omega), show ((a : Int) * 16) = ((a * 16 : Nat) : Int) by omega, wrap_nat (by omega), wrap_nat (by omega), ← Int.natCast_add, wrap_nat (by omega)]
theorem rH_eq {a n : Nat} (ha : a < 268435456) (h1 : 97 ≤ n) (h2 : n ≤ 102) : rH a n = ((a * 16 + (n - 87) : Nat) : Int) := by
  unfold rH
  rw [show ((n : Int) - 97) = ((n - 97 : Nat) : Int) by omega, u8w (by omega), show ((a : Int) * 16) = ((a * 16 : Nat) : Int) by omega, wrap_nat (by omega), wrap_nat (by omega), ← Int.natCast_add, wrap_nat (by omega),
    show (((a * 16 + (n - 97) : Nat) : Int) + 10) = ((a * 16 + (n - 97) + 10 : Nat) : Int) by omega, wrap_nat (by omega)]
  omega
/-- One round, in numbers. -/
theorem one (s : ByteArray) (m : Nat) (k : Int) (a : Nat) (ha : a < 268435456) :
    (un s (m + 1) k a = none ∧ rdS s (m + 1) k a = none) ∨ ∃ d : Nat, d < 16 ∧ byteAt hexD d = byteAt s k ∧ un s (m + 1) k a = un s m (k + 1) ((a * 16 + d : Nat) : Int) ∧ rdS s (m + 1) k a = rdS s m (k + 1) ((a * 16 + d : Nat) : Int) := by
  obtain ⟨n, hn, hlt⟩ := byte_lt s k
  have hd := dig_of hlt
  unfold digOK at hd
  have hU : un s (m + 1) k a = bif decide (ixB hexD (byteAt s k) < 0) then none else un s m (k + 1) (uN a (ixB hexD (byteAt s k))) := rfl
  have hR : rdS s (m + 1) k a = bif loB (byteAt s k) then rdS s m (k + 1) (rL a (byteAt s k)) else bif hiB (byteAt s k) then rdS s m (k + 1) (rH a (byteAt s k)) else none := rfl
  rw [hU, hR, hn]
  cases hx : decide (ixB hexD (n : Int) < 0) with
  | true =>
    rw [hx] at hd
    simp only [cond_true, Bool.and_eq_true, Bool.not_eq_true'] at hd
    rw [hd.1, hd.2]
    exact .inl ⟨rfl, rfl⟩
  | false =>
    rw [hx] at hd
    simp only [cond_false, Bool.and_eq_true, decide_eq_true_eq] at hd
    obtain ⟨d0, d1, d2, d3⟩ := hd
    obtain ⟨d, hdd⟩ := Int.eq_ofNat_of_zero_le d0
    have hd16 : d < 16 := by omega
    refine .inr ⟨d, hd16, by rw [← hdd]; exact d2, ?_, ?_⟩
    · show un s m (k + 1) (uN a (ixB hexD n)) = _
      rw [hdd, or_add ha hd16]
    · cases hl : loB (n : Int) with
      | true =>
        rw [hl] at d3
        simp only [cond_true, Bool.and_eq_true, decide_eq_true_eq] at d3
        show rdS s m (k + 1) (rL a n) = _
        rw [rL_eq ha d3.2.1 d3.2.2, show n - 48 = d by omega]
      | false =>
        rw [hl] at d3
        simp only [cond_false, Bool.and_eq_true, decide_eq_true_eq] at d3
        rw [d3.1]
        show rdS s m (k + 1) (rH a n) = _
        rw [rH_eq ha d3.2.2.1 d3.2.2.2, show n - 87 = d by omega]
/-- What the bytes of a text come to. -/
theorem all8 (s : ByteArray) : (un s 8 0 0 = none ∧ rdS s 8 0 0 = none) ∨ ∃ d0 d1 d2 d3 d4 d5 d6 d7 : Nat, (d0 < 16 ∧ d1 < 16 ∧ d2 < 16 ∧ d3 < 16 ∧ d4 < 16 ∧ d5 < 16 ∧ d6 < 16 ∧ d7 < 16) ∧
    (byteAt hexD d0 = byteAt s 0 ∧ byteAt hexD d1 = byteAt s 1 ∧ byteAt hexD d2 = byteAt s 2 ∧ byteAt hexD d3 = byteAt s 3 ∧ byteAt hexD d4 = byteAt s 4 ∧ byteAt hexD d5 = byteAt s 5 ∧ byteAt hexD d6 = byteAt s 6 ∧ byteAt hexD d7 = byteAt s 7) ∧
    un s 8 0 0 = some (((((((((d0 * 16 + d1) * 16 + d2) * 16 + d3) * 16 + d4) * 16 + d5) * 16 + d6) * 16 + d7 : Nat)) : Int) ∧
    rdS s 8 0 0 = some (((((((((d0 * 16 + d1) * 16 + d2) * 16 + d3) * 16 + d4) * 16 + d5) * 16 + d6) * 16 + d7 : Nat)) : Int) := by
  rcases one s 7 0 0 (by omega) with h | ⟨d0, a0, b0, u0, r0⟩
  · exact .inl h
  rw [Nat.zero_mul, Nat.zero_add] at u0 r0
  rcases one s 6 1 d0 (by omega) with h | ⟨d1, a1, b1, u1, r1⟩
  · exact .inl ⟨u0.trans h.1, r0.trans h.2⟩
  rcases one s 5 2 (d0 * 16 + d1) (by omega) with h | ⟨d2, a2, b2, u2, r2⟩
  · exact .inl ⟨(u0.trans u1).trans h.1, (r0.trans r1).trans h.2⟩
  rcases one s 4 3 ((d0 * 16 + d1) * 16 + d2) (by omega) with h | ⟨d3, a3, b3, u3, r3⟩
  · exact .inl ⟨((u0.trans u1).trans u2).trans h.1, ((r0.trans r1).trans r2).trans h.2⟩
  rcases one s 3 4 (((d0 * 16 + d1) * 16 + d2) * 16 + d3) (by omega) with h | ⟨d4, a4, b4, u4, r4⟩
  · exact .inl ⟨(((u0.trans u1).trans u2).trans u3).trans h.1, (((r0.trans r1).trans r2).trans r3).trans h.2⟩
  rcases one s 2 5 ((((d0 * 16 + d1) * 16 + d2) * 16 + d3) * 16 + d4) (by omega) with h | ⟨d5, a5, b5, u5, r5⟩
  · exact .inl ⟨((((u0.trans u1).trans u2).trans u3).trans u4).trans h.1, ((((r0.trans r1).trans r2).trans r3).trans r4).trans h.2⟩
  rcases one s 1 6 (((((d0 * 16 + d1) * 16 + d2) * 16 + d3) * 16 + d4) * 16 + d5) (by omega) with h | ⟨d6, a6, b6, u6, r6⟩
  · exact .inl ⟨(((((u0.trans u1).trans u2).trans u3).trans u4).trans u5).trans h.1, (((((r0.trans r1).trans r2).trans r3).trans r4).trans r5).trans h.2⟩
  rcases one s 0 7 ((((((d0 * 16 + d1) * 16 + d2) * 16 + d3) * 16 + d4) * 16 + d5) * 16 + d6) (by omega) with h | ⟨d7, a7, b7, u7, r7⟩
  · exact .inl ⟨((((((u0.trans u1).trans u2).trans u3).trans u4).trans u5).trans u6).trans h.1, ((((((r0.trans r1).trans r2).trans r3).trans r4).trans r5).trans r6).trans h.2⟩
  exact .inr ⟨d0, d1, d2, d3, d4, d5, d6, d7, ⟨a0, a1, a2, a3, a4, a5, a6, a7⟩, ⟨b0, b1, b2, b3, b4, b5, b6, b7⟩, ((((((u0.trans u1).trans u2).trans u3).trans u4).trans u5).trans u6).trans u7, ((((((r0.trans r1).trans r2).trans r3).trans r4).trans r5).trans r6).trans r7⟩
theorem bytes8 {s : ByteArray} (h : s.size = 8) : bytesL [byteAt s 0, byteAt s 1, byteAt s 2, byteAt s 3, byteAt s 4, byteAt s 5, byteAt s 6, byteAt s 7] = s := by
  obtain ⟨⟨l⟩⟩ := s
  match l, h with
  | [b0, b1, b2, b3, b4, b5, b6, b7], _ =>
    have hb (b : UInt8) : UInt8.ofNat (((b.toNat : Nat) : Int)).toNat = b := by simp
    show List.foldl (fun (r : ByteArray) (n : Int) => r.push (UInt8.ofNat n.toNat)) ByteArray.empty [((b0.toNat : Nat) : Int), ((b1.toNat : Nat) : Int), ((b2.toNat : Nat) : Int), ((b3.toNat : Nat) : Int), ((b4.toNat : Nat) : Int), ((b5.toNat : Nat) : Int), ((b6.toNat : Nat) : Int), ((b7.toNat : Nat) : Int)] = _
    simp only [List.foldl, hb]
    rfl

def ub (a : Nat) : UInt8 := UInt8.ofNat (byteAt hexD (a : Int)).toNat
theorem ub_all : (List.range 16).all (fun a => (List.range 16).all fun b => !decide (ub a = ub b) || decide (a = b)) = true := by decide +kernel
theorem ub_inj {a b : Nat} (ha : a < 16) (hb : b < 16) (h : ub a = ub b) : a = b := by
  have := List.all_eq_true.1 (List.all_eq_true.1 ub_all a (List.mem_range.2 ha)) b (List.mem_range.2 hb)
  rw [decide_eq_true h] at this
  exact of_decide_eq_true this
theorem hexT_data (x : Nat) : (hexT x).data.toList = [ub (x / 2 ^ 28 % 16), ub (x / 2 ^ 24 % 16), ub (x / 2 ^ 20 % 16), ub (x / 2 ^ 16 % 16), ub (x / 2 ^ 12 % 16), ub (x / 2 ^ 8 % 16), ub (x / 2 ^ 4 % 16), ub (x % 16)] := rfl
theorem hexT_inj {x y : Nat} (hx : x < 4294967296) (hy : y < 4294967296) (h : hexT x = hexT y) : x = y := by
  have h' : (hexT x).data.toList = (hexT y).data.toList := by rw [h]
  rw [hexT_data, hexT_data] at h'
  simp only [List.cons.injEq, and_true] at h'
  obtain ⟨h0, h1, h2, h3, h4, h5, h6, h7⟩ := h'
  have g0 := ub_inj (Nat.mod_lt _ (by decide)) (Nat.mod_lt _ (by decide)) h0
  have g1 := ub_inj (Nat.mod_lt _ (by decide)) (Nat.mod_lt _ (by decide)) h1
  have g2 := ub_inj (Nat.mod_lt _ (by decide)) (Nat.mod_lt _ (by decide)) h2
  have g3 := ub_inj (Nat.mod_lt _ (by decide)) (Nat.mod_lt _ (by decide)) h3
  have g4 := ub_inj (Nat.mod_lt _ (by decide)) (Nat.mod_lt _ (by decide)) h4
  have g5 := ub_inj (Nat.mod_lt _ (by decide)) (Nat.mod_lt _ (by decide)) h5
  have g6 := ub_inj (Nat.mod_lt _ (by decide)) (Nat.mod_lt _ (by decide)) h6
  have g7 := ub_inj (Nat.mod_lt _ (by decide)) (Nat.mod_lt _ (by decide)) h7
  clear h h0 h1 h2 h3 h4 h5 h6 h7
  omega
theorem sz8_iff {s : ByteArray} : sz8 s = true ↔ s.size = 8 := by
  unfold sz8
  rw [decide_eq_true_eq]
  omega
/-- Both read the same, and it is the text of its number. -/
theorem both {s : ByteArray} (h : s.size = 8) : (un s 8 0 0 = none ∧ rdS s 8 0 0 = none) ∨ ∃ N : Nat, N < 4294967296 ∧ hexT N = s ∧ un s 8 0 0 = some (N : Int) ∧ rdS s 8 0 0 = some (N : Int) := by
  rcases all8 s with h1 | ⟨d0, d1, d2, d3, d4, d5, d6, d7, ⟨a0, a1, a2, a3, a4, a5, a6, a7⟩, ⟨b0, b1, b2, b3, b4, b5, b6, b7⟩, hu, hr⟩
  · exact .inl h1
  · refine .inr ⟨_, ?_, ?_, hu, hr⟩
    · omega
    · generalize hN : ((((((d0 * 16 + d1) * 16 + d2) * 16 + d3) * 16 + d4) * 16 + d5) * 16 + d6) * 16 + d7 = N
      unfold hexT digN
      rw [show N / 2 ^ 28 % 16 = d0 by omega, show N / 2 ^ 24 % 16 = d1 by omega, show N / 2 ^ 20 % 16 = d2 by omega, show N / 2 ^ 16 % 16 = d3 by omega, show N / 2 ^ 12 % 16 = d4 by omega, show N / 2 ^ 8 % 16 = d5 by omega, show N / 2 ^ 4 % 16 = d6 by omega, show N % 16 = d7 by omega,
        b0, b1, b2, b3, b4, b5, b6, b7]
      exact bytes8 h
/-! ### the contracts -/
def uV (s : ByteArray) : Int := bif !sz8 s then 0 else bif (un s 8 0 0).isNone then 0 else (un s 8 0 0).getD 0
def uB (s : ByteArray) : Bool := bif !sz8 s then false else bif (un s 8 0 0).isNone then false else true
def uG : List SV → Option SV := fun args => match args with
  | [.c (.str s)] => some (.tup [.c (.int .u32 (.s (uV s))), .c (.bool (.s (uB s)))])
  | _ => none
theorem cUn : CallOK Try.prog 29 (gS uG) :=
  gS_of2 cU fun args r E vals hG hr => by
    unfold uG at hG
    split at hG <;> cases hG
    rename_i s
    refine ⟨rfl, _, _, U_run fops s, rfl, ?_, fun E v hv => hv⟩
    refine AllT.one' ?_
    show (!sz8 s || _) = true
    cases h : sz8 s with
    | false => rfl
    | true => exact decide_eq_true ⟨sz8_iff.1 h, by have := sz8_iff.1 h; omega, rfl⟩
def rA (s : ByteArray) : Nat := bif !sz8 s then 0 else bif rO s then 0 else gN s
def rB (s : ByteArray) : Bool := bif !sz8 s then false else bif rO s then false else decide (sB fops (gN s) = rN s)
def rG : List SV → Option SV := fun args => match args with
  | [.c (.str s)] => some (.tup [.c (.flt .f32 (rA s)), .c (.bool (.s (rB s)))])
  | _ => none
theorem gN_cn (s : ByteArray) (h : rN s < 4294967296) (h0 : 0 ≤ rN s) : Cn .f32 (gN s) := ⟨(rN s).toNat, by show (rN s).toNat < 4294967296; omega, rfl⟩
theorem cn_ob {x : Nat} (hx : Cn .f32 x) : (fops.cmp .neq .f32 x x || !Nat.beq x (qnan .f32)) = true := by
  rw [cmp_neq_self]
  have hq := hx.nan
  rw [← hq]
  cases nanb .f32 x <;> rfl
theorem cRn : CallOK Try.prog 28 (gS rG) :=
  gS_of2 cR fun args r E vals hG hr => by
    unfold rG at hG
    split at hG <;> cases hG
    rename_i s
    refine ⟨rfl, _, _, R_run fops s, rfl, ?_, fun E v hv => hv⟩
    cases h : sz8 s with
    | false => exact AllT.cons rfl (AllT.cons rfl (AllT.one' rfl))
    | true =>
      have h8 := sz8_iff.1 h
      refine AllT.cons (decide_eq_true ⟨h8, rfl⟩) ?_
      rcases both h8 with ⟨_, h2⟩ | ⟨N, h1, _, _, h2⟩
      · have : rO s = true := by unfold rO; rw [h2]; rfl
        rw [this]
        exact AllT.cons rfl (AllT.one' rfl)
      · have e : rN s = N := by unfold rN; rw [h2]; rfl
        have ho : rO s = false := by unfold rO; rw [h2]; rfl
        have hd : decide (0 ≤ (N : Int) ∧ (N : Int) < 4294967296) = true := decide_eq_true ⟨by omega, by omega⟩
        rw [ho, cn_ob (gN_cn s (by omega) (by omega)), e, hd]
        exact AllT.cons rfl (AllT.one' rfl)
/-! ### the two functions -/
def fB (s : ByteArray) : Bool := bif !uB s then true else !((hexT (can .f32 (uV s).toNat)).toList == s.toList)
set_option maxRecDepth 100000 in
theorem I_run (O : FOps) (s : ByteArray) : rE 1 (inl ⟨Try.prog, O, orcN Try.prog O [(29, gS uG), (30, fbS), (8, gS hexG)] 8⟩ Try.f10 ⟨fun _ => none, fun _ => none⟩ 1 [.c (.str s)] []) =
    some (.tup [.c (.flt .f32 (bif fB s then 0 else can .f32 (uV s).toNat)), .c (.int .i64 (.s (bif fB s then 5 else 0)))], [decide (0 ≤ uV s ∧ uV s < 4294967296)]) := by kernel_rfl
set_option maxRecDepth 100000 in
theorem S_run (O : FOps) (s : ByteArray) : rE 1 (inl ⟨Try.prog, O, orcN Try.prog O [(28, gS rG)] 8⟩ Try.f9 ⟨fun _ => none, fun _ => none⟩ 1 [.c (.str s)] []) =
    some (.tup [.c (.flt .f32 (bif !rB s then 0 else rA s)), .c (.int .i64 (.s (bif !rB s then 5 else 0)))], []) := by kernel_rfl
theorem ba_ext {a b : ByteArray} (h : a.data.toList = b.data.toList) : a = b := by
  obtain ⟨⟨l⟩⟩ := a
  obtain ⟨⟨m⟩⟩ := b
  have : l = m := h
  rw [this]
theorem same (s : ByteArray) : (0 ≤ uV s ∧ uV s < 4294967296) ∧ fB s = !rB s ∧ (fB s = false → can .f32 (uV s).toNat = rA s) := by
  unfold fB rB rA uV uB
  cases h : sz8 s with
  | false => exact ⟨⟨by show (0 : Int) ≤ 0; decide, by show (0 : Int) < 4294967296; decide⟩, rfl, fun h => by cases h⟩
  | true =>
    have h8 := sz8_iff.1 h
    rcases both h8 with ⟨h1, h2⟩ | ⟨N, hN, ht, h1, h2⟩
    · have ho : rO s = true := by unfold rO; rw [h2]; rfl
      rw [h1, ho]
      exact ⟨⟨by show (0 : Int) ≤ 0; decide, by show (0 : Int) < 4294967296; decide⟩, rfl, fun h => by cases h⟩
    · have ho : rO s = false := by unfold rO; rw [h2]; rfl
      have e : rN s = N := by unfold rN; rw [h2]; rfl
      have eg : gN s = can .f32 N := by unfold gN; rw [e]; rfl
      have hc : Cn .f32 (can .f32 N) := ⟨N, hN, rfl⟩
      rw [h1, ho, e, eg]
      have hs : sB fops (can .f32 N) = (can .f32 N : Nat) := by
        unfold sB
        rw [cmp_neq_self]
        cases hn : nanb .f32 (can .f32 N) with
        | true =>
          have hq := hc.nan
          rw [hn] at hq
          have : can .f32 N = 2143289344 := beqN.1 hq.symm
          rw [this]; rfl
        | false => rfl
      refine ⟨⟨Int.natCast_nonneg N, by show (N : Int) < 4294967296; omega⟩, ?_, fun _ => rfl⟩
      show (!((hexT (can .f32 N)).toList == s.toList)) = !decide (sB fops (can .f32 N) = N)
      rw [hs]
      congr 1
      by_cases hcan : can .f32 N = N
      · rw [hcan, ht]
        simp
      · rw [decide_eq_false (by omega)]
        rw [beq_eq_false_iff_ne]
        intro hl
        rw [ByteArray.toList_eq, ByteArray.toList_eq, ← ht] at hl
        apply hcan
        refine hexT_inj hc.lt hN ?_
        exact ba_ext hl
def fG : List SV → Option SV := fun args => match args with
  | [.c (.str s)] => some (.tup [.c (.flt .f32 (bif !rB s then 0 else rA s)), .c (.int .i64 (.s (bif !rB s then 5 else 0)))])
  | _ => none
theorem cI : CallOK Try.prog 10 (gS fG) :=
  gS_of2 (inlN_of (l := [(29, gS uG), (30, fbS), (8, gS hexG)]) ⟨cUn, cFb, cHexI, trivial⟩ mixed 8 Try.func10 (by kernel_rfl) (fun _ => none)) fun args r E vals hG hr => by
    unfold fG at hG
    split at hG <;> cases hG
    rename_i s
    obtain ⟨h1, h2, h3⟩ := same s
    refine ⟨rfl, _, _, I_run fops s, rfl, AllT.one' (decide_eq_true h1), ?_⟩
    rw [h2] at h3 ⊢
    cases hb : rB s with
    | true =>
      rw [hb] at h3
      have := h3 rfl
      rw [this]
      exact fun E v hv => hv
    | false => exact fun E v hv => hv
theorem cS : CallOK Try.prog 9 (gS fG) :=
  gS_of2 (inlN_of (l := [(28, gS rG)]) ⟨cRn, trivial⟩ mixed 8 Try.func9 (by kernel_rfl) (fun _ => none)) fun args r E vals hG hr => by
    unfold fG at hG
    split at hG <;> cases hG
    rename_i s
    exact ⟨rfl, _, _, S_run fops s, rfl, AllT.nil, fun E v hv => hv⟩
end
end Go.Proofs.Ytaodbpejeglmlaa.Rdn
