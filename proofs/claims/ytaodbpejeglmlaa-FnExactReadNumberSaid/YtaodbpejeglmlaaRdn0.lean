/- The number with a text: the loops. Nothing is assumed. -/
import Derived.Test.YtaodbpejeglmlaaGl
import Derived.Test.YtaodbpejeglmlaaHex
import Derived.Lib.Bytealg
namespace Go.Proofs.Ytaodbpejeglmlaa.Rdn
open Go
noncomputable section

noncomputable def ixB (s : ByteArray) (c : Int) : Int := Go.Lib.indexByte s.data.toList c.toNat.toUInt8
noncomputable def idxS : CS := fun base args rd => match args with
  | [.c (.str s), .c (.int .u8 c)] => some ⟨.c (.int .i64 (.s (ixB s c.val))), [], base, []⟩
  | _ => none
theorem cIdx : CallOK Try.prog 72 idxS := by
  refine CallOK.pure fun E base args vals rd w e hs hob hargs => ?_
  unfold idxS at hs
  split at hs <;> cases hs
  rename_i s c
  refine ⟨rfl, ?_⟩
  obtain ⟨l⟩ := vals
  match l, hargs with
  | [v, u], hargs =>
    have h1 : v = .string s := hargs.1
    have h2 : u = .int .u8 c.val := hargs.2.1
    subst h1; subst h2
    exact ⟨_, run_extern (x := Extern.BytealgIndexByte.indexByte) Try.func72 (by kernel_rfl) (by kernel_rfl) (by kernel_rfl) (by kernel_rfl) (Go.Lib.run_indexByteString s c.val w), rfl⟩
noncomputable def fbS : CS := fun base args rd => match args with
  | [.c (.int .u32 n)] => some ⟨.c (.flt .f32 (can .f32 n.val.toNat)), [], base, [decide (0 ≤ n.val ∧ n.val < 4294967296)]⟩
  | _ => none
theorem cFb : CallOK Try.prog 30 fbS := by
  refine CallOK.pure fun E base args vals rd w e hs hob hargs => ?_
  unfold fbS at hs
  split at hs <;> cases hs
  rename_i n
  refine ⟨rfl, ?_⟩
  obtain ⟨l⟩ := vals
  match l, hargs with
  | [v], hargs =>
    have h1 : v = .int .u32 n.val := hargs.1
    subst h1
    have hb := of_decide_eq_true hob.head
    refine ⟨_, run_extern (x := Extern.MathFloatBits.float32frombits) (v := .float .f32 n.val.toNat) Try.func30 (by kernel_rfl) (by kernel_rfl) (by kernel_rfl) (by kernel_rfl) rfl, n.val.toNat, rfl, ?_, rfl⟩
    show n.val.toNat < 4294967296
    omega
noncomputable def L0 : List (Nat × CS) := [(27, bits32S), (30, fbS), (72, idxS)]
theorem okL0 : AllOK Try.prog L0 := ⟨cBits, cFb, cIdx, trivial⟩
noncomputable def cx0 (O : FOps) : Cx := ⟨Try.prog, O, orcN Try.prog O L0 8⟩
/-! ### impl.unhex -/
noncomputable def NU : Nat := Try.f29.ntmps
noncomputable def Uk : Sk := ⟨[(0, .c .str), (4, .c (.int .u32)), (11, .c (.int .i64)), (12, .c (.int .i64))], [], 1⟩
noncomputable def Ue : Sk := ⟨[(4, .c (.int .u32))], [], 1⟩
noncomputable def Ur : Sk := ⟨[(2, .c (.intc .u32 0)), (3, .c (.boolc false))], [], 1⟩
noncomputable def UD (s : ByteArray) (len : Int) (k n : Int) : List LD := [.s s, .i n, .i len, .i k]
noncomputable def uN (n d : Int) : Int := orI .u32 (IntKind.u32.wrap (n * 2 ^ 4)) (IntKind.u32.wrap d)
noncomputable def Ug (O : FOps) (a b : Bool) (s' : Sk) (s : ByteArray) (len k n : Int) : Option (Option XK × List LD × List Bool) := goL (cx0 O) NU ⟨hints [(13, a), (20, b)], fun _ => none⟩ (bodyOf Try.f29 5) 1 60 Uk [] s' (UD s len k n)
set_option maxRecDepth 100000 in
theorem Ua (O : FOps) (s : ByteArray) (len k n : Int) : Ug O true false Uk s len k n = some (none, UD s len (IntKind.i64.wrap (k + 1)) (uN n (ixB hexD (byteAt s k))), [decide (k < len), decide (0 ≤ k ∧ k < (s.size : Int)), !decide (ixB hexD (byteAt s k) < 0)]) := by kernel_rfl
set_option maxRecDepth 100000 in
theorem Ub (O : FOps) (s : ByteArray) (len k n : Int) : Ug O true true Ur s len k n = some (some .ret, [], [decide (k < len), decide (0 ≤ k ∧ k < (s.size : Int)), decide (ixB hexD (byteAt s k) < 0)]) := by kernel_rfl
set_option maxRecDepth 100000 in
theorem Uc (O : FOps) (s : ByteArray) (len k n : Int) : Ug O false false Ue s len k n = some (some (.exit 0), [.i n], [!decide (k < len)]) := by kernel_rfl
/-! ### spec.l01Read -/
noncomputable def NR : Nat := Try.f28.ntmps
noncomputable def Rk : Sk := ⟨[(0, .c .str), (4, .c (.int .u32)), (5, .c (.int .i64))], [], 1⟩
noncomputable def Re : Sk := ⟨[(4, .c (.int .u32))], [], 1⟩
noncomputable def Rr : Sk := ⟨[(2, .c (.flt .f32)), (3, .c (.boolc false))], [], 1⟩
noncomputable def RD (s : ByteArray) (k n : Int) : List LD := [.s s, .i n, .i k]
noncomputable def rL (n b : Int) : Int := IntKind.u32.wrap (IntKind.u32.wrap (n * 16) + IntKind.u32.wrap (IntKind.u8.wrap (b - 48)))
noncomputable def rH (n b : Int) : Int := IntKind.u32.wrap (IntKind.u32.wrap (IntKind.u32.wrap (n * 16) + IntKind.u32.wrap (IntKind.u8.wrap (b - 97))) + 10)
noncomputable def Rg (O : FOps) (h : List (Nat × Bool)) (s' : Sk) (s : ByteArray) (k n : Int) : Option (Option XK × List LD × List Bool) := goL (cx0 O) NR ⟨hints h, fun _ => none⟩ (bodyOf Try.f28 5) 1 60 Rk [] s' (RD s k n)
noncomputable def inb (s : ByteArray) (k : Int) : Bool := decide (0 ≤ k ∧ k < (s.size : Int))
noncomputable def loB (b : Int) : Bool := bif decide (48 ≤ b) then decide (b ≤ 57) else false
noncomputable def hiB (b : Int) : Bool := bif decide (97 ≤ b) then decide (b ≤ 102) else false
set_option maxRecDepth 100000 in
theorem Ra (O : FOps) (s : ByteArray) (k n : Int) : Rg O [(12, true), (18, true)] Rk s k n = some (none, RD s (IntKind.i64.wrap (k + 1)) (rL n (byteAt s k)), [decide (k < 8), inb s k, loB (byteAt s k)]) := by kernel_rfl
set_option maxRecDepth 100000 in
theorem Rb (O : FOps) (s : ByteArray) (k n : Int) : Rg O [(12, true), (18, false), (31, true)] Rk s k n = some (none, RD s (IntKind.i64.wrap (k + 1)) (rH n (byteAt s k)), [decide (k < 8), inb s k, !loB (byteAt s k), hiB (byteAt s k)]) := by kernel_rfl
set_option maxRecDepth 100000 in
theorem Rc (O : FOps) (s : ByteArray) (k n : Int) : Rg O [(12, true), (18, false), (31, false)] Rr s k n = some (some .ret, [.f 0], [decide (k < 8), inb s k, !loB (byteAt s k), !hiB (byteAt s k)]) := by kernel_rfl
set_option maxRecDepth 100000 in
theorem Rd (O : FOps) (s : ByteArray) (k n : Int) : Rg O [(12, false)] Re s k n = some (some (.exit 0), [.i n], [!decide (k < 8)]) := by kernel_rfl
/-! ### the loops -/
/-- The number with some digits: 'm' bytes from the place 'k' on, told after 'n'. -/
noncomputable def un (s : ByteArray) : Nat → Int → Int → Option Int
  | 0, _, n => some n
  | m + 1, k, n => bif decide (ixB hexD (byteAt s k) < 0) then none else un s m (k + 1) (uN n (ixB hexD (byteAt s k)))
theorem U_loops (O : FOps) (s : ByteArray) (h8 : s.size = 8) : ∀ (m : Nat) (k n : Int), 0 ≤ k → k + m = 8 →
    (∀ r, un s m k n = some r → Loops (cx0 O) NU (fun _ => none) (bodyOf Try.f29 5) 1 60 Uk (UD s 8 k n) (.exit 0) Ue [.i r]) ∧
    (un s m k n = none → Loops (cx0 O) NU (fun _ => none) (bodyOf Try.f29 5) 1 60 Uk (UD s 8 k n) .ret Ur []) := by
  intro m
  induction m with
  | zero =>
    intro k n hk hkn
    have e : k = 8 := by omega
    subst e
    refine ⟨fun r h => ?_, fun h => by cases h⟩
    cases h
    exact .done (ρ := []) (Uc O s 8 8 n) (AllT.one' (by simp))
  | succ m ih =>
    intro k n hk hkn
    obtain ⟨i1, i2⟩ := ih (k + 1) (uN n (ixB hexD (byteAt s k))) (by omega) (by omega)
    have b1 : decide (k < 8) = true := decide_eq_true (by omega)
    have b2 : decide (0 ≤ k ∧ k < (s.size : Int)) = true := decide_eq_true (by omega)
    have hU : un s (m + 1) k n = bif decide (ixB hexD (byteAt s k) < 0) then none else un s m (k + 1) (uN n (ixB hexD (byteAt s k))) := rfl
    rw [hU]
    have hA := Ua O s 8 k n
    rw [wrap_succ hk (by omega)] at hA
    cases hd : decide (ixB hexD (byteAt s k) < 0) with
    | true => exact ⟨fun r h => (by cases h), fun _ => .done (ρ := []) (Ub O s 8 k n) (AllT.cons b1 (AllT.cons b2 (AllT.one' hd)))⟩
    | false =>
      have hob : AllT [decide (k < 8), decide (0 ≤ k ∧ k < (s.size : Int)), !decide (ixB hexD (byteAt s k) < 0)] := AllT.cons b1 (AllT.cons b2 (AllT.one' (by rw [hd]; rfl)))
      exact ⟨fun r h => .step (ρ := []) hA hob (i1 r h), fun h => .step (ρ := []) hA hob (i2 h)⟩
noncomputable def UF : List LD → Option (XO × List Bool)
  | [.s s, .i n, .i len, .i k] => some ([(.s (un s 8 0 n).isNone, .ret, Ur, []), (.t, .exit 0, Ue, [.i ((un s 8 0 n).getD 0)])], [decide (s.size = 8 ∧ len = 8 ∧ k = 0)])
  | _ => none
noncomputable def UL (O : FOps) : List Ly → Top → Option Outs := orIter (cx0 O) NU (bodyOf Try.f29 5) (loopL NU 1 60 Uk [] UF)
theorem UL_ok : CodeOK Try.prog NU (.loop (bodyOf Try.f29 5)) (UL fops) := by
  refine orIter_ok (l := L0) okL0 mixed 8 (loopL_ok (cx := cx0 fops) (lp := fun _ => none) (fun ts => body_ok (l := L0) okL0 mixed 8 _ ts) fun p r hr hob => ?_)
  unfold UF at hr
  split at hr <;> cases hr
  rename_i s n len k
  obtain ⟨e0, e1, e2⟩ := of_decide_eq_true hob.head
  subst e1; subst e2
  obtain ⟨i1, i2⟩ := U_loops fops s e0 8 0 n (by decide) (by decide)
  cases h : un s 8 0 n with
  | none => exact ⟨.ret, Ur, _, rfl, i2 h⟩
  | some r => exact ⟨.exit 0, Ue, _, rfl, i1 r h⟩
theorem cU : CallOK Try.prog 29 (inl (cx0 fops) Try.f29 ⟨fun _ => none, lpOf [(5, UL fops)]⟩) := by
  have hb : Try.f29.body.isSome = true := by kernel_rfl
  obtain ⟨c, hc⟩ := Option.isSome_iff_exists.1 hb
  have h1 : (match Try.f29.body with | some c => onceB (loopsIn c) && (match loopAt 5 (loopsIn c) with | some _ => true | none => false) | none => false) = true := by kernel_rfl
  rw [hc] at h1
  simp only [Bool.and_eq_true] at h1
  exact inlL_of (l := L0) (ls := [(5, UL fops)]) okL0 mixed 8 Try.func29 (by kernel_rfl) (fun _ => none) hc h1.1 ⟨⟨_, bodyOf_at hc h1.2, UL_ok⟩, trivial⟩
noncomputable def rdS (s : ByteArray) : Nat → Int → Int → Option Int
  | 0, _, n => some n
  | m + 1, k, n => bif loB (byteAt s k) then rdS s m (k + 1) (rL n (byteAt s k)) else bif hiB (byteAt s k) then rdS s m (k + 1) (rH n (byteAt s k)) else none
theorem R_loops (O : FOps) (s : ByteArray) (h8 : s.size = 8) : ∀ (m : Nat) (k n : Int), 0 ≤ k → k + m = 8 →
    (∀ r, rdS s m k n = some r → Loops (cx0 O) NR (fun _ => none) (bodyOf Try.f28 5) 1 60 Rk (RD s k n) (.exit 0) Re [.i r]) ∧
    (rdS s m k n = none → Loops (cx0 O) NR (fun _ => none) (bodyOf Try.f28 5) 1 60 Rk (RD s k n) .ret Rr [.f 0]) := by
  intro m
  induction m with
  | zero =>
    intro k n hk hkn
    have e : k = 8 := by omega
    subst e
    refine ⟨fun r h => ?_, fun h => by cases h⟩
    cases h
    exact .done (ρ := []) (Rd O s 8 n) (AllT.one' (by simp))
  | succ m ih =>
    intro k n hk hkn
    have b1 : decide (k < 8) = true := decide_eq_true (by omega)
    have b2 : inb s k = true := decide_eq_true (by omega)
    have hU : rdS s (m + 1) k n = bif loB (byteAt s k) then rdS s m (k + 1) (rL n (byteAt s k)) else bif hiB (byteAt s k) then rdS s m (k + 1) (rH n (byteAt s k)) else none := rfl
    rw [hU]
    have hA := Ra O s k n
    have hB := Rb O s k n
    rw [wrap_succ hk (by omega)] at hA hB
    cases hl : loB (byteAt s k) with
    | true =>
      obtain ⟨i1, i2⟩ := ih (k + 1) (rL n (byteAt s k)) (by omega) (by omega)
      have hob : AllT [decide (k < 8), inb s k, loB (byteAt s k)] := AllT.cons b1 (AllT.cons b2 (AllT.one' hl))
      exact ⟨fun r h => .step (ρ := []) hA hob (i1 r h), fun h => .step (ρ := []) hA hob (i2 h)⟩
    | false =>
      cases hh : hiB (byteAt s k) with
      | true =>
        obtain ⟨i1, i2⟩ := ih (k + 1) (rH n (byteAt s k)) (by omega) (by omega)
        have hob : AllT [decide (k < 8), inb s k, !loB (byteAt s k), hiB (byteAt s k)] := AllT.cons b1 (AllT.cons b2 (AllT.cons (by rw [hl]; rfl) (AllT.one' hh)))
        exact ⟨fun r h => .step (ρ := []) hB hob (i1 r h), fun h => .step (ρ := []) hB hob (i2 h)⟩
      | false =>
        exact ⟨fun r h => (by cases h), fun _ => .done (ρ := []) (Rc O s k n) (AllT.cons b1 (AllT.cons b2 (AllT.cons (by rw [hl]; rfl) (AllT.one' (by rw [hh]; rfl)))))⟩
noncomputable def RF : List LD → Option (XO × List Bool)
  | [.s s, .i n, .i k] => some ([(.s (rdS s 8 0 n).isNone, .ret, Rr, [.f 0]), (.t, .exit 0, Re, [.i ((rdS s 8 0 n).getD 0)])], [decide (s.size = 8 ∧ k = 0)])
  | _ => none
noncomputable def RL (O : FOps) : List Ly → Top → Option Outs := orIter (cx0 O) NR (bodyOf Try.f28 5) (loopL NR 1 60 Rk [] RF)
theorem RL_ok : CodeOK Try.prog NR (.loop (bodyOf Try.f28 5)) (RL fops) := by
  refine orIter_ok (l := L0) okL0 mixed 8 (loopL_ok (cx := cx0 fops) (lp := fun _ => none) (fun ts => body_ok (l := L0) okL0 mixed 8 _ ts) fun p r hr hob => ?_)
  unfold RF at hr
  split at hr <;> cases hr
  rename_i s n k
  obtain ⟨e0, e2⟩ := of_decide_eq_true hob.head
  subst e2
  obtain ⟨i1, i2⟩ := R_loops fops s e0 8 0 n (by decide) (by decide)
  cases h : rdS s 8 0 n with
  | none => exact ⟨.ret, Rr, _, rfl, i2 h⟩
  | some r => exact ⟨.exit 0, Re, _, rfl, i1 r h⟩
theorem cR : CallOK Try.prog 28 (inl (cx0 fops) Try.f28 ⟨fun _ => none, lpOf [(5, RL fops)]⟩) := by
  have hb : Try.f28.body.isSome = true := by kernel_rfl
  obtain ⟨c, hc⟩ := Option.isSome_iff_exists.1 hb
  have h1 : (match Try.f28.body with | some c => onceB (loopsIn c) && (match loopAt 5 (loopsIn c) with | some _ => true | none => false) | none => false) = true := by kernel_rfl
  rw [hc] at h1
  simp only [Bool.and_eq_true] at h1
  exact inlL_of (l := L0) (ls := [(5, RL fops)]) okL0 mixed 8 Try.func28 (by kernel_rfl) (fun _ => none) hc h1.1 ⟨⟨_, bodyOf_at hc h1.2, RL_ok⟩, trivial⟩
/-! ### what they come to -/
set_option maxRecDepth 100000 in
theorem U_run (O : FOps) (s : ByteArray) : rE 1 (inl (cx0 O) Try.f29 ⟨fun _ => none, lpOf [(5, UL O)]⟩ 1 [.c (.str s)] []) =
    some (.tup [.c (.int .u32 (.s (bif !decide ((s.size : Int) = 8) then 0 else bif (un s 8 0 0).isNone then 0 else (un s 8 0 0).getD 0))), .c (.bool (.s (bif !decide ((s.size : Int) = 8) then false else bif (un s 8 0 0).isNone then false else true)))], [!decide ((s.size : Int) = 8) || decide (s.size = 8 ∧ (s.size : Int) = 8 ∧ (0 : Int) = 0)]) := by kernel_rfl
end
end Go.Proofs.Ytaodbpejeglmlaa.Rdn
