/- The text of a number. Nothing is assumed. -/
import Derived.Test.YtaodbpejeglmlaaDoorFn
import Derived.Lib.Bytealg
namespace Go.Proofs.YtaodbpejeglmlaaDoor
open Go
noncomputable section

def hexD : ByteArray := ⟨#[48, 49, 50, 51, 52, 53, 54, 55, 56, 57, 97, 98, 99, 100, 101, 102]⟩
def nanT : ByteArray := ⟨#[55, 102, 99, 48, 48, 48, 48, 48]⟩
def digN (n : Nat) : Int := byteAt hexD (n % 16 : Nat)
def hexT (x : Nat) : ByteArray := bytesL [digN (x / 2 ^ 28), digN (x / 2 ^ 24), digN (x / 2 ^ 20), digN (x / 2 ^ 16), digN (x / 2 ^ 12), digN (x / 2 ^ 8), digN (x / 2 ^ 4), digN x]
def iD (x k : Nat) : Int := andI .u32 ((x : Int).fdiv (2 ^ min k 32)) 15
def iB (O : FOps) (x : Nat) (D : Nat → Nat → Int) : ByteArray := bif O.cmp .neq .f32 x x then nanT else bytesL [byteAt hexD (D x 28), byteAt hexD (D x 24), byteAt hexD (D x 20), byteAt hexD (D x 16), byteAt hexD (D x 12), byteAt hexD (D x 8), byteAt hexD (D x 4), byteAt hexD (D x 0)]
def inD (n : Int) : Bool := decide (0 ≤ n ∧ n < 16)
def iO (O : FOps) (x : Nat) : List Bool :=
  (O.cmp .neq .f32 x x || !Nat.beq x (qnan .f32)) :: [28, 24, 20, 16, 12, 8, 4, 0].map fun k => O.cmp .neq .f32 x x || inD (iD x k)
set_option maxRecDepth 100000 in
theorem hexI_run (O : FOps) (x : Nat) : rE 1 (inl ⟨Tryd.prog, O, orcN Tryd.prog O [(57, bits32S)] 8⟩ Tryd.f35 ⟨fun _ => none, fun _ => none⟩ 1 [.c (.flt .f32 x)] []) = some (.c (.str (iB O x iD)), iO O x) := by kernel_rfl
def sB (O : FOps) (x : Nat) : Int := bif O.cmp .neq .f32 x x then 2143289344 else x
def sN (b : Int) : Nat → Int
  | 0 => b
  | j + 1 => IntKind.u32.wrap ((sN b j).tdiv 16)
def sD (b : Int) (j : Nat) : Int := (sN b j).tmod 16
def sO (O : FOps) (x : Nat) : List Bool :=
  [O.cmp .neq .f32 x x || !Nat.beq x (qnan .f32),
   true, inD (sD (sB O x) 0), true, true, inD (sD (sB O x) 1), true, true, inD (sD (sB O x) 2), true, true, inD (sD (sB O x) 3), true,
   true, inD (sD (sB O x) 4), true, true, inD (sD (sB O x) 5), true, true, inD (sD (sB O x) 6), true, true, inD (sD (sB O x) 7), true]
set_option maxRecDepth 100000 in
theorem hexS_run (O : FOps) (x : Nat) : rE 1 (inl ⟨Tryd.prog, O, orcN Tryd.prog O [(57, bits32S)] 8⟩ Tryd.f32 ⟨fun _ => none, fun _ => none⟩ 1 [.c (.flt .f32 x)] []) =
    some (.c (.str (bytesL [byteAt hexD (sD (sB O x) 7), byteAt hexD (sD (sB O x) 6), byteAt hexD (sD (sB O x) 5), byteAt hexD (sD (sB O x) 4), byteAt hexD (sD (sB O x) 3), byteAt hexD (sD (sB O x) 2), byteAt hexD (sD (sB O x) 1), byteAt hexD (sD (sB O x) 0)])), sO O x) := by kernel_rfl

/-! ### the law of it -/
theorem wrap_nat {n : Nat} (h : n < 4294967296) : IntKind.u32.wrap (n : Int) = n := by
  show (n : Int) % 4294967296 = n
  omega
theorem and_mod (x k : Nat) (hx : x < 4294967296) (hk : k ≤ 28) : iD x k = ((x / 2 ^ k % 16 : Nat) : Int) := by
  unfold iD andI
  rw [Nat.min_eq_left (by omega), show ((2 : Int) ^ k) = ((2 ^ k : Nat) : Int) by simp, ← Int.ofNat_fdiv]
  have h1 : x / 2 ^ k < 4294967296 := Nat.lt_of_le_of_lt (Nat.div_le_self _ _) hx
  generalize x / 2 ^ k = y at h1
  have h2 : (BitVec.ofInt 32 (y : Int) &&& BitVec.ofInt 32 15).toNat = y % 16 := by
    rw [BitVec.toNat_and]
    simp only [BitVec.toNat_ofInt]
    rw [show ((y : Int) % ((2 ^ 32 : Nat) : Int)).toNat = y by omega, show ((15 : Int) % ((2 ^ 32 : Nat) : Int)).toNat = 2 ^ 4 - 1 by decide, Nat.and_two_pow_sub_one_eq_mod]
  show IntKind.u32.wrap ((BitVec.ofInt 32 (y : Int) &&& BitVec.ofInt 32 15).toNat : Nat) = _
  rw [h2]
  exact wrap_nat (by omega)
theorem sN_nat (x : Nat) (hx : x < 4294967296) : ∀ j, sN x j = ((x / 16 ^ j : Nat) : Int)
  | 0 => by simp [sN]
  | j + 1 => by
    unfold sN
    rw [sN_nat x hx j]
    rw [show (16 : Int) = ((16 : Nat) : Int) from rfl, ← Int.ofNat_tdiv, Nat.div_div_eq_div_mul, ← Nat.pow_succ]
    exact wrap_nat (Nat.lt_of_le_of_lt (Nat.div_le_self _ _) hx)
theorem sD_nat (x : Nat) (hx : x < 4294967296) (j : Nat) : sD x j = ((x / 16 ^ j % 16 : Nat) : Int) := by
  unfold sD
  rw [sN_nat x hx j]
  exact (Int.ofNat_tmod _ _).symm
theorem inD_nat (n : Nat) : inD ((n % 16 : Nat) : Int) = true := by
  unfold inD
  exact decide_eq_true ⟨by omega, by omega⟩
theorem nanT_eq : hexT 2143289344 = nanT := by decide +kernel
theorem hexI_eq {x : Nat} (hx : Cn .f32 x) : iB fops x iD = hexT x ∧ AllT (iO fops x) := by
  have hlt : x < 4294967296 := hx.lt
  unfold iB iO
  rw [cmp_neq_self]
  cases hn : nanb .f32 x with
  | true =>
    have hq := hx.nan
    rw [hn] at hq
    have : x = 2143289344 := beqN.1 hq.symm
    subst this
    refine ⟨nanT_eq.symm, ?_⟩
    intro b hb
    simp at hb
    exact hb
  | false =>
    have hq := hx.nan
    rw [hn] at hq
    refine ⟨?_, ?_⟩
    · show bytesL _ = _
      rw [and_mod x 28 hlt (by omega), and_mod x 24 hlt (by omega), and_mod x 20 hlt (by omega), and_mod x 16 hlt (by omega), and_mod x 12 hlt (by omega), and_mod x 8 hlt (by omega), and_mod x 4 hlt (by omega), and_mod x 0 hlt (by omega)]
      rw [show x / 2 ^ 0 = x by simp]
      rfl
    · rw [← hq]
      refine AllT.cons rfl ?_
      intro b hb
      obtain ⟨k, hk, rfl⟩ := List.mem_map.1 hb
      have : k ≤ 28 := by simp at hk; omega
      rw [and_mod x k hlt this, inD_nat]; rfl
theorem hexS_eq {x : Nat} (hx : Cn .f32 x) : bytesL [byteAt hexD (sD (sB fops x) 7), byteAt hexD (sD (sB fops x) 6), byteAt hexD (sD (sB fops x) 5), byteAt hexD (sD (sB fops x) 4), byteAt hexD (sD (sB fops x) 3), byteAt hexD (sD (sB fops x) 2), byteAt hexD (sD (sB fops x) 1), byteAt hexD (sD (sB fops x) 0)] = hexT x ∧ AllT (sO fops x) := by
  have hlt : x < 4294967296 := hx.lt
  have hb : sB fops x = x ∧ (fops.cmp .neq .f32 x x || !Nat.beq x (qnan .f32)) = true := by
    unfold sB
    rw [cmp_neq_self]
    cases hn : nanb .f32 x with
    | true =>
      have hq := hx.nan
      rw [hn] at hq
      have : x = 2143289344 := beqN.1 hq.symm
      subst this
      exact ⟨rfl, rfl⟩
    | false =>
      have hq := hx.nan
      rw [hn] at hq
      exact ⟨rfl, by rw [← hq]; rfl⟩
  unfold sO
  rw [hb.1, hb.2]
  simp only [sD_nat x hlt, inD_nat]
  refine ⟨?_, by intro b hb; simp at hb; exact hb⟩
  show _ = bytesL _
  unfold digN
  rw [show x / 16 ^ 0 = x by simp]
/-- The text of a number, told of a call. -/
def hexG : List SV → Option SV := fun args => match args with
  | [.c (.flt .f32 x)] => some (.c (.str (hexT x)))
  | _ => none
theorem cHexI : CallOK Tryd.prog 35 (gS hexG) :=
  gS_of2 (inlN_of (l := [(57, bits32S)]) ⟨cBits, trivial⟩ mixed 8 Tryd.func35 (by kernel_rfl) (fun _ => none)) fun args r E vals hG hr => by
    unfold hexG at hG
    split at hG <;> cases hG
    rename_i x
    have hx : Cn .f32 x := by
      match vals, hr with
      | v :: _, hr => exact FR.cn hr.1
    obtain ⟨h1, h2⟩ := hexI_eq hx
    refine ⟨rfl, _, _, hexI_run fops x, rfl, h2, ?_⟩
    rw [h1]
    exact fun E v hv => hv
theorem cHexS : CallOK Tryd.prog 32 (gS hexG) :=
  gS_of2 (inlN_of (l := [(57, bits32S)]) ⟨cBits, trivial⟩ mixed 8 Tryd.func32 (by kernel_rfl) (fun _ => none)) fun args r E vals hG hr => by
    unfold hexG at hG
    split at hG <;> cases hG
    rename_i x
    have hx : Cn .f32 x := by
      match vals, hr with
      | v :: _, hr => exact FR.cn hr.1
    obtain ⟨h1, h2⟩ := hexS_eq hx
    refine ⟨rfl, _, _, hexS_run fops x, rfl, h2, ?_⟩
    rw [h1]
    exact fun E v hv => hv
end
end Go.Proofs.YtaodbpejeglmlaaDoor
