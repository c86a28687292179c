/- The text of a chimney: the loops. Nothing is assumed. -/
import Derived.Test.YtaodbpejeglmlaaDoorChy
import Derived.Test.YtaodbpejeglmlaaDoorJc
import Derived.Test.YtaodbpejeglmlaaDoorFm
namespace Go.Proofs.YtaodbpejeglmlaaDoor.Ctx
open Go SlFlue Jn Fm
noncomputable section

/-! ### Decimal, of a digit -/
def gSo (G : List SV → Option (SV × List Bool)) : CS := fun base args rd => match rd with
  | [] => match G args with
    | some r => some ⟨r.1, [], base, r.2⟩
    | none => none
  | _ :: _ => none
theorem gSo_ok {P : Program} {f : FuncId} {G0 : List SV → Option SV} (h : CallOK P f (gS G0)) {G : List SV → Option (SV × List Bool)} (hG : ∀ args r, G args = some r → AllT r.2 → G0 args = some r.1) : CallOK P f (gSo G) :=
  CallOK.hand h fun b args rd e he hob => by
    unfold gSo at he
    split at he <;> try (cases he; done)
    split at he <;> cases he
    rename_i r hr
    refine ⟨[], ?_, AllT.nil⟩
    unfold gS
    simp only [hG args r hr hob]
def dG : List SV → Option (SV × List Bool)
  | [.c (.int .i64 (.s n))] => some (.c (.str (decT n)), [decide (0 ≤ n ∧ n < 10)])
  | _ => none
def dG0 : List SV → Option SV
  | [.c (.int .i64 (.s n))] => if 0 ≤ n ∧ n < 10 then some (.c (.str (decT n))) else none
  | _ => none
noncomputable def dN (n : Int) : ByteArray := bytesL [IntKind.u8.wrap (IntKind.i64.wrap (48 + n))]
set_option maxRecDepth 100000 in
theorem dec_run (O : FOps) (n : Int) : rE 1 (inl ⟨Tryd.prog, O, orcN Tryd.prog O [] 8⟩ Tryd.f31 ⟨hints [(4, false)], fun _ => none⟩ 1 [.c (.int .i64 (.s n))] []) = some (.c (.str (dN n)), [!decide (n ≥ 10)]) := by kernel_rfl
theorem dN_eq {n : Int} (h0 : 0 ≤ n) (h1 : n < 10) : dN n = decT n := by
  obtain ⟨i, rfl⟩ := Int.eq_ofNat_of_zero_le h0
  have hi : i < 10 := by omega
  match i, hi with
  | 0, _ | 1, _ | 2, _ | 3, _ | 4, _ | 5, _ | 6, _ | 7, _ | 8, _ | 9, _ => decide +kernel
theorem cDec : CallOK Tryd.prog 31 (gSo dG) :=
  gSo_ok (G0 := dG0) (gS_of2 (inlN_of (l := []) trivial mixed 8 Tryd.func31 (by kernel_rfl) (hints [(4, false)])) fun args r E vals hG hr => by
    unfold dG0 at hG
    split at hG <;> try (cases hG; done)
    rename_i n
    split at hG <;> cases hG
    rename_i hn
    refine ⟨rfl, _, _, dec_run fops n, rfl, AllT.one' (by simp; omega), ?_⟩
    rw [dN_eq hn.1 hn.2]
    exact fun E v hv => hv) fun args r hr hob => by
    unfold dG at hr
    split at hr <;> cases hr
    unfold dG0
    exact if_pos (of_decide_eq_true hob.head)
/-! ### the lines -/
def dashT : ByteArray := ⟨#[45]⟩
def nlT : ByteArray := ⟨#[10]⟩
def Lc : List (Nat × CS) := [(35, gS hexG), (32, gS hexG), (34, Jn.joinS), (48, fmtS), (31, gSo dG)]
set_option maxRecDepth 100000 in
theorem okLc : AllOK Tryd.prog Lc := ⟨cHexI, cHexS, Jn.cJoin, cFmt, cDec, trivial⟩
def cxC (O : FOps) : Cx := ⟨Tryd.prog, O, orcN Tryd.prog O Lc 8⟩
def sdI (m : Int) : ByteArray := bif decide (m = -1) then dashT else decT m
def sdS (m : Int) : ByteArray := bif decide (0 ≤ m) then decT m else dashT
def lnL (F : Nat → Int → Nat) (G : Nat → Int → Int) (k : Int) : List ByteArray := [hexT (F 0 k), hexT (F 1 k), hexT (F 2 k), hexT (F 3 k), sdI (G 4 k)]
def lnI (F : Nat → Int → Nat) (G : Nat → Int → Int) (k : Int) : ByteArray := Jn.joinT (lnL F G k) spT ++ nlT
def inb (n k : Int) : Bool := decide (0 ≤ k ∧ k < n)
noncomputable def NI : Nat := Tryd.f19.ntmps
noncomputable def Ik : Sk := ⟨[(3, .c .str), (6, .c (.sl 1 0 5 false)), (7, .c (.int .i64)), (8, .c (.int .i64))], [(1, ⟨false, false, .rows 5⟩)], 2⟩
noncomputable def Ie : Sk := ⟨[(3, .c .str)], [], 60⟩
noncomputable def ID (F : Nat → Int → Nat) (G : Nat → Int → Int) (n k : Int) (s : ByteArray) : List LD := [.s s, .i n, .i n, .i k, .i n, .r (Row F G)]
noncomputable def Ig (O : FOps) (b : Bool) (sk : Sk) (F : Nat → Int → Nat) (G : Nat → Int → Int) (n k : Int) (s : ByteArray) : Option (Option XK × List LD × List Bool) := goL (cxC O) NI ⟨hints [(9, b)], fun _ => none⟩ (bodyOf Tryd.f19 3) 2 60 Ik [] sk (ID F G n k s)
noncomputable def obI (F : Nat → Int → Nat) (G : Nat → Int → Int) (n k : Int) (s : ByteArray) : List Bool :=
  [decide (k < n), inb n k, inb n k, decide (G 4 k = -1) || decide (0 ≤ G 4 k ∧ G 4 k < 100), Jn.joinOk (lnL F G k) spT, sm (Jn.joinT (lnL F G k) spT) nlT, sm s (lnI F G k), flatR (Row F G)]
set_option maxRecDepth 100000 in
theorem Ia (O : FOps) (F : Nat → Int → Nat) (G : Nat → Int → Int) (n k : Int) (s : ByteArray) : Ig O true Ik F G n k s = some (none, ID F G n (IntKind.i64.wrap (k + 1)) (s ++ lnI F G k), obI F G n k s) := by kernel_rfl
set_option maxRecDepth 100000 in
theorem Ib (O : FOps) (F : Nat → Int → Nat) (G : Nat → Int → Int) (n k : Int) (s : ByteArray) : Ig O false Ie F G n k s = some (some (.exit 0), [.s s], [!decide (k < n)]) := by kernel_rfl
/-! ### the spec's -/
def p7 (F : Nat → Int → Nat) (k : Int) : ByteArray := ((((((hexT (F 0 k) ++ spT) ++ hexT (F 1 k)) ++ spT) ++ hexT (F 2 k)) ++ spT) ++ hexT (F 3 k)) ++ spT
def lnS (F : Nat → Int → Nat) (G : Nat → Int → Int) (k : Int) : ByteArray := (p7 F k ++ sdS (G 4 k)) ++ nlT
noncomputable def NS : Nat := Tryd.f16.ntmps
noncomputable def Sk' : Sk := ⟨[(0, .c (.sl 1 0 5 false)), (3, .c .str), (4, .c (.int .i64))], [(1, ⟨false, false, .rows 5⟩)], 2⟩
noncomputable def SD (F : Nat → Int → Nat) (G : Nat → Int → Int) (n k : Int) (s : ByteArray) : List LD := [.i n, .s s, .i k, .i n, .r (Row F G)]
noncomputable def Sg (O : FOps) (b : Bool) (sk : Sk) (F : Nat → Int → Nat) (G : Nat → Int → Int) (n k : Int) (s : ByteArray) : Option (Option XK × List LD × List Bool) := goL (cxC O) NS ⟨hints [(10, b)], fun _ => none⟩ (bodyOf Tryd.f16 3) 2 60 Sk' [] sk (SD F G n k s)
noncomputable def obS (F : Nat → Int → Nat) (G : Nat → Int → Int) (n k : Int) (s : ByteArray) : List Bool :=
  [decide (k < n), inb n k, inb n k, !decide (0 ≤ G 4 k) || inb n k, !decide (0 ≤ G 4 k) || decide (0 ≤ G 4 k ∧ G 4 k < 10), inb n k, true, inb n k, true, true, inb n k, true, true, inb n k, true, true,
   sm (p7 F k) (sdS (G 4 k)), sm (p7 F k ++ sdS (G 4 k)) nlT, sm s (lnS F G k), flatR (Row F G)]
set_option maxRecDepth 100000 in
theorem Sa (O : FOps) (F : Nat → Int → Nat) (G : Nat → Int → Int) (n k : Int) (s : ByteArray) : Sg O true Sk' F G n k s = some (none, SD F G n (IntKind.i64.wrap (k + 1)) (s ++ lnS F G k), obS F G n k s) := by kernel_rfl
set_option maxRecDepth 100000 in
theorem Sb (O : FOps) (F : Nat → Int → Nat) (G : Nat → Int → Int) (n k : Int) (s : ByteArray) : Sg O false Ie F G n k s = some (some (.exit 0), [.s s], [!decide (k < n)]) := by kernel_rfl
end
end Go.Proofs.YtaodbpejeglmlaaDoor.Ctx
