/- The text of a stove: the rounds. Nothing is assumed. -/
import Derived.Test.YtaodbpejeglmlaaDoorStx0
namespace Go.Proofs.YtaodbpejeglmlaaDoor.Stx
open Go SlWood Stv Sto Jn Fm Wt
noncomputable section
def nlT : ByteArray := ⟨#[10]⟩
def stT : ByteArray := ⟨#[115, 116, 111, 118, 101]⟩
def stbT : ByteArray := ⟨#[115, 116, 111, 118, 101, 32]⟩
def Ls : List (Nat × CS) := [(35, gS hexG), (32, gS hexG), (34, Jn.joinS), (48, fmtS), (31, gSo (dG 10000000)), (47, gSo nG), (40, gSo nG), (49, gS wG), (41, gQ [.p 18] wG)]
set_option maxRecDepth 100000 in
theorem okLs : AllOK Tryd.prog Ls := ⟨cHexI, cHexS, Jn.cJoin, cFmt, cDec, cNI, cNS, cWI, cWS, trivial⟩
def cxS (O : FOps) : Cx := ⟨Tryd.prog, O, orcN Tryd.prog O Ls 8⟩
def inb (n k : Int) : Bool := decide (0 ≤ k ∧ k < n)
/-- A log's line. -/
def ln (F : Nat → Int → Nat) (k : Int) : ByteArray := wtU (fun i => at18 F k i) 6 ++ nlT
noncomputable def NX : Nat := Tryd.f26.ntmps
noncomputable def Ik : Sk := ⟨[(3, .c .str), (25, .c (.sl 1 0 18 false)), (26, .c (.int .i64)), (27, .c (.int .i64))], [(1, ⟨false, false, .rows 18⟩)], 4⟩
noncomputable def Ie : Sk := ⟨[(3, .c .str)], [], 60⟩
noncomputable def ID (F : Nat → Int → Nat) (G : Nat → Int → Int) (n k : Int) (s : ByteArray) : List LD := [.s s, .i n, .i n, .i k, .i n, .r (Row F G)]
noncomputable def Ig (O : FOps) (b : Bool) (sk : Sk) (F : Nat → Int → Nat) (G : Nat → Int → Int) (n k : Int) (s : ByteArray) : Option (Option XK × List LD × List Bool) := goL (cxS O) NX ⟨hints [(28, b)], fun _ => none⟩ (bodyOf Tryd.f26 3) 4 60 Ik [] sk (ID F G n k s)
noncomputable def obI (F : Nat → Int → Nat) (G : Nat → Int → Int) (n k : Int) (s : ByteArray) : List Bool :=
  [decide (k < n), inb n k, inb n k, true, sm s (ln F k), flatR (Row F G)]
set_option maxRecDepth 100000 in
theorem Ia (O : FOps) (F : Nat → Int → Nat) (G : Nat → Int → Int) (n k : Int) (s : ByteArray) : Ig O true Ik F G n k s = some (none, ID F G n (IntKind.i64.wrap (k + 1)) (s ++ ln F k), obI F G n k s) := by kernel_rfl
set_option maxRecDepth 100000 in
theorem Ib (O : FOps) (F : Nat → Int → Nat) (G : Nat → Int → Int) (n k : Int) (s : ByteArray) : Ig O false Ie F G n k s = some (some (.exit 0), [.s s], [!decide (k < n)]) := by kernel_rfl
noncomputable def NY : Nat := Tryd.f23.ntmps
noncomputable def Sk' : Sk := ⟨[(0, .c (.ptr 2 0)), (3, .c .str), (4, .c (.int .i64))], [(1, ⟨false, false, .rows 18⟩), (2, ⟨false, false, .cells stK⟩)], 3⟩
noncomputable def SD (F : Nat → Int → Nat) (G : Nat → Int → Int) (n k : Int) (o : ByteArray) (a b : Nat) (s t : Int) (c : Nat) : List LD := [.s o, .i k, .i n, .r (Row F G), .i n, .f a, .f b, .i s, .i t, .f c]
noncomputable def Sg (O : FOps) (h : Bool) (sk : Sk) (F : Nat → Int → Nat) (G : Nat → Int → Int) (n k : Int) (o : ByteArray) (a b : Nat) (s t : Int) (c : Nat) : Option (Option XK × List LD × List Bool) := goL (cxS O) NY ⟨hints [(46, h)], fun _ => none⟩ (bodyOf Tryd.f23 3) 3 60 Sk' [] sk (SD F G n k o a b s t c)
noncomputable def obS (F : Nat → Int → Nat) (G : Nat → Int → Int) (n k : Int) (s : ByteArray) : List Bool :=
  [decide (k < n), inb n k, inb n k, true, sm s (ln F k), flatR (Row F G)]
set_option maxRecDepth 100000 in
theorem Sa (O : FOps) (F : Nat → Int → Nat) (G : Nat → Int → Int) (n k : Int) (o : ByteArray) (a b : Nat) (s t : Int) (c : Nat) : Sg O true Sk' F G n k o a b s t c = some (none, SD F G n (IntKind.i64.wrap (k + 1)) (o ++ ln F k) a b s t c, obS F G n k o) := by kernel_rfl
set_option maxRecDepth 100000 in
theorem Sb (O : FOps) (F : Nat → Int → Nat) (G : Nat → Int → Int) (n k : Int) (o : ByteArray) (a b : Nat) (s t : Int) (c : Nat) : Sg O false Ie F G n k o a b s t c = some (some (.exit 0), [.s o], [!decide (k < n)]) := by kernel_rfl
end
end Go.Proofs.YtaodbpejeglmlaaDoor.Stx
