/- Flats: their rows and lengths. Nothing is assumed. -/
import Derived.Test.YtopliajfonpbcaaSlFloat32
import Derived.Test.YtopliajfonpbcaaSlWall
import Derived.Test.YtopliajfonpbcaaSlPane
import Derived.Test.YtopliajfonpbcaaAmt
import Derived.Test.YtopliajfonpbcaaGl
import Derived.Test.YtopliajfonpbcaaLw
namespace Go.Proofs.Ytopliajfonpbcaa.Fla
open Go
noncomputable section
/-- The numbers of a flat: its heats, stores, walls and panes. -/
structure FD where
  F0 : Nat → Int → Nat
  F1 : Nat → Int → Nat
  F2 : Nat → Int → Nat
  F3 : Nat → Int → Nat
  G0 : Nat → Int → Int
  G1 : Nat → Int → Int
  G2 : Nat → Int → Int
  G3 : Nat → Int → Int
  n0 : Int
  n1 : Int
  n2 : Int
  n3 : Int
def FD.R0 (x : FD) : Int → List SC := SlFloat32.Row x.F0 x.G0
def FD.R1 (x : FD) : Int → List SC := SlFloat32.Row x.F1 x.G1
def FD.R2 (x : FD) : Int → List SC := SlWall.Row x.F2 x.G2
def FD.R3 (x : FD) : Int → List SC := SlPane.Row x.F3 x.G3
def L0 : List (Nat × CS) := [(62, amtS), (95, amtS), (99, absS)]
set_option maxRecDepth 100000 in
theorem okL0 : AllOK Try.prog L0 := ⟨cAmtI, cAmtL, cAbs, trivial⟩
def cx0 (O : FOps) : Cx := ⟨Try.prog, O, orcN Try.prog O L0 8⟩
def bxA : List KC := [.sl 4 0 1 false, .sl 3 0 1 false, .sl 2 0 8 false, .sl 1 0 4 false]
def sgA (own : Bool) : List (Nat × KS) := [(1, ⟨false, false, .rows 4⟩), (2, ⟨false, false, .rows 8⟩), (3, ⟨false, false, .rows 1⟩), (4, ⟨false, false, .rows 1⟩), (5, ⟨own, own, .cells bxA⟩)]
def daA (x : FD) : List LD := [.i x.n3, .r x.R3, .i x.n2, .r x.R2, .i x.n1, .r x.R1, .i x.n0, .r x.R0, .i x.n0, .i x.n1, .i x.n2, .i x.n3]
def sgB (own : Bool) : List (Nat × KS) := [(1, ⟨false, false, .rows 4⟩), (2, ⟨false, false, .rows 8⟩), (5, ⟨own, own, .cells [.any, .any, .sl 2 0 8 false, .sl 1 0 4 false]⟩)]
def daB (x : FD) : List LD := [.i x.n3, .r x.R3, .i x.n2, .r x.R2, .i x.n2, .i x.n3]
def sgC (own : Bool) : List (Nat × KS) := [(1, ⟨false, false, .rows 4⟩), (5, ⟨own, own, .cells [.any, .any, .any, .sl 1 0 4 false]⟩)]
def daC (x : FD) : List LD := [.i x.n3, .r x.R3, .i x.n3]
def skR (t : Nat) (nx : Nat) : Sk := ⟨[(t, .c (.boolc false))], [], nx⟩
def skN (nx : Nat) : Sk := ⟨[], [], nx⟩
end
end Go.Proofs.Ytopliajfonpbcaa.Fla
