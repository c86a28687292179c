/- Whether two chimneys are the same, with any number of flues. Nothing is assumed. -/
import Derived.Test.YtaodbpejeglmlaaDoorChy
namespace Go.Proofs.YtaodbpejeglmlaaDoor.Chs
open Go SlFlue Chy
noncomputable section
noncomputable def sg : List (Nat × KS) := [(1, ⟨false, false, .rows 5⟩), (2, ⟨false, false, .rows 5⟩)]
noncomputable def skR : Sk := ⟨[(4, .c (.boolc false))], [], 3⟩
noncomputable def skE : Sk := ⟨[], [], 3⟩
noncomputable def sm (F H : Nat → Int → Nat) (c : Nat) (k : Int) : Bool := Nat.beq (F c k) (H c k)
noncomputable def sa (F H : Nat → Int → Nat) (k : Int) : Bool := bif !sm F H 0 k then false else bif !sm F H 1 k then false else bif !sm F H 2 k then false else bif !sm F H 3 k then false else true
noncomputable def tI (F : Nat → Int → Nat) (G : Nat → Int → Int) (H : Nat → Int → Nat) (I : Nat → Int → Int) (k : Int) : Bool := bif !decide (G 4 k = I 4 k) then true else !sa F H k
noncomputable def tS (F : Nat → Int → Nat) (G : Nat → Int → Int) (H : Nat → Int → Nat) (I : Nat → Int → Int) (k : Int) : Bool :=
  bif !sm F H 0 k then true else bif !sm F H 1 k then true else bif !sm F H 2 k then true else bif !sm F H 3 k then true else !decide (G 4 k = I 4 k)
theorem t_eq (F : Nat → Int → Nat) (G : Nat → Int → Int) (H : Nat → Int → Nat) (I : Nat → Int → Int) (k : Int) : tS F G H I k = tI F G H I k := by
  unfold tS tI sa
  cases sm F H 0 k <;> cases sm F H 1 k <;> cases sm F H 2 k <;> cases sm F H 3 k <;> cases decide (G 4 k = I 4 k) <;> rfl
noncomputable def qM (F : Nat → Int → Nat) (G : Nat → Int → Int) (H : Nat → Int → Nat) (I : Nat → Int → Int) (k : Int) : Bool := !tI F G H I k
noncomputable def b4 (n m k : Int) : List Bool := [bnd n k, bnd n k, bnd m k, bnd m k]
noncomputable def hd (n m k : Int) : List Bool := [decide (k < n)] ++ b4 n m k
noncomputable def mdI (_ _ : Nat → Int → Nat) (_ _ _ : Int) : List Bool := []
noncomputable def mdS (F H : Nat → Int → Nat) (n m k : Int) : List Bool := gdB (!sm F H 0 k) (b4 n m k) ++ gdB (!sm F H 0 k) (gdB (!sm F H 1 k) (b4 n m k)) ++ gdB (!sm F H 0 k) (gdB (!sm F H 1 k) (gdB (!sm F H 2 k) (b4 n m k))) ++ gdB (!sm F H 0 k) (gdB (!sm F H 1 k) (gdB (!sm F H 2 k) (gdB (!sm F H 3 k) (b4 n m k))))
noncomputable def fl2 (F : Nat → Int → Nat) (G : Nat → Int → Int) (H : Nat → Int → Nat) (I : Nat → Int → Int) : List Bool := [flatR (Row H I), flatR (Row F G)]
theorem b4_ok {n k : Int} (h0 : 0 ≤ k) (h1 : k < n) : AllT (b4 n n k) := by
  have b := bnd_ok h0 h1
  exact AllT.cons b (AllT.cons b (AllT.cons b (AllT.one b)))
theorem hd_ok {n k : Int} (h0 : 0 ≤ k) (h1 : k < n) : AllT (hd n n k) := AllT.app (AllT.one (by simpa using h1)) (b4_ok h0 h1)
theorem mdS_ok (F H : Nat → Int → Nat) {n k : Int} (h0 : 0 ≤ k) (h1 : k < n) : AllT (mdS F H n n k) := by
  have b := b4_ok h0 h1
  exact AllT.app (AllT.app (AllT.app (gdB_ok fun _ => b) (gdB_ok fun _ => gdB_ok fun _ => b)) (gdB_ok fun _ => gdB_ok fun _ => gdB_ok fun _ => b)) (gdB_ok fun _ => gdB_ok fun _ => gdB_ok fun _ => gdB_ok fun _ => b)
def PreM (n m k M N : Int) (row row' : Int → List SC) : Prop := m = n ∧ k = 0 ∧ M = n ∧ N = n ∧ 0 ≤ n ∧ n ≤ 1048576 ∧ Shape ts row ∧ Shape ts row'
/-- Whether two chimneys are the same. -/
noncomputable def sR (n m : Int) (row row' : Int → List SC) : Bool := bif !decide (n = m) then false else bif !eqFrom (qM (datF row) (datG row) (datF row') (datG row')) 0 n.toNat then false else true
noncomputable def smH : CS := fun base args rd => match args with
  | [.c (.sl i o es (.s n) _), .c (.sl i' o' es' (.s m) _)] => match rd with
    | [(j', ⟨_, _, .rows st' M row'⟩), (j, ⟨_, _, .rows st N row⟩)] => match Nat.beq base 3 && (Nat.beq i 2 && (Nat.beq o 0 && (Nat.beq es 5 && (Nat.beq j 2 && (Nat.beq st 5 && (Nat.beq i' 1 && (Nat.beq o' 0 && (Nat.beq es' 5 && (Nat.beq j' 1 && Nat.beq st' 5))))))))) with
      | true => some ⟨.c (.bool (.s (sR n m row row'))), [], 60, [okE' n N row m M row']⟩
      | false => none
    | _ => none
  | _ => none
/-! ### impl.SameChimney -/
noncomputable def skI : Sk := ⟨[(0, .c (.sl 2 0 5 false)), (1, .c (.sl 1 0 5 false)), (13, .c (.sl 2 0 5 false)), (14, .c (.int .i64)), (15, .c (.int .i64))], sg, 3⟩
noncomputable def hIa : List (Nat × Bool) := [(16, true), (50, false)]
noncomputable def hIb : List (Nat × Bool) := [(16, true), (50, true)]
noncomputable def hIe : List (Nat × Bool) := [(16, false)]
noncomputable def FI : List LD → Option (XO × List Bool)
  | [.i n, .i m, .i n1, .i n2, .i k, .i M, .r row', .i N, .r row] => some ([(.s (!eqFrom (qM (datF row) (datG row) (datF row') (datG row')) 0 n.toNat), .ret, skR, []), (.t, .exit 0, skE, [])], [pB (n1 = n ∧ n2 = n ∧ PreM n m k M N row row')])
  | _ => none
noncomputable def skS : Sk := ⟨[(0, .c (.sl 2 0 5 false)), (1, .c (.sl 1 0 5 false)), (5, .c (.int .i64))], sg, 3⟩
noncomputable def hSa : List (Nat × Bool) := [(14, true), (83, false)]
noncomputable def hSb : List (Nat × Bool) := [(14, true), (83, true)]
noncomputable def hSe : List (Nat × Bool) := [(14, false)]
noncomputable def FS : List LD → Option (XO × List Bool)
  | [.i n, .i m, .i k, .i M, .r row', .i N, .r row] => some ([(.s (!eqFrom (qM (datF row) (datG row) (datF row') (datG row')) 0 n.toNat), .ret, skR, []), (.t, .exit 0, skE, [])], [pB (PreM n m k M N row row')])
  | _ => none
end
end Go.Proofs.YtaodbpejeglmlaaDoor.Chs
