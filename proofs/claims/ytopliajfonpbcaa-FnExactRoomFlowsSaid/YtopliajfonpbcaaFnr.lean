/- Whether all numbers of a list are finite, with any number of them. Nothing is assumed. -/
import Derived.Test.YtopliajfonpbcaaSlFloat32
import Derived.Test.YtopliajfonpbcaaGl
namespace Go.Proofs.Ytopliajfonpbcaa.Fnr
open Go
noncomputable section
def LA : List (Nat × CS) := [(99, absS)]
set_option maxRecDepth 100000 in
theorem okLA : AllOK Try.prog LA := ⟨cAbs, trivial⟩
def cxA (O : FOps) : Cx := ⟨Try.prog, O, orcN Try.prog O LA 8⟩
theorem shF {ts : List KK} {row : Int → List SC} (h : Shape ts row) : flatR row = true := by rw [h]; exact rowK_flat _ _ _
def skR (t : Nat) (nx : Nat) : Sk := ⟨[(t, .c (.boolc false))], [], nx⟩
noncomputable def NFi : Nat := Try.f47.ntmps
noncomputable def Fik : Sk := ⟨[(5, .c (.sl 1 0 1 false)), (6, .c (.int .i64)), (7, .c (.int .i64))], [(1, ⟨false, false, .rows 1⟩)], 2⟩
noncomputable def Fie : Sk := ⟨[], [], 2⟩
noncomputable def FiD (F : Nat → Int → Nat) (G : Nat → Int → Int) (n : Int) (k : Int) : List LD := [.i n, .i n, .i k] ++ [.i n, .r (SlFloat32.Row F G)]
noncomputable def Fig (O : FOps) (u v : Bool) (s : Sk) (F : Nat → Int → Nat) (G : Nat → Int → Int) (n : Int) (k : Int) : Option (Option XK × List LD × List Bool) := goL (cxA O) NFi ⟨hints [(8, u), (18, v)], fun _ => none⟩ (bodyOf Try.f47 2) 2 60 Fik [] s (FiD F G n k)
set_option maxRecDepth 100000 in
theorem Fia (O : FOps) (F : Nat → Int → Nat) (G : Nat → Int → Int) (n : Int) (k : Int) : Fig O true false Fik F G n k = some (none, FiD F G n (IntKind.i64.wrap (k + 1)), [decide (k < n)] ++ [bd n k, bd n k] ++ [!infI O (F 0 k)] ++ [flatR (SlFloat32.Row F G)]) := by kernel_rfl
set_option maxRecDepth 100000 in
theorem Fib (O : FOps) (F : Nat → Int → Nat) (G : Nat → Int → Int) (n : Int) (k : Int) : Fig O true true (skR 2 2) F G n k = some (some .ret, [], [decide (k < n)] ++ [bd n k, bd n k] ++ [infI O (F 0 k)]) := by kernel_rfl
set_option maxRecDepth 100000 in
theorem Fic (O : FOps) (F : Nat → Int → Nat) (G : Nat → Int → Int) (n : Int) (k : Int) : Fig O false true Fie F G n k = some (some (.exit 0), [], [!decide (k < n)]) := by kernel_rfl
theorem Fil (F : Nat → Int → Nat) (G : Nat → Int → Int) (n : Int) (hn : n ≤ 1048576) : ∀ (m : Nat) (k : Int), 0 ≤ k → k + m = n →
    (eqFrom (fun k => isNum (F 0 k)) k m = true → Loops (cxA fops) NFi (fun _ => none) (bodyOf Try.f47 2) 2 60 Fik (FiD F G n k) (.exit 0) Fie ([])) ∧
    (eqFrom (fun k => isNum (F 0 k)) k m = false → Loops (cxA fops) NFi (fun _ => none) (bodyOf Try.f47 2) 2 60 Fik (FiD F G n k) .ret (skR 2 2) []) := by
  refine scan_loops (D := FiD F G n) (n := n) (fun k hk hlt hq => ?_) (fun k hk hlt hq => ?_) ?_
  · have r := Fia fops F G n k
    rw [wrap_succ hk (by omega)] at r
    have hq' : isNum (F 0 k) = true := hq
    exact .mk _ (ρ := []) r (AllT.app (AllT.app (AllT.app (AllT.one' (by simpa using hlt)) (AllT.cons (bd_ok hk hlt) (AllT.one' (bd_ok hk hlt)))) (AllT.one' (by rw [infI_eq, hq']; rfl))) (AllT.one' (rowK_flat _ _ _)))
  · have hq' : isNum (F 0 k) = false := hq
    exact .mk _ (ρ := []) (Fib fops F G n k) (AllT.app (AllT.app (AllT.one' (by simpa using hlt)) (AllT.cons (bd_ok hk hlt) (AllT.one' (bd_ok hk hlt)))) (AllT.one' (by rw [infI_eq, hq']; rfl)))
  · exact .mk _ (ρ := []) (Fic fops F G n n) (AllT.one' (by simp))
def FiP (l2 k n N : Int) (row : Int → List SC) : Prop := l2 = n ∧ k = 0 ∧ N = n ∧ 0 ≤ n ∧ n ≤ 1048576 ∧ Shape SlFloat32.ts row
noncomputable def FiF : List LD → Option (XO × List Bool)
  | [.i n, .i l2, .i k, .i N, .r row] => some ([(.s (!eqFrom (fun k => isNum (datF row 0 k)) 0 n.toNat), .ret, (skR 2 2), []), (.t, .exit 0, Fie, [])], [pB (FiP l2 k n N row)])
  | _ => none
noncomputable def FiL (O : FOps) : List Ly → Top → Option Outs := orIter (cxA O) NFi (bodyOf Try.f47 2) (loopL NFi 2 60 Fik [] FiF)
set_option maxRecDepth 100000 in
theorem Fio : CodeOK Try.prog NFi (.loop (bodyOf Try.f47 2)) (FiL fops) := by
  refine orIter_ok (l := LA) okLA mixed 8 (loopL_ok (cx := cxA fops) (lp := fun _ => none) (fun ts => body_ok (l := LA) okLA mixed 8 _ ts) fun p r hr hob => ?_)
  unfold FiF at hr
  split at hr <;> cases hr
  rename_i n l2 k N row
  obtain ⟨e0, e1, e2, h0, hm, s0⟩ := pB_iff.1 hob.head
  rw [e0, e1, e2]
  obtain ⟨h1, h2⟩ := Fil (datF row) (datG row) n hm (n).toNat 0 (Int.le_refl _) (by show (0 : Int) + ((n).toNat : Nat) = _; omega)
  unfold FiD at h1 h2
  rw [← (show row = SlFloat32.Row (datF row) (datG row) from s0)] at h1 h2
  cases hq : eqFrom (fun k => isNum (datF row 0 k)) 0 (n).toNat with
  | true => exact ⟨_, _, _, by simp [pickX, SB.val], h1 hq⟩
  | false => exact ⟨_, _, _, by simp [pickX, SB.val], h2 hq⟩
/-- All numbers of a list are finite. -/
def finN (nm : Nat → Bool) (n : Int) (row : Int → List SC) : Bool := bif !eqFrom (fun k => nm (datF row 0 k)) 0 n.toNat then false else true
def frH (nm : Nat → Bool) : CS := fun base args rd => match args with
  | [.c (.sl i o es (.s n) _)] => match rd with
    | [(j, ⟨_, _, .rows st N row⟩)] => match Nat.beq base 2 && (Nat.beq i 1 && (Nat.beq o 0 && (Nat.beq es 1 && (Nat.beq j 1 && Nat.beq st 1)))) with
      | true => some ⟨.c (.bool (.s (finN nm n row))), [], 60, [SlFloat32.okN n N row]⟩
      | false => none
    | _ => none
  | _ => none
set_option maxRecDepth 100000 in
theorem FiC : CallOK Try.prog 47 (inl (cxA fops) Try.f47 ⟨fun _ => none, lpOf [(2, FiL fops)]⟩) := by
  have hb : Try.f47.body.isSome = true := by kernel_rfl
  obtain ⟨c, hc⟩ := Option.isSome_iff_exists.1 hb
  have h1 : (match Try.f47.body with | some c => onceB (loopsIn c) && (match loopAt 2 (loopsIn c) with | some _ => true | none => false) | none => false) = true := by kernel_rfl
  rw [hc] at h1
  simp only [Bool.and_eq_true] at h1
  exact inlL_of (l := LA) (ls := [(2, FiL fops)]) okLA mixed 8 Try.func47 (by kernel_rfl) (fun _ => none) hc h1.1 ⟨⟨_, bodyOf_at hc h1.2, Fio⟩, trivial⟩
set_option maxRecDepth 100000 in
theorem FiR (O : FOps) (f w o : Bool) (n N : Int) (row : Int → List SC) : roS (inl (cxA O) Try.f47 ⟨fun _ => none, lpOf [(2, FiL O)]⟩) 2 [.c (.sl 1 0 1 (.s n) f)] [(1, ⟨w, o, .rows 1 N row⟩)] =
    some ⟨.c (.bool (.s (finN isNum n row))), [], 60, [flatR row, pB (FiP n 0 n N row)]⟩ := by kernel_rfl
def frS (nm : Nat → Bool) : CS := orS (canS (frH nm)) (gQ [.s 1] (finG nm))
set_option maxRecDepth 100000 in
theorem cFr : CallOK Try.prog 47 (frS isNum) :=
  (CallOK.hand (H := frH isNum) FiC.ro fun b args rd e h hob => by
    unfold frH at h
    split at h <;> try (cases h; done)
    rename_i i o es n f
    split at h <;> try (cases h; done)
    rename_i j w p st N row
    split at h <;> cases h
    rename_i hc
    simp only [Bool.and_eq_true, beqN] at hc
    obtain ⟨rfl, rfl, rfl, rfl, rfl, rfl⟩ := hc
    obtain ⟨e, h0, hm, hs⟩ := pB_iff.1 hob.head
    subst e
    exact ⟨_, FiR fops f w p N N row, AllT.cons (shF hs) (AllT.one' (pB_iff.2 ⟨rfl, rfl, rfl, h0, hm, hs⟩))⟩).can.or cFin
end
end Go.Proofs.Ytopliajfonpbcaa.Fnr
