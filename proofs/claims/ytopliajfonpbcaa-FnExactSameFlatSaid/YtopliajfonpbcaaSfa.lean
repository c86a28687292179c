/- Whether two lists of numbers are the same, with any number of them. Nothing is assumed. -/
import Derived.Test.YtopliajfonpbcaaFld
namespace Go.Proofs.Ytopliajfonpbcaa.Sfl
open Go Fla
noncomputable section
noncomputable def LN : List (Nat × CS) := [(55, sameS), (85, sameS)]
set_option maxRecDepth 100000 in
theorem okLN : AllOK Try.prog LN := ⟨cSameI, cSameL, trivial⟩
noncomputable def cxN (O : FOps) : Cx := ⟨Try.prog, O, orcN Try.prog O LN 8⟩
/-- Whether two lists are the same. -/
def sA (n m : Int) (row row' : Int → List SC) : Bool := bif !decide (n = m) then false else bif !eqFrom (fun k => Nat.beq (datF row 0 k) (datF row' 0 k)) 0 n.toNat then false else true
def saH : CS := fun base args rd => match args with
  | [.c (.sl i o es (.s n) _), .c (.sl i' o' es' (.s m) _)] => match rd with
    | [(j', ⟨_, _, .rows st' M row'⟩), (j, ⟨_, _, .rows st N row⟩)] => match Nat.beq base 3 && (Nat.beq i 2 && (Nat.beq o 0 && (Nat.beq es 1 && (Nat.beq j 2 && (Nat.beq st 1 && (Nat.beq i' 1 && (Nat.beq o' 0 && (Nat.beq es' 1 && (Nat.beq j' 1 && Nat.beq st' 1))))))))) with
      | true => some ⟨.c (.bool (.s (sA n m row row'))), [], 60, [SlFloat32.okE' n N row m M row']⟩
      | false => none
    | _ => none
  | _ => none
theorem saH_some {base : Nat} {args : List SV} {rd : List (Nat × Seg)} {e : CEff} (h : saH base args rd = some e) : ∃ f w o f' w' o' n N m M row row', base = 3 ∧ args = [.c (.sl 2 0 1 (.s n) f), .c (.sl 1 0 1 (.s m) f')] ∧ rd = [(1, ⟨w', o', .rows 1 M row'⟩), (2, ⟨w, o, .rows 1 N row⟩)] ∧
    e = ⟨.c (.bool (.s (sA n m row row'))), [], 60, [SlFloat32.okE' n N row m M row']⟩ := by
  unfold saH at h
  split at h <;> try (cases h; done)
  rename_i i o es n f i' o' es' m f'
  split at h <;> try (cases h; done)
  rename_i j' w' p' st' M row' j w p st N row
  split at h <;> cases h
  rename_i hc
  simp only [Bool.and_eq_true, beqN] at hc
  obtain ⟨rfl, rfl, rfl, rfl, rfl, rfl, rfl, rfl, rfl, rfl, rfl⟩ := hc
  exact ⟨_, _, _, _, _, _, _, _, _, _, _, _, rfl, rfl, rfl, rfl⟩
/-! ### impl.sameAll -/
noncomputable def NSaI : Nat := Try.f54.ntmps
noncomputable def SaIk : Sk := ⟨[(1, .c (.sl 1 0 1 false)), (12, .c (.sl 2 0 1 false)), (13, .c (.int .i64)), (14, .c (.int .i64))], [(1, ⟨false, false, .rows 1⟩), (2, ⟨false, false, .rows 1⟩)], 3⟩
noncomputable def SaIe : Sk := ⟨[], [], 3⟩
noncomputable def SaID (F : Nat → Int → Nat) (G : Nat → Int → Int) (H : Nat → Int → Nat) (I : Nat → Int → Int) (n : Int) (k : Int) : List LD := [.i n, .i n, .i n, .i k] ++ [.i n, .r (SlFloat32.Row H I), .i n, .r (SlFloat32.Row F G)]
noncomputable def SaIg (O : FOps) (u v : Bool) (s : Sk) (F : Nat → Int → Nat) (G : Nat → Int → Int) (H : Nat → Int → Nat) (I : Nat → Int → Int) (n : Int) (k : Int) : Option (Option XK × List LD × List Bool) := goL (cxN O) NSaI ⟨hints [(15, u), (25, v)], fun _ => none⟩ (bodyOf Try.f54 4) 3 60 SaIk [] s (SaID F G H I n k)
set_option maxRecDepth 100000 in
theorem SaIa (O : FOps) (F : Nat → Int → Nat) (G : Nat → Int → Int) (H : Nat → Int → Nat) (I : Nat → Int → Int) (n : Int) (k : Int) : SaIg O true false SaIk F G H I n k = some (none, SaID F G H I n (IntKind.i64.wrap (k + 1)), [decide (k < n)] ++ [bd n k, bd n k, bd n k, bd n k] ++ [!!Nat.beq (F 0 k) (H 0 k)] ++ [flatR (SlFloat32.Row H I), flatR (SlFloat32.Row F G)]) := by kernel_rfl
set_option maxRecDepth 100000 in
theorem SaIb (O : FOps) (F : Nat → Int → Nat) (G : Nat → Int → Int) (H : Nat → Int → Nat) (I : Nat → Int → Int) (n : Int) (k : Int) : SaIg O true true ⟨[(4, .c (.boolc false))], [], 3⟩ F G H I n k = some (some .ret, [], [decide (k < n)] ++ [bd n k, bd n k, bd n k, bd n k] ++ [!Nat.beq (F 0 k) (H 0 k)]) := by kernel_rfl
set_option maxRecDepth 100000 in
theorem SaIc (O : FOps) (F : Nat → Int → Nat) (G : Nat → Int → Int) (H : Nat → Int → Nat) (I : Nat → Int → Int) (n : Int) (k : Int) : SaIg O false true SaIe F G H I n k = some (some (.exit 0), [], [!decide (k < n)]) := by kernel_rfl
theorem SaIl (F : Nat → Int → Nat) (G : Nat → Int → Int) (H : Nat → Int → Nat) (I : Nat → Int → Int) (n : Int) (hn : n ≤ 1048576) : ∀ (m : Nat) (k : Int), 0 ≤ k → k + m = n →
    (eqFrom (fun k => Nat.beq (F 0 k) (H 0 k)) k m = true → Loops (cxN fops) NSaI (fun _ => none) (bodyOf Try.f54 4) 3 60 SaIk (SaID F G H I n k) (.exit 0) SaIe ([])) ∧
    (eqFrom (fun k => Nat.beq (F 0 k) (H 0 k)) k m = false → Loops (cxN fops) NSaI (fun _ => none) (bodyOf Try.f54 4) 3 60 SaIk (SaID F G H I n k) .ret ⟨[(4, .c (.boolc false))], [], 3⟩ []) := by
  refine scan_loops (D := SaID F G H I n) (n := n) (fun k hk hlt hq => ?_) (fun k hk hlt hq => ?_) ?_
  · have r := SaIa fops F G H I n k
    rw [wrap_succ hk (by omega)] at r
    have hq' : Nat.beq (F 0 k) (H 0 k) = true := hq
    exact .mk _ (ρ := []) r (AllT.app (AllT.app (AllT.app (AllT.one' (by simpa using hlt)) (AllT.cons (bd_ok hk hlt) (AllT.cons (bd_ok hk hlt) (AllT.cons (bd_ok hk hlt) (AllT.one' (bd_ok hk hlt)))))) (AllT.one' (by rw [hq']; rfl))) (AllT.cons (rowK_flat _ _ _) (AllT.one' (rowK_flat _ _ _))))
  · have hq' : Nat.beq (F 0 k) (H 0 k) = false := hq
    exact .mk _ (ρ := []) (SaIb fops F G H I n k) (AllT.app (AllT.app (AllT.one' (by simpa using hlt)) (AllT.cons (bd_ok hk hlt) (AllT.cons (bd_ok hk hlt) (AllT.cons (bd_ok hk hlt) (AllT.one' (bd_ok hk hlt)))))) (AllT.one' (by rw [hq']; rfl)))
  · exact .mk _ (ρ := []) (SaIc fops F G H I n n) (AllT.one' (by simp))
def SaIP (m l2 k n M N : Int) (row row' : Int → List SC) : Prop := m = n ∧ l2 = n ∧ k = 0 ∧ M = n ∧ N = n ∧ 0 ≤ n ∧ n ≤ 1048576 ∧ Shape SlFloat32.ts row ∧ Shape SlFloat32.ts row'
noncomputable def SaIF : List LD → Option (XO × List Bool)
  | [.i m, .i n, .i l2, .i k, .i M, .r row', .i N, .r row] => some ([(.s (!eqFrom (fun k => Nat.beq (datF row 0 k) (datF row' 0 k)) 0 n.toNat), .ret, ⟨[(4, .c (.boolc false))], [], 3⟩, []), (.t, .exit 0, SaIe, [])], [pB (SaIP m l2 k n M N row row')])
  | _ => none
noncomputable def SaIL (O : FOps) : List Ly → Top → Option Outs := orIter (cxN O) NSaI (bodyOf Try.f54 4) (loopL NSaI 3 60 SaIk [] SaIF)
set_option maxRecDepth 100000 in
theorem SaIo : CodeOK Try.prog NSaI (.loop (bodyOf Try.f54 4)) (SaIL fops) := by
  refine orIter_ok (l := LN) okLN mixed 8 (loopL_ok (cx := cxN fops) (lp := fun _ => none) (fun ts => body_ok (l := LN) okLN mixed 8 _ ts) fun p r hr hob => ?_)
  unfold SaIF at hr
  split at hr <;> cases hr
  rename_i m n l2 k M row' N row
  obtain ⟨e0, e1, e2, e3, e4, h0, hm, s0, s1⟩ := pB_iff.1 hob.head
  rw [e0, e1, e2, e3, e4]
  obtain ⟨h1, h2⟩ := SaIl (datF row) (datG row) (datF row') (datG row') n hm (n).toNat 0 (Int.le_refl _) (by show (0 : Int) + ((n).toNat : Nat) = _; omega)
  unfold SaID at h1 h2
  rw [← (show row = SlFloat32.Row (datF row) (datG row) from s0), ← (show row' = SlFloat32.Row (datF row') (datG row') from s1)] at h1 h2
  cases hq : eqFrom (fun k => Nat.beq (datF row 0 k) (datF row' 0 k)) 0 (n).toNat with
  | true => exact ⟨_, _, _, by simp [pickX, SB.val], h1 hq⟩
  | false => exact ⟨_, _, _, by simp [pickX, SB.val], h2 hq⟩
set_option maxRecDepth 100000 in
theorem SaIC : CallOK Try.prog 54 (inl (cxN fops) Try.f54 ⟨fun _ => none, lpOf [(4, SaIL fops)]⟩) := by
  have hb : Try.f54.body.isSome = true := by kernel_rfl
  obtain ⟨c, hc⟩ := Option.isSome_iff_exists.1 hb
  have h1 : (match Try.f54.body with | some c => onceB (loopsIn c) && (match loopAt 4 (loopsIn c) with | some _ => true | none => false) | none => false) = true := by kernel_rfl
  rw [hc] at h1
  simp only [Bool.and_eq_true] at h1
  exact inlL_of (l := LN) (ls := [(4, SaIL fops)]) okLN mixed 8 Try.func54 (by kernel_rfl) (fun _ => none) hc h1.1 ⟨⟨_, bodyOf_at hc h1.2, SaIo⟩, trivial⟩
set_option maxRecDepth 100000 in
theorem SaIr (O : FOps) (f w o f' w' o' : Bool) (n N m M : Int) (row row' : Int → List SC) : roS (inl (cxN O) Try.f54 ⟨fun _ => none, lpOf [(4, SaIL O)]⟩) 3 [.c (.sl 2 0 1 (.s n) f), .c (.sl 1 0 1 (.s m) f')] [(1, ⟨w', o', .rows 1 M row'⟩), (2, ⟨w, o, .rows 1 N row⟩)] =
    some ⟨.c (.bool (.s (sA n m row row'))), [], 60, gdB (!decide (n = m)) [flatR row', flatR row, pB (SaIP m n 0 n M N row row')]⟩ := by kernel_rfl
noncomputable def SaIS (O : FOps) : CS := orS (canS saH) (inl (cxN O) Try.f54 noH)
set_option maxRecDepth 100000 in
theorem SaIS_ok : CallOK Try.prog 54 (SaIS fops) :=
  (CallOK.hand (H := saH) SaIC.ro fun b args rd e h hob => by
    obtain ⟨f, w, o, f', w', o', n, N, m, M, row, row', rfl, rfl, rfl, rfl⟩ := saH_some h
    exact ⟨_, SaIr fops f w o f' w' o' n N m M row row', gdB_ok fun hg => by
      have hnm : decide (n = m) = true := by simpa using hg
      have ho := hob.head
      unfold SlFloat32.okE' at ho
      rw [hnm] at ho
      obtain ⟨e1, e2, h0, hm, hs, hs'⟩ := pB_iff.1 (show pB _ = true from ho)
      have e3 := of_decide_eq_true hnm
      subst e3
      exact AllT.cons (Fla.shF hs') (AllT.cons (Fla.shF hs) (AllT.one' (pB_iff.2 ⟨rfl, rfl, rfl, e2, e1, h0, hm, hs, hs'⟩)))⟩).can.or
    (inlN_of (l := LN) okLN mixed 8 Try.func54 (by kernel_rfl) (fun _ => none))
/-! ### spec.SameNumbers -/
noncomputable def NSaS : Nat := Try.f84.ntmps
noncomputable def SaSk : Sk := ⟨[(0, .c (.sl 2 0 1 false)), (1, .c (.sl 1 0 1 false)), (5, .c (.int .i64))], [(1, ⟨false, false, .rows 1⟩), (2, ⟨false, false, .rows 1⟩)], 3⟩
noncomputable def SaSe : Sk := ⟨[], [], 3⟩
noncomputable def SaSD (F : Nat → Int → Nat) (G : Nat → Int → Int) (H : Nat → Int → Nat) (I : Nat → Int → Int) (n : Int) (k : Int) : List LD := [.i n, .i n, .i k] ++ [.i n, .r (SlFloat32.Row H I), .i n, .r (SlFloat32.Row F G)]
noncomputable def SaSg (O : FOps) (u v : Bool) (s : Sk) (F : Nat → Int → Nat) (G : Nat → Int → Int) (H : Nat → Int → Nat) (I : Nat → Int → Int) (n : Int) (k : Int) : Option (Option XK × List LD × List Bool) := goL (cxN O) NSaS ⟨hints [(14, u), (26, v)], fun _ => none⟩ (bodyOf Try.f84 4) 3 60 SaSk [] s (SaSD F G H I n k)
set_option maxRecDepth 100000 in
theorem SaSa (O : FOps) (F : Nat → Int → Nat) (G : Nat → Int → Int) (H : Nat → Int → Nat) (I : Nat → Int → Int) (n : Int) (k : Int) : SaSg O true false SaSk F G H I n k = some (none, SaSD F G H I n (IntKind.i64.wrap (k + 1)), [decide (k < n)] ++ [bd n k, bd n k, bd n k, bd n k] ++ [!!Nat.beq (F 0 k) (H 0 k)] ++ [flatR (SlFloat32.Row H I), flatR (SlFloat32.Row F G)]) := by kernel_rfl
set_option maxRecDepth 100000 in
theorem SaSb (O : FOps) (F : Nat → Int → Nat) (G : Nat → Int → Int) (H : Nat → Int → Nat) (I : Nat → Int → Int) (n : Int) (k : Int) : SaSg O true true ⟨[(4, .c (.boolc false))], [], 3⟩ F G H I n k = some (some .ret, [], [decide (k < n)] ++ [bd n k, bd n k, bd n k, bd n k] ++ [!Nat.beq (F 0 k) (H 0 k)]) := by kernel_rfl
set_option maxRecDepth 100000 in
theorem SaSc (O : FOps) (F : Nat → Int → Nat) (G : Nat → Int → Int) (H : Nat → Int → Nat) (I : Nat → Int → Int) (n : Int) (k : Int) : SaSg O false true SaSe F G H I n k = some (some (.exit 0), [], [!decide (k < n)]) := by kernel_rfl
theorem SaSl (F : Nat → Int → Nat) (G : Nat → Int → Int) (H : Nat → Int → Nat) (I : Nat → Int → Int) (n : Int) (hn : n ≤ 1048576) : ∀ (m : Nat) (k : Int), 0 ≤ k → k + m = n →
    (eqFrom (fun k => Nat.beq (F 0 k) (H 0 k)) k m = true → Loops (cxN fops) NSaS (fun _ => none) (bodyOf Try.f84 4) 3 60 SaSk (SaSD F G H I n k) (.exit 0) SaSe ([])) ∧
    (eqFrom (fun k => Nat.beq (F 0 k) (H 0 k)) k m = false → Loops (cxN fops) NSaS (fun _ => none) (bodyOf Try.f84 4) 3 60 SaSk (SaSD F G H I n k) .ret ⟨[(4, .c (.boolc false))], [], 3⟩ []) := by
  refine scan_loops (D := SaSD F G H I n) (n := n) (fun k hk hlt hq => ?_) (fun k hk hlt hq => ?_) ?_
  · have r := SaSa fops F G H I n k
    rw [wrap_succ hk (by omega)] at r
    have hq' : Nat.beq (F 0 k) (H 0 k) = true := hq
    exact .mk _ (ρ := []) r (AllT.app (AllT.app (AllT.app (AllT.one' (by simpa using hlt)) (AllT.cons (bd_ok hk hlt) (AllT.cons (bd_ok hk hlt) (AllT.cons (bd_ok hk hlt) (AllT.one' (bd_ok hk hlt)))))) (AllT.one' (by rw [hq']; rfl))) (AllT.cons (rowK_flat _ _ _) (AllT.one' (rowK_flat _ _ _))))
  · have hq' : Nat.beq (F 0 k) (H 0 k) = false := hq
    exact .mk _ (ρ := []) (SaSb fops F G H I n k) (AllT.app (AllT.app (AllT.one' (by simpa using hlt)) (AllT.cons (bd_ok hk hlt) (AllT.cons (bd_ok hk hlt) (AllT.cons (bd_ok hk hlt) (AllT.one' (bd_ok hk hlt)))))) (AllT.one' (by rw [hq']; rfl)))
  · exact .mk _ (ρ := []) (SaSc fops F G H I n n) (AllT.one' (by simp))
def SaSP (m k n M N : Int) (row row' : Int → List SC) : Prop := m = n ∧ k = 0 ∧ M = n ∧ N = n ∧ 0 ≤ n ∧ n ≤ 1048576 ∧ Shape SlFloat32.ts row ∧ Shape SlFloat32.ts row'
noncomputable def SaSF : List LD → Option (XO × List Bool)
  | [.i n, .i m, .i k, .i M, .r row', .i N, .r row] => some ([(.s (!eqFrom (fun k => Nat.beq (datF row 0 k) (datF row' 0 k)) 0 n.toNat), .ret, ⟨[(4, .c (.boolc false))], [], 3⟩, []), (.t, .exit 0, SaSe, [])], [pB (SaSP m k n M N row row')])
  | _ => none
noncomputable def SaSL (O : FOps) : List Ly → Top → Option Outs := orIter (cxN O) NSaS (bodyOf Try.f84 4) (loopL NSaS 3 60 SaSk [] SaSF)
set_option maxRecDepth 100000 in
theorem SaSo : CodeOK Try.prog NSaS (.loop (bodyOf Try.f84 4)) (SaSL fops) := by
  refine orIter_ok (l := LN) okLN mixed 8 (loopL_ok (cx := cxN fops) (lp := fun _ => none) (fun ts => body_ok (l := LN) okLN mixed 8 _ ts) fun p r hr hob => ?_)
  unfold SaSF at hr
  split at hr <;> cases hr
  rename_i n m k M row' N row
  obtain ⟨e0, e1, e2, e3, h0, hm, s0, s1⟩ := pB_iff.1 hob.head
  rw [e0, e1, e2, e3]
  obtain ⟨h1, h2⟩ := SaSl (datF row) (datG row) (datF row') (datG row') n hm (n).toNat 0 (Int.le_refl _) (by show (0 : Int) + ((n).toNat : Nat) = _; omega)
  unfold SaSD at h1 h2
  rw [← (show row = SlFloat32.Row (datF row) (datG row) from s0), ← (show row' = SlFloat32.Row (datF row') (datG row') from s1)] at h1 h2
  cases hq : eqFrom (fun k => Nat.beq (datF row 0 k) (datF row' 0 k)) 0 (n).toNat with
  | true => exact ⟨_, _, _, by simp [pickX, SB.val], h1 hq⟩
  | false => exact ⟨_, _, _, by simp [pickX, SB.val], h2 hq⟩
set_option maxRecDepth 100000 in
theorem SaSC : CallOK Try.prog 84 (inl (cxN fops) Try.f84 ⟨fun _ => none, lpOf [(4, SaSL fops)]⟩) := by
  have hb : Try.f84.body.isSome = true := by kernel_rfl
  obtain ⟨c, hc⟩ := Option.isSome_iff_exists.1 hb
  have h1 : (match Try.f84.body with | some c => onceB (loopsIn c) && (match loopAt 4 (loopsIn c) with | some _ => true | none => false) | none => false) = true := by kernel_rfl
  rw [hc] at h1
  simp only [Bool.and_eq_true] at h1
  exact inlL_of (l := LN) (ls := [(4, SaSL fops)]) okLN mixed 8 Try.func84 (by kernel_rfl) (fun _ => none) hc h1.1 ⟨⟨_, bodyOf_at hc h1.2, SaSo⟩, trivial⟩
set_option maxRecDepth 100000 in
theorem SaSr (O : FOps) (f w o f' w' o' : Bool) (n N m M : Int) (row row' : Int → List SC) : roS (inl (cxN O) Try.f84 ⟨fun _ => none, lpOf [(4, SaSL O)]⟩) 3 [.c (.sl 2 0 1 (.s n) f), .c (.sl 1 0 1 (.s m) f')] [(1, ⟨w', o', .rows 1 M row'⟩), (2, ⟨w, o, .rows 1 N row⟩)] =
    some ⟨.c (.bool (.s (sA n m row row'))), [], 60, gdB (!decide (n = m)) [flatR row', flatR row, pB (SaSP m 0 n M N row row')]⟩ := by kernel_rfl
noncomputable def SaSS (O : FOps) : CS := orS (canS saH) (inl (cxN O) Try.f84 noH)
set_option maxRecDepth 100000 in
theorem SaSS_ok : CallOK Try.prog 84 (SaSS fops) :=
  (CallOK.hand (H := saH) SaSC.ro fun b args rd e h hob => by
    obtain ⟨f, w, o, f', w', o', n, N, m, M, row, row', rfl, rfl, rfl, rfl⟩ := saH_some h
    exact ⟨_, SaSr fops f w o f' w' o' n N m M row row', gdB_ok fun hg => by
      have hnm : decide (n = m) = true := by simpa using hg
      have ho := hob.head
      unfold SlFloat32.okE' at ho
      rw [hnm] at ho
      obtain ⟨e1, e2, h0, hm, hs, hs'⟩ := pB_iff.1 (show pB _ = true from ho)
      have e3 := of_decide_eq_true hnm
      subst e3
      exact AllT.cons (Fla.shF hs') (AllT.cons (Fla.shF hs) (AllT.one' (pB_iff.2 ⟨rfl, rfl, e2, e1, h0, hm, hs, hs'⟩)))⟩).can.or
    (inlN_of (l := LN) okLN mixed 8 Try.func84 (by kernel_rfl) (fun _ => none))
end
end Go.Proofs.Ytopliajfonpbcaa.Sfl
