/- The layers that burn: impl.burning. Nothing is assumed. -/
import Derived.Test.YtmikpabmlclpiaaVal
import Derived.Test.YtmikpabmlclpiaaStp
import Derived.Test.YtmikpabmlclpiaaHd
namespace Go.Proofs.Ytmikpabmlclpiaa.Brn
open Go
noncomputable section
noncomputable def hint (l : List (Nat × Bool)) (t : Nat) : Option Bool := List.rec (motive := fun _ => Option Bool) none (fun p _ ih => bif Nat.beq t p.1 then some p.2 else ih) l
noncomputable def C18 : List KC := [.flt .f32, .flt .f32, .flt .f32, .flt .f32, .flt .f32, .flt .f32, .flt .f32, .flt .f32, .flt .f32, .flt .f32, .flt .f32, .flt .f32, .flt .f32, .flt .f32, .flt .f32, .flt .f32, .flt .f32, .flt .f32]
noncomputable def w18 (w : Nat → Nat) : List LD := [.f (w 0), .f (w 1), .f (w 2), .f (w 3), .f (w 4), .f (w 5), .f (w 6), .f (w 7), .f (w 8), .f (w 9), .f (w 10), .f (w 11), .f (w 12), .f (w 13), .f (w 14), .f (w 15), .f (w 16), .f (w 17)]
noncomputable def tk18 : List LD → Option ((Nat → Nat) × List LD)
  | .f a0 :: .f a1 :: .f a2 :: .f a3 :: .f a4 :: .f a5 :: .f a6 :: .f a7 :: .f a8 :: .f a9 :: .f a10 :: .f a11 :: .f a12 :: .f a13 :: .f a14 :: .f a15 :: .f a16 :: .f a17 :: p => some (fun i => [a0, a1, a2, a3, a4, a5, a6, a7, a8, a9, a10, a11, a12, a13, a14, a15, a16, a17].getD i 0, p)
  | _ => none
theorem tk18_ok {p q : List LD} {w : Nat → Nat} (h : tk18 p = some (w, q)) : p = w18 w ++ q ∧ back w = w := by
  unfold tk18 at h
  split at h <;> cases h
  exact ⟨rfl, rfl⟩
/-- A cell of a log, by its place from 'o' on. -/
noncomputable def sel (w : Nat → Nat) (o : Nat) (k : Int) : Nat := match selRow (wdL w) o 1 1 k 6 0 with
  | some [.flt _ x] => x
  | _ => 0
noncomputable def c1 (O : FOps) (w : Nat → Nat) (k : Int) : Bool := O.cmp .gtr .f32 (sel w 6 k) 1132068864
noncomputable def c2 (O : FOps) (w : Nat → Nat) (k : Int) : Bool := O.cmp .lss .f32 (sel w 0 k) 1040187392
noncomputable def c3 (O : FOps) (w : Nat → Nat) (k : Int) : Bool := O.cmp .gtr .f32 (sel w 12 k) 0
/-- A layer burns. -/
noncomputable def cW (O : FOps) (w : Nat → Nat) (k : Int) : Bool := bif c1 O w k then (bif c2 O w k then c3 O w k else false) else false
noncomputable def ap (row : Int → List SC) (n k : Int) (j : Int) : List SC := bif decide (j < n) then row j else [.int .i64 (.s k)]
noncomputable def bu (O : FOps) (w : Nat → Nat) : Nat → Int → Int → (Int → List SC) → Int × (Int → List SC)
  | 0, _, n, row => (n, row)
  | m + 1, k, n, row => bif cW O w k then bu O w m (k + 1) (n + 1) (ap row n k) else bu O w m (k + 1) n row
theorem flat_ap {row : Int → List SC} (h : flatR row = true) (n k : Int) : flatR (ap row n k) = true :=
  @decide_eq_true _ (Classical.propDecidable _) fun j => by
    unfold ap
    cases decide (j < n) with
    | true => exact flatR_ok h j
    | false => rfl
theorem flat_bu (O : FOps) (w : Nat → Nat) : ∀ (m : Nat) (k n : Int) (row : Int → List SC), flatR row = true → flatR (bu O w m k n row).2 = true
  | 0, _, _, _, h => h
  | m + 1, k, n, row, h => by
    show flatR (bif cW O w k then bu O w m (k + 1) (n + 1) (ap row n k) else bu O w m (k + 1) n row).2 = true
    cases cW O w k with
    | true => exact flat_bu O w m _ _ _ (flat_ap h n k)
    | false => exact flat_bu O w m _ _ _ h
noncomputable def b6 (k : Int) : Bool := decide (0 ≤ k ∧ k < ((6 : Nat) : Int))
noncomputable def idB (O : FOps) (w : Nat → Nat) (k : Int) : List Bool := [decide (k < 6), b6 k] ++ gdB (!c1 O w k) [b6 k] ++ gdB (!c1 O w k) (gdB (!c2 O w k) [b6 k])
theorem idB_ok (O : FOps) (w : Nat → Nat) {k : Int} (h0 : 0 ≤ k) (h1 : k < 6) : AllT (idB O w k) := by
  have b : b6 k = true := by unfold b6; simp; omega
  exact AllT.app (AllT.app (AllT.cons (by simpa using h1) (AllT.cons b AllT.nil)) (gdB_ok fun _ => AllT.cons b AllT.nil)) (gdB_ok fun _ => gdB_ok fun _ => AllT.cons b AllT.nil)
noncomputable def sk : Sk := ⟨[(1, .c (.ptr 1 0)), (3, .c (.sl 3 0 1 true)), (6, .c (.int .i64))], [(1, ⟨true, true, .cells C18⟩), (3, ⟨true, true, .rows 1⟩)], 4⟩
noncomputable def skE : Sk := ⟨[(3, .c (.sl 3 0 1 true))], [(3, ⟨true, true, .rows 1⟩)], 4⟩
noncomputable def cx (O : FOps) : Cx := ⟨Try.prog, O, orcN Try.prog O [] 8⟩
noncomputable def NB : Nat := Try.f56.ntmps
noncomputable def dB (n k : Int) (w : Nat → Nat) (N : Int) (row : Int → List SC) : List LD := [.i n, .i k] ++ (w18 w ++ [.i N, .r row])
noncomputable def go (O : FOps) (h : List (Nat × Bool)) (ρ : List (Nat × Nat)) (s : Sk) (w : Nat → Nat) (n k N : Int) (row : Int → List SC) : Option (Option XK × List LD × List Bool) :=
  goL (cx O) NB ⟨hint h, fun _ => none⟩ (bodyOf Try.f56 3) 3 60 sk ρ s (dB n k w N row)
noncomputable def hN : List (Nat × Bool) := [(7, true), (27, false)]
noncomputable def hY : List (Nat × Bool) := [(7, true), (27, true)]
noncomputable def hE : List (Nat × Bool) := [(7, false)]
set_option maxRecDepth 100000 in
theorem roN (O : FOps) (w : Nat → Nat) (n k N : Int) (row : Int → List SC) : go O hN [] sk w n k N row = some (none, dB n (IntKind.i64.wrap (k + 1)) w N row, idB O w k ++ [!cW O w k, flatR row]) := by kernel_rfl
set_option maxRecDepth 100000 in
theorem roY (O : FOps) (w : Nat → Nat) (n k N : Int) (row : Int → List SC) : go O hY [(5, 3)] sk w n k N row = some (none, dB (n + 1) (IntKind.i64.wrap (k + 1)) w (n + 1) (ap row n k), idB O w k ++ [cW O w k, decide (0 ≤ n ∧ n ≤ N ∧ n ≤ 999999), flatR (ap row n k)]) := by kernel_rfl
set_option maxRecDepth 100000 in
theorem roE (O : FOps) (w : Nat → Nat) (n k N : Int) (row : Int → List SC) : go O hE [] skE w n k N row = some (some (.exit 0), [.i n, .i N, .r row], [!decide (k < 6), flatR row]) := by kernel_rfl
theorem lo (w : Nat → Nat) : ∀ (m : Nat) (k n : Int) (row : Int → List SC), 0 ≤ k → k + m = 6 → 0 ≤ n → n ≤ k → flatR row = true →
    Loops (cx fops) NB (fun _ => none) (bodyOf Try.f56 3) 3 60 sk (dB n k w n row) (.exit 0) skE [.i (bu fops w m k n row).1, .i (bu fops w m k n row).1, .r (bu fops w m k n row).2] := by
  intro m
  induction m with
  | zero =>
    intro k n row hk hkm hn hnk hf
    have e : k = 6 := by omega
    subst e
    exact .done (ts := hint hE) (ρ := []) (roE fops w n 6 n row) (AllT.cons (by decide) (AllT.cons hf AllT.nil))
  | succ m ih =>
    intro k n row hk hkm hn hnk hf
    have hi := idB_ok fops w hk (by omega)
    have hE' : bu fops w (m + 1) k n row = bif cW fops w k then bu fops w m (k + 1) (n + 1) (ap row n k) else bu fops w m (k + 1) n row := rfl
    rw [hE']
    cases hc : cW fops w k with
    | true =>
      have h1 := roY fops w n k n row
      rw [wrap_succ hk (by omega)] at h1
      exact .step (ts := hint hY) (ρ := [(5, 3)]) h1 (AllT.app hi (AllT.cons hc (AllT.cons (by simp; omega) (AllT.cons (flat_ap hf n k) AllT.nil)))) (ih (k + 1) (n + 1) _ (by omega) (by omega) (by omega) (by omega) (flat_ap hf n k))
    | false =>
      have h1 := roN fops w n k n row
      rw [wrap_succ hk (by omega)] at h1
      exact .step (ts := hint hN) (ρ := []) h1 (AllT.app hi (AllT.cons (by rw [hc]; rfl) (AllT.cons hf AllT.nil))) (ih (k + 1) n row (by omega) (by omega) hn (by omega) hf)
def PreB (n k N : Int) (row : Int → List SC) : Prop := n = 0 ∧ k = 0 ∧ N = 0 ∧ flatR row = true
noncomputable def FB (O : FOps) : List LD → Option (XO × List Bool)
  | .i n :: .i k :: p => bindO (tk18 p) fun q => match q.2 with
    | [.i N, .r row] => some ([(.t, .exit 0, skE, [.i (bu O q.1 6 0 0 row).1, .i (bu O q.1 6 0 0 row).1, .r (bu O q.1 6 0 0 row).2])], [pB (PreB n k N row)])
    | _ => none
  | _ => none
noncomputable def LB (O : FOps) : List Ly → Top → Option Outs := orIter (cx O) NB (bodyOf Try.f56 3) (loopL NB 3 60 sk [(2, 3)] (FB O))
set_option maxRecDepth 100000 in
theorem okB : CodeOK Try.prog NB (.loop (bodyOf Try.f56 3)) (LB fops) := by
  refine orIter_ok (l := []) trivial mixed 8 (loopL_ok (cx := cx fops) (lp := fun _ => none) (fun ts => body_ok (l := []) trivial mixed 8 _ ts) fun p r hr hob => ?_)
  unfold FB at hr
  split at hr <;> try (cases hr; done)
  rename_i n k p
  obtain ⟨⟨w, p1⟩, hq, hr2⟩ := bindO_some hr
  clear hr
  obtain ⟨rfl, hw⟩ := tk18_ok hq
  clear hq
  split at hr2 <;> try (cases hr2; done)
  rename_i N row hp1
  replace hp1 : p1 = [.i N, .r row] := hp1
  subst hp1
  cases hr2
  obtain ⟨e1, e2, e3, hf⟩ := pB_iff.1 hob.head
  rw [e1, e2, e3]
  exact ⟨.exit 0, skE, _, rfl, lo w 6 0 0 row (Int.le_refl _) (by omega) (Int.le_refl _) (Int.le_refl _) hf⟩
set_option maxRecDepth 100000 in
theorem cB0 : CallOK Try.prog 56 (inl (cx fops) Try.f56 ⟨fun _ => none, lpOf [(3, LB fops)]⟩) := by
  have hb : Try.f56.body.isSome = true := by kernel_rfl
  obtain ⟨c, hc⟩ := Option.isSome_iff_exists.1 hb
  have h1 : (match Try.f56.body with | some c => onceB (loopsIn c) && (match loopAt 3 (loopsIn c) with | some _ => true | none => false) | none => false) = true := by kernel_rfl
  rw [hc] at h1
  simp only [Bool.and_eq_true] at h1
  exact inlL_of (l := []) (ls := [(3, LB fops)]) trivial mixed 8 Try.func56 (by kernel_rfl) (fun _ => none) hc h1.1 ⟨⟨_, bodyOf_at hc h1.2, okB⟩, trivial⟩
/-- How many layers burn, and which. -/
noncomputable def cnt (O : FOps) (w : Nat → Nat) : Int := (bu O w 6 0 0 fun _ => []).1
noncomputable def lst (O : FOps) (w : Nat → Nat) : Int → List SC := (bu O w 6 0 0 fun _ => []).2
set_option maxRecDepth 100000 in
theorem b_run (O : FOps) (w : Nat → Nat) : inl (cx O) Try.f56 ⟨fun _ => none, lpOf [(3, LB O)]⟩ 1 [wd w] [] =
    some ⟨.c (.sl 3 0 1 (.s (cnt O (back w))) true), [(3, some ⟨true, true, .rows 1 (cnt O (back w)) (lst O (back w))⟩)], 60, [pB (PreB 0 0 0 fun _ => [])]⟩ := by kernel_rfl
theorem flat_nil : flatR (fun _ => []) = true := @decide_eq_true _ (Classical.propDecidable _) fun _ => rfl
noncomputable def bH (O : FOps) : CS := fun base args rd => match args with
  | [v] => match rd with
    | [] => match Nat.beq base 1 with
      | true => match wdOf v with
        | some w => some ⟨.c (.sl 3 0 1 (.s (cnt O w)) true), [(3, some ⟨true, true, .rows 1 (cnt O w) (lst O w)⟩)], 60, []⟩
        | none => none
      | false => none
    | _ :: _ => none
  | _ => none
theorem wdOf_back' {v : SV} {w : Nat → Nat} (h : wdOf v = some w) : back w = w := by
  unfold wdOf at h
  split at h <;> try (cases h; done)
  split at h <;> try (cases h; done)
  rename_i xs hx
  split at h <;> cases h
  rename_i hl
  match xs, beqN.1 hl with
  | [a0, a1, a2, a3, a4, a5, a6, a7, a8, a9, a10, a11, a12, a13, a14, a15, a16, a17], _ => rfl
noncomputable def bC (O : FOps) : CS := canS (bH O)
set_option maxRecDepth 100000 in
theorem cB : CallOK Try.prog 56 (bC fops) := (CallOK.hand (H := bH fops) cB0 fun b args rd e h hob => by
    unfold bH at h
    split at h <;> try (cases h; done)
    split at h <;> try (cases h; done)
    split at h <;> try (cases h; done)
    rename_i hb
    rw [beqN] at hb
    subst hb
    split at h <;> cases h
    rename_i w hw
    have h1 := b_run fops w
    rw [wdOf_back' hw] at h1
    rw [wdOf_ok hw]
    exact ⟨_, h1, AllT.cons (pB_iff.2 ⟨rfl, rfl, rfl, flat_nil⟩) AllT.nil⟩).can
theorem flat_lst (O : FOps) (w : Nat → Nat) : flatR (lst O w) = true := flat_bu O w 6 0 0 _ flat_nil
/-! ### whether any layer burns -/
noncomputable def anyF (O : FOps) (w : Nat → Nat) : Nat → Int → Bool
  | 0, _ => false
  | m + 1, k => bif cW O w k then true else anyF O w m (k + 1)
theorem bu_pos (O : FOps) (w : Nat → Nat) : ∀ (m : Nat) (k n : Int) (row : Int → List SC), 0 ≤ n → decide (0 < (bu O w m k n row).1) = (bif decide (0 < n) then true else anyF O w m k)
  | 0, k, n, row, h => by
    show decide (0 < n) = bif decide (0 < n) then true else false
    cases decide (0 < n) <;> rfl
  | m + 1, k, n, row, h => by
    show decide (0 < (bif cW O w k then bu O w m (k + 1) (n + 1) (ap row n k) else bu O w m (k + 1) n row).1) = (bif decide (0 < n) then true else bif cW O w k then true else anyF O w m (k + 1))
    cases cW O w k with
    | true =>
      rw [cond_true, bu_pos O w m _ _ _ (by omega), decide_eq_true (by omega : 0 < n + 1)]
      cases decide (0 < n) <;> rfl
    | false =>
      rw [cond_false, bu_pos O w m _ _ _ h]
      rfl
theorem bu_nn (O : FOps) (w : Nat → Nat) : ∀ (m : Nat) (k n : Int) (row : Int → List SC), 0 ≤ n → 0 ≤ (bu O w m k n row).1 ∧ (bu O w m k n row).1 ≤ n + m
  | 0, k, n, row, h => ⟨h, by show n ≤ n + 0; omega⟩
  | m + 1, k, n, row, h => by
    show 0 ≤ (bif cW O w k then bu O w m (k + 1) (n + 1) (ap row n k) else bu O w m (k + 1) n row).1 ∧ (bif cW O w k then bu O w m (k + 1) (n + 1) (ap row n k) else bu O w m (k + 1) n row).1 ≤ n + ((m + 1 : Nat) : Int)
    cases cW O w k with
    | true =>
      have := bu_nn O w m (k + 1) (n + 1) (ap row n k) (by omega)
      rw [cond_true]; omega
    | false =>
      have := bu_nn O w m (k + 1) n row h
      rw [cond_false]; omega
theorem cnt_pos (O : FOps) (w : Nat → Nat) : decide (0 < cnt O w) = anyF O w 6 0 := (bu_pos O w 6 0 0 _ (Int.le_refl _)).trans rfl
theorem cnt_nn (O : FOps) (w : Nat → Nat) : 0 ≤ cnt O w ∧ cnt O w ≤ 6 := by
  have := bu_nn O w 6 0 0 (fun _ => []) (Int.le_refl _)
  unfold cnt; omega
end
end Go.Proofs.Ytmikpabmlclpiaa.Brn
