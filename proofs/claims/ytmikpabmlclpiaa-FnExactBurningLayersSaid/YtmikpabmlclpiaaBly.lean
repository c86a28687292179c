/- The law of BurningLayers. Nothing is assumed. -/
import Derived.Test.YtmikpabmlclpiaaBrn
import Derived.Test.YtmikpabmlclpiaaSlInt64
namespace Go.Proofs.Ytmikpabmlclpiaa.Bly
open Go Brn
noncomputable section
/-- 'H' tells less than 'S'. -/
theorem CallOK.handLe {P : Program} {f : FuncId} {S H : CS} (h : CallOK P f S) (hH : ∀ b args rd e, H b args rd = some e → AllT e.obs → ∃ e1, S b args rd = some e1 ∧ AllT e1.obs ∧ e1.ret = e.ret ∧ e1.next = e.next ∧ ∀ f i g', updSs f e.ws i = some g' → ∃ g, updSs f e1.ws i = some g ∧ SegLe g g') : CallOK P f H := by
  intro E base args vals rd w e hs hob hargs hb1 hbe hfr hmem
  obtain ⟨e1, h1, h2, h3, h4, h5⟩ := hH _ _ _ _ hs hob
  refine (h E base args vals rd w e1 h1 h2 hargs hb1 (by rw [h4]; exact hbe) (by rw [h4]; exact hfr) hmem).mono fun v w' hp => ?_
  obtain ⟨E', k1, k2, k3, k4⟩ := hp
  exact ⟨E', k1, fun i hi => by rw [← h4]; exact k2 i hi, by rw [← h3]; exact k3, k4.weaken fun i g' hg => h5 _ i g' hg⟩
theorem AllT.one {b : Bool} (h : b = true) : AllT [b] := AllT.cons h AllT.nil
noncomputable def lsR (O : FOps) (w : Nat → Nat) : Int → List SC := SlInt64.Row (fun _ _ => 0) (datG (lst O w))
theorem bu_one (O : FOps) (w : Nat → Nat) : ∀ (m : Nat) (k n : Int) (row : Int → List SC), 0 ≤ n → (∀ j, 0 ≤ j → j < n → ∃ x, row j = [.int .i64 (.s x)]) → ∀ j, 0 ≤ j → j < (bu O w m k n row).1 → ∃ x, (bu O w m k n row).2 j = [.int .i64 (.s x)]
  | 0, _, _, _, _, h => h
  | m + 1, k, n, row, hn, h => by
    show ∀ j, 0 ≤ j → j < (bif cW O w k then bu O w m (k + 1) (n + 1) (ap row n k) else bu O w m (k + 1) n row).1 → ∃ x, (bif cW O w k then bu O w m (k + 1) (n + 1) (ap row n k) else bu O w m (k + 1) n row).2 j = [.int .i64 (.s x)]
    cases cW O w k with
    | true =>
      exact bu_one O w m (k + 1) (n + 1) (ap row n k) (by omega) fun j h0 h1 => by
        unfold ap
        by_cases hj : j < n
        · rw [decide_eq_true hj]; exact h j h0 hj
        · rw [decide_eq_false hj]; exact ⟨k, rfl⟩
    | false => exact bu_one O w m (k + 1) n row hn h
theorem lsR_eq (O : FOps) (w : Nat → Nat) {j : Int} (h0 : 0 ≤ j) (h1 : j < cnt O w) : lsR O w j = lst O w j := by
  obtain ⟨x, hx⟩ := bu_one O w 6 0 0 (fun _ => []) (Int.le_refl _) (fun j a b => by omega) j h0 h1
  have hx' : lst O w j = [.int .i64 (.s x)] := hx
  show [SC.int .i64 (.s (datG (lst O w) 0 j))] = _
  unfold datG
  rw [hx']
  rfl
theorem seg_le (O : FOps) (w : Nat → Nat) : SegLe ⟨true, true, .rows 1 (cnt O w) (lst O w)⟩ ⟨true, true, .rows 1 (cnt O w) (lsR O w)⟩ := by
  refine ⟨id, id, rfl, fun E k v hk hv => ?_⟩
  simp only [SBody.len, SBody.at] at *
  rw [lsR_eq O w (by omega) (by have := (cnt_nn O w).1; simp only [Nat.div_one]; omega)]
  exact hv
noncomputable def bLH (O : FOps) : CS := fun base args rd => match args with
  | [v] => match rd with
    | [] => match Nat.beq base 1 with
      | true => match wdOf v with
        | some w => some ⟨.c (.sl 3 0 1 (.s (cnt O w)) true), [(3, some ⟨true, true, .rows 1 (cnt O w) (lsR O w)⟩)], 60, []⟩
        | none => none
      | false => none
    | _ :: _ => none
  | _ => none
theorem upd_le {f : Nat → Option Seg} {i : Nat} {g1 g2 : Seg} (h : SegLe g1 g2) : ∀ j g', updSs f [(i, some g2)] j = some g' → ∃ g, updSs f [(i, some g1)] j = some g ∧ SegLe g g' := by
  intro j g' hj
  have hj' : upd f i (some g2) j = some g' := hj
  show ∃ g, upd f i (some g1) j = some g ∧ SegLe g g'
  by_cases e : j = i
  · subst e
    rw [upd_same] at hj'
    cases hj'
    exact ⟨g1, upd_same _ _ _, h⟩
  · rw [upd_other _ _ e] at hj'
    exact ⟨g', by rw [upd_other _ _ e]; exact hj', SegLe.refl _⟩
noncomputable def bLC (O : FOps) : CS := canS (bLH O)
set_option maxRecDepth 100000 in
theorem cBL : CallOK Try.prog 56 (bLC fops) := (CallOK.handLe (H := bLH fops) cB0 fun b args rd e h hob => by
    unfold bLH at h
    split at h <;> try (cases h; done)
    split at h <;> try (cases h; done)
    split at h <;> try (cases h; done)
    rename_i hb
    rw [beqN] at hb
    subst hb
    split at h <;> cases h
    rename_i w hw
    have h1 := b_run fops w
    rw [wdOf_back' hw] at h1
    rw [wdOf_ok hw]
    exact ⟨_, h1, AllT.cons (pB_iff.2 ⟨rfl, rfl, rfl, flat_nil⟩) AllT.nil, rfl, rfl, fun f => upd_le (seg_le fops w)⟩).can
/-! ### spec.BurningLayers -/
noncomputable def LV (vl : (Nat → Nat) → Bool) : List (Nat × CS) := [(19, gS (validG vl)), (51, gQ [.p 18] (validG vl))]
set_option maxRecDepth 100000 in
theorem okLV : AllOK Try.prog (LV valid) := ⟨cValI, cValS, trivial⟩
noncomputable def skS : Sk := ⟨[(1, .c (.ptr 1 0)), (4, .c (.sl 3 0 1 true)), (5, .c (.int .i64))], [(1, ⟨true, true, .cells C18⟩), (3, ⟨true, true, .rows 1⟩)], 4⟩
noncomputable def skSE : Sk := ⟨[(4, .c (.sl 3 0 1 true))], [(3, ⟨true, true, .rows 1⟩)], 4⟩
noncomputable def NS : Nat := Try.f23.ntmps
noncomputable def goS (O : FOps) (h : List (Nat × Bool)) (ρ : List (Nat × Nat)) (s : Sk) (w : Nat → Nat) (n k N : Int) (row : Int → List SC) : Option (Option XK × List LD × List Bool) :=
  goL (Brn.cx O) NS ⟨hint h, fun _ => none⟩ (bodyOf Try.f23 5) 3 60 skS ρ s (dB n k w N row)
noncomputable def hSN : List (Nat × Bool) := [(11, true), (32, false)]
noncomputable def hSY : List (Nat × Bool) := [(11, true), (32, true)]
noncomputable def hSE : List (Nat × Bool) := [(11, false)]
set_option maxRecDepth 100000 in
theorem rsN (O : FOps) (w : Nat → Nat) (n k N : Int) (row : Int → List SC) : goS O hSN [] skS w n k N row = some (none, dB n (IntKind.i64.wrap (k + 1)) w N row, idB O w k ++ [!cW O w k, flatR row]) := by kernel_rfl
set_option maxRecDepth 100000 in
theorem rsY (O : FOps) (w : Nat → Nat) (n k N : Int) (row : Int → List SC) : goS O hSY [(5, 3)] skS w n k N row = some (none, dB (n + 1) (IntKind.i64.wrap (k + 1)) w (n + 1) (ap row n k), idB O w k ++ [cW O w k, decide (0 ≤ n ∧ n ≤ N ∧ n ≤ 999999), flatR (ap row n k)]) := by kernel_rfl
set_option maxRecDepth 100000 in
theorem rsE (O : FOps) (w : Nat → Nat) (n k N : Int) (row : Int → List SC) : goS O hSE [] skSE w n k N row = some (some (.exit 0), [.i n, .i N, .r row], [!decide (k < 6), flatR row]) := by kernel_rfl
theorem loS (w : Nat → Nat) : ∀ (m : Nat) (k n : Int) (row : Int → List SC), 0 ≤ k → k + m = 6 → 0 ≤ n → n ≤ k → flatR row = true →
    Loops (Brn.cx fops) NS (fun _ => none) (bodyOf Try.f23 5) 3 60 skS (dB n k w n row) (.exit 0) skSE [.i (bu fops w m k n row).1, .i (bu fops w m k n row).1, .r (bu fops w m k n row).2] := by
  intro m
  induction m with
  | zero =>
    intro k n row hk hkm hn hnk hf
    have e : k = 6 := by omega
    subst e
    exact .done (ts := hint hSE) (ρ := []) (rsE fops w n 6 n row) (AllT.cons (by decide) (AllT.cons hf AllT.nil))
  | succ m ih =>
    intro k n row hk hkm hn hnk hf
    have hi := idB_ok fops w hk (by omega)
    have hSE' : bu fops w (m + 1) k n row = bif cW fops w k then bu fops w m (k + 1) (n + 1) (ap row n k) else bu fops w m (k + 1) n row := rfl
    rw [hSE']
    cases hc : cW fops w k with
    | true =>
      have h1 := rsY fops w n k n row
      rw [wrap_succ hk (by omega)] at h1
      exact .step (ts := hint hSY) (ρ := [(5, 3)]) h1 (AllT.app hi (AllT.cons hc (AllT.cons (by simp; omega) (AllT.cons (flat_ap hf n k) AllT.nil)))) (ih (k + 1) (n + 1) _ (by omega) (by omega) (by omega) (by omega) (flat_ap hf n k))
    | false =>
      have h1 := rsN fops w n k n row
      rw [wrap_succ hk (by omega)] at h1
      exact .step (ts := hint hSN) (ρ := []) h1 (AllT.app hi (AllT.cons (by rw [hc]; rfl) (AllT.cons hf AllT.nil))) (ih (k + 1) n row (by omega) (by omega) hn (by omega) hf)
def PreS (n k N : Int) (row : Int → List SC) : Prop := n = 0 ∧ k = 0 ∧ N = 0 ∧ flatR row = true
noncomputable def FS (O : FOps) : List LD → Option (XO × List Bool)
  | .i n :: .i k :: p => bindO (tk18 p) fun q => match q.2 with
    | [.i N, .r row] => some ([(.t, .exit 0, skSE, [.i (bu O q.1 6 0 0 row).1, .i (bu O q.1 6 0 0 row).1, .r (bu O q.1 6 0 0 row).2])], [pB (PreS n k N row)])
    | _ => none
  | _ => none
noncomputable def LSb (O : FOps) : List Ly → Top → Option Outs := orIter (Brn.cx O) NS (bodyOf Try.f23 5) (loopL NS 3 60 skS [(2, 3)] (FS O))
set_option maxRecDepth 100000 in
theorem okS : CodeOK Try.prog NS (.loop (bodyOf Try.f23 5)) (LSb fops) := by
  refine orIter_ok (l := []) trivial mixed 8 (loopL_ok (cx := Brn.cx fops) (lp := fun _ => none) (fun ts => body_ok (l := []) trivial mixed 8 _ ts) fun p r hr hob => ?_)
  unfold FS at hr
  split at hr <;> try (cases hr; done)
  rename_i n k p
  obtain ⟨⟨w, p1⟩, hq, hr2⟩ := bindO_some hr
  clear hr
  obtain ⟨rfl, hw⟩ := tk18_ok hq
  clear hq
  split at hr2 <;> try (cases hr2; done)
  rename_i N row hp1
  replace hp1 : p1 = [.i N, .r row] := hp1
  subst hp1
  cases hr2
  obtain ⟨e1, e2, e3, hf⟩ := pB_iff.1 hob.head
  rw [e1, e2, e3]
  exact ⟨.exit 0, skSE, _, rfl, loS w 6 0 0 row (Int.le_refl _) (by omega) (Int.le_refl _) (Int.le_refl _) hf⟩
noncomputable def cxS (O : FOps) (vl : (Nat → Nat) → Bool) : Cx := ⟨Try.prog, O, orcN Try.prog O (LV vl) 8⟩
set_option maxRecDepth 100000 in
theorem cS0 : CallOK Try.prog 23 (inl (cxS fops valid) Try.f23 ⟨hint [(7, false)], lpOf [(5, LSb fops)]⟩) := by
  have hb : Try.f23.body.isSome = true := by kernel_rfl
  obtain ⟨c, hc⟩ := Option.isSome_iff_exists.1 hb
  have h1 : (match Try.f23.body with | some c => onceB (loopsIn c) && (match loopAt 5 (loopsIn c) with | some _ => true | none => false) | none => false) = true := by kernel_rfl
  rw [hc] at h1
  simp only [Bool.and_eq_true] at h1
  exact inlL_of (l := LV valid) (ls := [(5, LSb fops)]) okLV mixed 8 Try.func23 (by kernel_rfl) (hint [(7, false)]) hc h1.1 ⟨⟨_, bodyOf_at hc h1.2, okS⟩, trivial⟩
set_option maxRecDepth 100000 in
theorem s_run (O : FOps) (vl : (Nat → Nat) → Bool) (w : Nat → Nat) : inl (cxS O vl) Try.f23 ⟨hint [(7, false)], lpOf [(5, LSb O)]⟩ 1 [wd w] [] =
    some ⟨.tup [.c (.sl 3 0 1 (.s (cnt O (back w))) true), .c (.int .i64 (.c 0))], [(3, some ⟨true, true, .rows 1 (cnt O (back w)) (lst O (back w))⟩)], 60, [!!vl (back w), pB (PreS 0 0 0 fun _ => [])]⟩ := by kernel_rfl
noncomputable def sH (O : FOps) (vl : (Nat → Nat) → Bool) : CS := fun base args rd => match args with
  | [v] => match rd with
    | [] => match Nat.beq base 1 with
      | true => match wdOf v with
        | some w => some ⟨.tup [.c (.sl 3 0 1 (.s (cnt O w)) true), .c (.int .i64 (.c 0))], [(3, some ⟨true, true, .rows 1 (cnt O w) (lsR O w)⟩)], 60, [vl w]⟩
        | none => none
      | false => none
    | _ :: _ => none
  | _ => none
noncomputable def sC (O : FOps) (vl : (Nat → Nat) → Bool) : CS := canS (sH O vl)
set_option maxRecDepth 100000 in
theorem cSC : CallOK Try.prog 23 (sC fops valid) := (CallOK.handLe (H := sH fops valid) cS0 fun b args rd e h hob => by
    unfold sH at h
    split at h <;> try (cases h; done)
    split at h <;> try (cases h; done)
    split at h <;> try (cases h; done)
    rename_i hb
    rw [beqN] at hb
    subst hb
    split at h <;> cases h
    rename_i w hw
    have h1 := s_run fops valid w
    rw [wdOf_back' hw] at h1
    rw [wdOf_ok hw]
    have hv : valid w = true := hob.head
    exact ⟨_, h1, AllT.cons (by rw [hv]; rfl) (AllT.cons (pB_iff.2 ⟨rfl, rfl, rfl, flat_nil⟩) AllT.nil), rfl, rfl, fun f => upd_le (seg_le fops w)⟩).can
noncomputable def sE (vl : (Nat → Nat) → Bool) (O : FOps) : CS := inl (cxS O vl) Try.f23 ⟨hint [(7, true)], fun _ => none⟩
/-! ### impl.BurningLayers -/
noncomputable def LI (O : FOps) (vl : (Nat → Nat) → Bool) : List (Nat × CS) := (56, bLC O) :: LV vl
set_option maxRecDepth 100000 in
theorem okLI : AllOK Try.prog (LI fops valid) := ⟨cBL, okLV⟩
noncomputable def iC (O : FOps) (vl : (Nat → Nat) → Bool) (h : Bool) : CS := inl ⟨Try.prog, O, orcN Try.prog O (LI O vl) 8⟩ Try.f24 ⟨hint [(6, h)], fun _ => none⟩
noncomputable def spC (O : FOps) (vl : (Nat → Nat) → Bool) (h : Bool) : CS := bif h then sE vl O else sC O vl
set_option maxRecDepth 100000 in
theorem cI (h : Bool) : CallOK Try.prog 24 (iC fops valid h) := inlN_of (l := LI fops valid) okLI mixed 8 Try.func24 (by kernel_rfl) _
set_option maxRecDepth 100000 in
theorem cSp (h : Bool) : CallOK Try.prog 23 (spC fops valid h) := by
  cases h with
  | true => exact inlN_of (l := LV valid) okLV mixed 8 Try.func23 (by kernel_rfl) _
  | false => exact cSC
/-! ### the law -/
open SlInt64 in
noncomputable def L3 (O : FOps) (vl : (Nat → Nat) → Bool) (h : Bool) : List (Nat × CS) := [(24, iC O vl h), (23, spC O vl h), (25, eqC O), (26, maC O), (27, heC O)]
set_option maxRecDepth 100000 in
theorem okL3 (h : Bool) : AllOK Try.prog (L3 fops valid h) := ⟨cI h, cSp h, SlInt64.cEqC, SlInt64.cMaC, SlInt64.cHeC, trivial⟩
noncomputable def run (O : FOps) (vl : (Nat → Nat) → Bool) (h : Bool) (hl : List (Nat × Bool)) (w : Nat → Nat) : Option (SV × List Bool) :=
  rE 1 (inl ⟨Try.prog, O, orcN Try.prog O (L3 O vl h) 8⟩ Try.f6 ⟨hint hl, fun _ => none⟩ 1 [wd w] [])
noncomputable def hLaw : List (Nat × Bool) := [(31, false), (39, false), (42, false), (57, false), (62, false), (65, false)]
noncomputable def oE (n : Int) (row : Int → List SC) : List Bool := [flatR row, flatR row, SlInt64.okE' n n row n n row]
noncomputable def oM (O : FOps) (n : Int) (row : Int → List SC) : List Bool := [flatR row, flatR (SlInt64.mkR O 1 n row), SlInt64.okM' n 1 n row]
noncomputable def oH (O : FOps) (n : Int) (row : Int → List SC) : List Bool := [flatR (SlInt64.mkR O 1 n row), SlInt64.okH' n 1 n (SlInt64.mkR O 1 n row)]
noncomputable def oQ (n : Int) : List Bool := [!decide (1 + 1 * n < 0), !!decide (1 + 1 * n = 1 + 1 * n)]
noncomputable def tE (O : FOps) (n : Int) (R : Int → List SC) : Bool := bif !SlInt64.eqR O n n R R then true else false
noncomputable def ob (O : FOps) (V : Bool) (n : Int) (R : Int → List SC) : List Bool :=
  [flatR R, V] ++ [!!V, flatR R] ++ oE n R ++ [!tE O n R] ++ oM O n R ++ oH O n R ++ oQ n ++ [!!V, flatR R] ++ oE n R ++ [!tE O n R] ++ oH O n R ++ oQ n
set_option maxRecDepth 100000 in
theorem run_ok (O : FOps) (vl : (Nat → Nat) → Bool) (w : Nat → Nat) : run O vl false hLaw w = some (.c (.bool .t), ob O (vl (back w)) (cnt O (back w)) (lsR O (back w))) := by kernel_rfl
set_option maxRecDepth 100000 in
theorem run_err (O : FOps) (vl : (Nat → Nat) → Bool) (w : Nat → Nat) : run O vl true hLaw w = some (.c (.bool .t), [!vl (back w), !vl (back w), !vl (back w)]) := by kernel_rfl
theorem law_all (w : Nat → Nat) : ∃ h hl o, run fops valid h hl w = some (.c (.bool .t), o) ∧ AllT o := by
  cases hv : valid (back w) with
  | false =>
    refine ⟨_, _, _, run_err fops valid w, ?_⟩
    rw [hv]
    exact AllT.cons rfl (AllT.cons rfl (AllT.one rfl))
  | true =>
    refine ⟨_, _, _, run_ok fops valid w, ?_⟩
    have n0 := (cnt_nn fops (back w)).1
    have n1 : cnt fops (back w) ≤ 1048576 := by have := (cnt_nn fops (back w)).2; omega
    have hs : Shape SlInt64.ts (lsR fops (back w)) := SlInt64.shape_row _ _
    have fl := SlInt64.shape_flat hs
    have hmk : Shape SlInt64.ts (SlInt64.mkR fops 1 (cnt fops (back w)) (lsR fops (back w))) := SlInt64.shape_row _ _
    have e : AllT (oE (cnt fops (back w)) (lsR fops (back w))) := AllT.cons fl (AllT.cons fl (AllT.one (by
      unfold SlInt64.okE'
      have : pB (cnt fops (back w) = cnt fops (back w) ∧ cnt fops (back w) = cnt fops (back w) ∧ 0 ≤ cnt fops (back w) ∧ cnt fops (back w) ≤ 1048576 ∧ Shape SlInt64.ts (lsR fops (back w)) ∧ Shape SlInt64.ts (lsR fops (back w))) = true := pB_iff.2 ⟨rfl, rfl, n0, n1, hs, hs⟩
      rw [this, Bool.or_true])))
    have m : AllT (oM fops (cnt fops (back w)) (lsR fops (back w))) := AllT.cons fl (AllT.cons (SlInt64.shape_flat hmk) (AllT.one (pB_iff.2 ⟨rfl, n0, n1, by decide, by decide, hs⟩)))
    have y : AllT (oH fops (cnt fops (back w)) (lsR fops (back w))) := AllT.cons (SlInt64.shape_flat hmk) (AllT.one (pB_iff.2 ⟨rfl, n0, n1, by decide, by decide, SlInt64.mkR_marked _ _ _⟩))
    have z : AllT (oQ (cnt fops (back w))) := AllT.cons (by simp; omega) (AllT.one (by simp))
    have t : tE fops (cnt fops (back w)) (lsR fops (back w)) = false := by unfold tE; rw [SlInt64.eqR_self]; rfl
    unfold ob
    rw [hv, t]
    have i : AllT [!!true, flatR (lsR fops (back w))] := AllT.cons rfl (AllT.one fl)
    exact AllT.app (AllT.app (AllT.app (AllT.app (AllT.app (AllT.app (AllT.app (AllT.app (AllT.app (AllT.app (AllT.app (AllT.cons fl (AllT.one rfl)) i) e) (AllT.one rfl)) m) y) z) i) e) (AllT.one rfl)) y) z
end
end Go.Proofs.Ytmikpabmlclpiaa.Bly
