/- Parts of a proof, merged: Ih5, Ih6, Ih7, Sh0, Sh1, Sh2, Sh3, Sh4, Ar, As, Bd, Pl0, Pl1, Ql0, Ql1, Qlo. Nothing is assumed. -/
import Derived.Test.YtaoeigofmfpamaaMhC
import Derived.Test.YtaoeigofmfpamaaMhD
/- SolveHeats: the table made. Nothing is assumed. -/
section
namespace Go.Proofs.Ytaoeigofmfpamaa
open Go
noncomputable section
theorem shape_fr {row : Int → List SC} (h : Shape SlFloat32.ts row) : row = fr (datF row 0) := h.trans rfl
theorem gate1_eq (n : Int) (b : Bool) : gate1 n n b = b := by unfold gate1; rw [decide_eq_true rfl]; rfl
theorem gate1_ne {n l : Int} (h : l ≠ n) (b : Bool) : gate1 n l b = true := by unfold gate1; rw [decide_eq_false h]; rfl
def goodR (n : Int) (L : Nat → Int) (R : Nat → Int → List SC) (p : Nat) : Prop := L p = n ∧ Fnr.finN isNum n (R p) = true
/-- Memory with the first 'i' rows of the table. -/
def sgB (sg : Nat → Option Seg) (fH fT : Nat) (i N : Nat) (X : Nat → Int → Nat) : Nat → Option Seg := fun j =>
  if j = gid fH i then some ⟨true, true, .rows 1 i (hdP fT id N)⟩ else if isF fT j = true ∧ posF j < i then some ⟨true, true, .rows 1 N (fr (X (posF j)))⟩ else sg j
def oldB (E E' : EM) (fH fT : Nat) : Prop := ∀ j, E' j ≠ none → E j ≠ none ∨ (∃ p, j = gid fH p) ∨ ∃ p, j = gid fT p
section
variable {w0 w : World} {T0 : Nat → Nat → Prop} {E : EM} {sg : Nat → Option Seg} {rw : Bool} {hA fA hR fT fH N : Nat} {L : Nat → Int} {R : Nat → Int → List SC} {m : Int}
theorem GM.has (gm : GM w0 T0 E sg w) {j : Nat} {g : Seg} (h : sg j = some g) : E j ≠ none := by
  obtain ⟨b, o, z, cs, T, fr, e, _⟩ := gm.mem.segs j g h
  rw [e]; simp
abbrev lBd (hA hR fA fH i : Nat) : List (Nat × Nat) := [(2, hA), (3, hR), (4, gid fH i), (21, gid fA i)]
theorem okB (nm : Nat → Bool) (h : CallOK Try.prog 58 (canS (Fnr.frH nm))) (m : Int) : AllOK Try.prog (lB nm m) := ⟨hintOK _, h, trivial⟩
theorem cFrH : CallOK Try.prog 58 (canS (Fnr.frH isNum)) :=
  (CallOK.hand (H := Fnr.frH isNum) Fnr.FiC.ro fun b args rd e h hob => by
    unfold Fnr.frH at h
    split at h <;> try (cases h; done)
    rename_i i o es n f
    split at h <;> try (cases h; done)
    rename_i j w p st N row
    split at h <;> cases h
    rename_i hc
    simp only [Bool.and_eq_true, beqN] at hc
    obtain ⟨rfl, rfl, rfl, rfl, rfl, rfl⟩ := hc
    obtain ⟨e, h0, hm, hs⟩ := pB_iff.1 hob.head
    subst e
    exact ⟨_, Fnr.FiR fops f w p N N row, AllT.cons (Fnr.shF hs) (AllT.one' (pB_iff.2 ⟨rfl, rfl, rfl, h0, hm, hs⟩))⟩).can
abbrev vB (n m i : Int) : List (Nat × SV) := [(1, sI 3 m), (6, iI n), (7, sF 4 i), (39, sI 2 n), (40, iI n), (41, iI i)]
theorem bl (gm0 : GM w0 T0 E sg w) (hss : SSof sg rw hA fA N L R) (hN : N ≤ 8) (hA1 : 900 ≤ hA ∧ hA < 1000) (hR1 : 900 ≤ hR ∧ hR < 1000) (hfA : fA < 32) (hfT : fT < 32) (hfH : fH < 32) (hAT : fA ≠ fT) (hAH : fA ≠ fH) (hTH : fT ≠ fH) (hfrT : ∀ p, E (gid fT p) = none) (hfrH : ∀ p, E (gid fH p) = none)
    {E0 : EM} (hE0 : Ext E E0) (hold0 : oldB E E0 fH fT) (hfr0 : ∀ p, E0 (gid fT p) = none) (hfr1 : ∀ p, 0 < p → E0 (gid fH p) = none) {w1 : World} (gm : GM w0 T0 E0 (sgB sg fH fT 0 N (fun p => datF (R p) 0)) w1) {a : Act}
    (hs : Sts E0 a (renA (lBd hA hR fA fH 0) (vB N m 0))) (hsz : a.tmps.size = ihF.ntmps) (hd : a.defers = []) :
    (Code.loop jB).wp Try.prog (fun e a' w' => a'.tmps.size = ihF.ntmps ∧ a'.defers = [] ∧ ∃ E', Ext E E' ∧ oldB E E' fH fT ∧
      ((e = .exit 0 ∧ (∀ p, p < N → goodR N L R p) ∧ GM w0 T0 E' (sgB sg fH fT N N (fun p => datF (R p) 0)) w' ∧ Sts E' a' (renA (lBd hA hR fA fH N) [(1, sI 3 m), (6, iI N), (7, sF 4 N)])) ∨
       (e = .ret ∧ (∃ p, p < N ∧ ¬ goodR N L R p) ∧ (∃ i, GM w0 T0 E' (sgB sg fH fT i N (fun p => datF (R p) 0)) w') ∧ Sts E' a' [(4, nilV), (5, .c (.int .i64 (.c 2)))]))) a w1 := by
  refine wp_loop_inv (fun q a w => ∃ (i : Nat) (E1 : EM), q = N - i ∧ i ≤ N ∧ a.tmps.size = ihF.ntmps ∧ a.defers = [] ∧ Ext E E1 ∧ oldB E E1 fH fT ∧ (∀ p, i ≤ p → E1 (gid fT p) = none) ∧ (∀ p, i < p → E1 (gid fH p) = none) ∧ (∀ p, p < i → goodR N L R p) ∧ GM w0 T0 E1 (sgB sg fH fT i N (fun p => datF (R p) 0)) w ∧ Sts E1 a (renA (lBd hA hR fA fH i) (vB N m i)))
    (fun q a w hI => ?_) N a w1 ⟨0, E0, rfl, Nat.zero_le _, hsz, hd, hE0, hold0, fun p _ => hfr0 p, fun p hp => hfr1 p hp, fun p hp => by omega, gm, hs⟩
  obtain ⟨i, E1, hq, hiN, hsz, hd, hE1, hold, hfT1, hfH1, hgood, gm, hs⟩ := hI
  by_cases hlt : i < N
  · obtain ⟨oA, hgA⟩ := hss.hd (by omega)
    obtain ⟨⟨o1, hr1⟩, hL0, hL1, hsh⟩ := hss.row i (by omega)
    have g1 := gid_ge fA i
    have g2 := gid_ge fH i
    have g3 := gid_ge fT i
    have g4 := gid_ge fH (i + 1)
    have hgA' : sgB sg fH fT i N (fun p => datF (R p) 0) hA = some ⟨rw, oA, .rows 1 N (hdr fA L)⟩ := by
      unfold sgB isF
      rw [if_neg (by omega), decide_eq_false (by omega : ¬ 1000 ≤ hA)]
      simp only [Bool.false_and, Bool.false_eq_true, false_and, if_false]
      exact hgA
    have hr1' : sgB sg fH fT i N (fun p => datF (R p) 0) (gid fA i) = some ⟨rw, o1, .rows 1 (L i) (R i)⟩ := by
      unfold sgB
      rw [if_neg (gid_ne hAH hfA hfH), isF_gid hfA, decide_eq_false hAT]
      simp only [Bool.false_eq_true, false_and, if_false]
      exact hr1
    have hT' : sgB sg fH fT i N (fun p => datF (R p) 0) (gid fH i) = some ⟨true, true, .rows 1 i (hdP fT id N)⟩ := by unfold sgB; rw [if_pos rfl]
    have hal : ∀ p ∈ lBd hA hR fA fH i, p.1 < 22 ∧ p.1 < 900 ∧ 900 ≤ p.2 := allC ⟨by simp, by simp, hA1.1⟩ (allC ⟨by simp, by simp, hR1.1⟩ (allC ⟨by simp, by simp, by simp only; omega⟩ (allC ⟨by simp, by simp, by simp only; omega⟩ all0)))
    have hlt' : decide ((i : Int) < (N : Int)) = true := by rw [decide_eq_true_eq]; omega
    have nA : hA ≠ gid fH i := by omega
    have nB : gid fA i ≠ gid fH i := gid_ne hAH hfA hfH
    by_cases hg : goodR N L R i
    · obtain ⟨hLi, hfin⟩ := hg
      rw [hLi] at hr1'
      have n1 : gid fH (i + 1) ≠ gid fT i := fun e => gid_ne (Ne.symm hTH) hfH hfT e
      refine wp_mono (gm.newL (body_ok (okB isNum cFrH N) mixed 1 jB (on2 42 true 53 false)) (bRd fops isNum N m i N (hvw i 21 N) (R i) (hdP fT id N))
        (AllT.cons hlt' (AllT.cons (bI_ok hlt) (AllT.cons (bI_ok hlt) (AllT.cons (rowIs_ok (if_pos rfl)) (AllT.cons (by rw [gate1_eq]; exact SlFloat32.shape_flat hsh) (AllT.cons (by rw [gate1_eq]; exact pB_iff.2 ⟨rfl, by omega, by omega, hsh⟩) (AllT.cons (by rw [gate1_eq, hfin]; rfl)
          (AllT.cons (by rw [decide_eq_true_eq]; omega) (AllT.cons (by rw [decide_eq_true_eq]; omega) AllT.nil)))))))))
        (lBd hA hR fA fH i) hal rfl hs hsz hd
        (allC ⟨hA, _, rfl, hgA', by have := @Wk.hvw E1 rw oA N fA L (lBd hA hR fA fH i) i 21 (by decide) (by decide) rfl; rw [hLi] at this; exact this⟩ (allC ⟨gid fH i, _, rfl, hT', Wk.hdB al_big fun j _ _ => ⟨_, _, by have := gid_ge fT j.toNat; simp only [id]; omega, rfl, rfl⟩⟩ (allC ⟨gid fA i, _, rfl, hr1', Wk.flat (fun h => by cases h) (fun h => by cases h) (SlFloat32.shape_flat hsh)⟩ all0)))
        (allC (allC (fun h => absurd rfl h) (allC (fun _ _ => show some hA ≠ some (gid fH i) from fun e => nA (Option.some.inj e)) (allC (fun _ h => by rcases h with h | h <;> cases h) all0)))
          (allC (allC (fun _ _ => show some (gid fH i) ≠ some hA from fun e => nA (Option.some.inj e).symm) (allC (fun h => absurd rfl h) (allC (fun _ _ => show some (gid fH i) ≠ some (gid fA i) from fun e => nB (Option.some.inj e).symm) all0)))
          (allC (allC (fun _ h => by rcases h with h | h <;> cases h) (allC (fun _ _ => show some (gid fA i) ≠ some (gid fH i) from fun e => nB (Option.some.inj e)) (allC (fun h => absurd rfl h) all0))) all0)))
        [(gid fH (i + 1), 83), (gid fT i, 81)] [(gid fH (i + 1), ⟨true, true, .rows 1 ((i + 1 : Nat) : Int) (hdP fT id N)⟩), (gid fT i, ⟨true, true, .rows 1 N (fr (datF (R i) 0))⟩)] [gid fH i]
        (allC ⟨by simp only; omega, hfH1 _ (by omega), by simp, by simp, by simp [findS_cons]⟩ (allC ⟨by simp only; omega, hfT1 _ (Nat.le_refl _), by simp, by simp, by simp only [findS_cons, if_neg (Ne.symm n1), if_true]; rfl⟩ all0))
        (allC (allC (fun _ => rfl) (allC (fun h => by simp at h) all0)) (allC (allC (fun h => by simp at h) (allC (fun _ => rfl) all0)) all0))
        (allC (by simp [lkN]) (allC (by simp only [lkN, if_neg (Ne.symm n1), if_true]) all0))
        (fun sg' hP => ?_) (allC (fun h => by cases h) (allC (fun _ => ⟨gid fH i, rfl, by simp⟩) (allC (fun h => by cases h) all0)))) fun e a' w' hp => ?_
      · obtain ⟨q81, q83, _⟩ := hP
        refine allC ⟨83, _, by simp [lkN], q83, rfl, fun E' E2 he1 he2 he3 => Wk.rows id id (by omega) fun j c v h0 h1 hv => ?_⟩ (allC ⟨81, _, by simp only [lkN, if_neg (Ne.symm n1), if_true], q81, rfl, fun E' E2 he1 he2 he3 => ?_⟩ all0)
        · by_cases e : j < (i : Int)
          · rw [decide_eq_true e] at hv
            have hge := gid_ge fT j.toNat
            refine one_row (fun v hv => sl_as hv (fun x hx => ?_) (by have := gid_ge fT (id j.toNat); omega) _ id) hv
            have k1 : gid fT (id j.toNat) ≠ gid fH (i + 1) := gid_ne hTH hfT hfH
            have k2 : gid fT (id j.toNat) ≠ gid fT i := fun h => by have h := gid_inj h; simp only [id] at h; omega
            rw [he2 _ (by simp only [id]; omega) (by simp only [lkN, if_neg k1, if_neg k2]), ← he1 _ (by simp only [id]; omega)]
            exact hx
          · rw [decide_eq_false e] at hv
            have e' : j = (i : Int) := by omega
            subst e'
            have hge := gid_ge fT i
            refine one_row (fun v hv => sl_as hv (fun x hx => ?_) (by have := gid_ge fT (id (Int.toNat (i : Int))); omega) _ (fun h => by cases h)) hv
            show E2 (gid fT i) = some x
            rw [he3 (gid fT i) 81 (by simp only [lkN, if_neg (Ne.symm n1), if_true])]
            exact hx
        · have := Wk.flat (E := E') (E' := E2) (rw := true) (own := true) (rw' := true) (own' := true) (st := 1) (n := (N : Int)) (row := R i) id id (SlFloat32.shape_flat hsh)
          rw [← shape_fr hsh]; exact this
      · obtain ⟨rfl, q1, q2, E2, k1, k2, gm2, ⟨t1, t2, t3, t4, t5, t6, _⟩⟩ := hp
        have t6' : RelV E2 (iI (IntKind.i64.wrap ((i : Int) + 1))) (a'.tmps.getD 41 undef) := t6
        rw [wrapN (by omega)] at t6'
        have hE2n : ∀ j, j ≠ gid fH (i + 1) → j ≠ gid fT i → E2 j = E1 j := fun j h1 h2 => k2 j (by simp only [lkN, if_neg h1, if_neg h2])
        refine .inl ⟨rfl, N - (i + 1), by omega, i + 1, E2, rfl, by omega, q1, q2, hE1.trans k1, fun j hj => ?_, fun p hp => ?_, fun p hp => ?_, fun p hp => ?_, gm2.sub fun j g hj => ?_, t1, t2, t3, t4, t5, t6', trivial⟩
        · by_cases h1 : j = gid fH (i + 1)
          · exact .inr (.inl ⟨_, h1⟩)
          · by_cases h2 : j = gid fT i
            · exact .inr (.inr ⟨_, h2⟩)
            · rw [hE2n j h1 h2] at hj; exact hold j hj
        · rw [hE2n _ (gid_ne hTH hfT hfH) (fun h => by have := gid_inj h; omega)]
          exact hfT1 p (by omega)
        · rw [hE2n _ (fun h => by have := gid_inj h; omega) (gid_ne (Ne.symm hTH) hfH hfT)]
          exact hfH1 p (by omega)
        · by_cases e : p = i
          · subst e; exact ⟨hLi, hfin⟩
          · exact hgood p (by omega)
        · unfold rmS upS
          rw [findS_cons, findS_cons, findS_nil]
          unfold sgB at hj
          by_cases h1 : j = gid fH (i + 1)
          · rw [if_pos h1] at hj
            rw [if_neg (by rw [h1]; simp only [List.mem_singleton]; exact fun h => by have := gid_inj h; omega), if_pos h1]
            exact hj
          · rw [if_neg h1] at hj
            have hnd : j ∉ [gid fH i] := by
              simp only [List.mem_singleton]
              intro e
              rw [e, isF_gid hfH, decide_eq_false (Ne.symm hTH)] at hj
              simp only [Bool.false_eq_true, false_and, if_false] at hj
              exact gm0.has hj (hfrH i)
            rw [if_neg hnd, if_neg h1]
            have hnd' : j ≠ gid fH i := by simpa using hnd
            by_cases h2 : j = gid fT i
            · subst h2
              rw [isF_gid hfT, pos_gid hfT, if_pos ⟨by simp, by omega⟩] at hj
              rw [if_pos rfl]; exact hj
            · rw [if_neg h2]
              show sgB sg fH fT i N (fun p => datF (R p) 0) j = some g
              unfold sgB
              rw [if_neg hnd']
              by_cases h3 : isF fT j = true ∧ posF j < i + 1
              · have : posF j ≠ i := fun h => h2 (by rw [← h]; exact (isF_iff hfT).1 h3.1)
                rw [if_pos h3] at hj
                rw [if_pos ⟨h3.1, by omega⟩]; exact hj
              · rw [if_neg h3] at hj
                rw [if_neg (fun h => h3 ⟨h.1, by omega⟩)]; exact hj
    · have hob : gate1 N (L i) (!Fnr.finN isNum (L i) (R i)) = true := by
        by_cases h : L i = N
        · rw [h, gate1_eq]
          cases hf : Fnr.finN isNum N (R i)
          · rfl
          · exact absurd ⟨h, hf⟩ hg
        · exact gate1_ne h _
      have hgt : ∀ b : Bool, b = true → gate1 N (L i) b = true := fun b hb => by
        subst hb; unfold gate1; cases (!decide (L i = (N : Int))) <;> rfl
      obtain ⟨t1, t2, t3, t4, t5, t6, _⟩ := hs
      refine wp_mono (gm.run (body_ok (okB isNum cFrH (L i)) mixed 1 jB (on2 42 true 53 true)) (bBad fops isNum N i (L i) (hvw i 21 (L i)) (R i))
        (AllT.cons hlt' (AllT.cons (bI_ok hlt) (AllT.cons (bI_ok hlt) (AllT.cons (rowIs_ok (if_pos rfl)) (AllT.cons (hgt _ (SlFloat32.shape_flat hsh)) (AllT.cons (hgt _ (pB_iff.2 ⟨rfl, hL0, hL1, hsh⟩)) (AllT.cons hob (AllT.cons rfl AllT.nil))))))))
        (lBd hA hR fA fH i) hal rfl ⟨t2, t4, t5, t6, trivial⟩ hsz hd
        (allC ⟨hA, _, rfl, hgA', Wk.hvw (by decide) (by decide) rfl⟩ (allC ⟨gid fA i, _, rfl, hr1', Wk.flat (fun h => by cases h) (fun h => by cases h) (SlFloat32.shape_flat hsh)⟩ all0)) (allC rfl (allC rfl all0))) fun e a' w' hp => ?_
      obtain ⟨rfl, q1, q2, gm2, hs2⟩ := hp
      exact .inr ⟨by simp [exitOf], q1, q2, E1, hE1, hold, .inr ⟨rfl, ⟨i, hlt, hg⟩, ⟨i, gm2⟩, hs2⟩⟩
  · have e : i = N := by omega
    subst e
    have g2 := gid_ge fH i
    have g1 := gid_ge fA i
    have hal : ∀ p ∈ lBd hA hR fA fH i, p.1 < 22 ∧ p.1 < 900 ∧ 900 ≤ p.2 := allC ⟨by simp, by simp, hA1.1⟩ (allC ⟨by simp, by simp, hR1.1⟩ (allC ⟨by simp, by simp, by simp only; omega⟩ (allC ⟨by simp, by simp, by simp only; omega⟩ all0)))
    refine wp_mono (gm.run (body_ok okNil mixed 1 jB (on1 42 false)) (bEnd fops i m i) (AllT.cons (by rw [decide_eq_false (by omega)]; rfl) (AllT.cons rfl AllT.nil)) (lBd hA hR fA fH i) hal rfl hs hsz hd all0 all0) fun e a' w' hp => ?_
    obtain ⟨rfl, q1, q2, gm2, hs2⟩ := hp
    exact .inr ⟨by simp [exitOf], q1, q2, E1, hE1, hold, .inl ⟨rfl, hgood, gm2, hs2⟩⟩
end
end
end Go.Proofs.Ytaoeigofmfpamaa
end

/- SolveHeats: what comes out; the call. Nothing is assumed. -/
section
namespace Go.Proofs.Ytaoeigofmfpamaa
open Go
noncomputable section
def zf (O : FOps) (X : Nat → Int → Nat) (r : Int → Nat) (c : Int) : Nat := O.bin .quo .f32 (r c) (X c.toNat c)
def ovO (sg : Nat → Option Seg) (fO k : Nat) (z : Int → Nat) : Nat → Option Seg := fun j => if j = gid fO k then some ⟨true, true, .rows 1 k (fr z)⟩ else sg j
theorem Wk.nil {E E' : EM} {rw own : Bool} {row : Int → List SC} : Wk E E' ⟨rw, own, .cells []⟩ ⟨rw, own, .rows 1 ((0 : Nat) : Int) row⟩ :=
  ⟨id, id, by simp [SBody.len], fun k v hk => by simp [SBody.len] at hk⟩
section
variable {w0 w : World} {T0 : Nat → Nat → Prop} {E : EM} {sg0 : Nat → Option Seg} {hT hr fT fO N : Nat} {r : Int → Nat} {X Y : Nat → Int → Nat} {π : Nat → Nat}
abbrev l3 (hT hr fO k : Nat) : List (Nat × Nat) := [(4, hT), (5, hr), (6, gid fO k)]
theorem ol (hi : Ids hT hr fT) (hN : N ≤ 8) (hπ : PmOK N π) (hX : ∀ p, p < N → Y (π p) = X p) (hfO : fO < 32) (hOT : fO ≠ fT) (hO1 : ∀ p, gid fO p ≠ hT) (hO2 : ∀ p, gid fO p ≠ hr)
    (hsg0 : ∀ p, sg0 (gid fO p) = none) {E0 : EM} (hE0 : Ext E E0) (hold0 : ∀ j, E0 j ≠ none → E j ≠ none ∨ ∃ p, j = gid fO p) (hfr : ∀ p, 0 < p → E0 (gid fO p) = none)
    (gm : GM w0 T0 E0 (ovO (tb sg0 hT hr fT N (hdP fT π N) Y r) fO 0 (zf fops X r)) w) {a : Act}
    (hs : Sts E0 a (renA (l3 hT hr fO 0) (vO N 0))) (hsz : a.tmps.size = ihF.ntmps) (hd : a.defers = []) :
    (Code.loop jO).wp Try.prog (fun e a' w' => e = .exit 10 ∧ a'.tmps.size = ihF.ntmps ∧ a'.defers = [] ∧ ∃ E', Ext E E' ∧ (∀ j, E' j ≠ none → E j ≠ none ∨ ∃ p, j = gid fO p) ∧
      GM w0 T0 E' (ovO (tb sg0 hT hr fT N (hdP fT π N) Y r) fO N (zf fops X r)) w' ∧ Sts E' a' (renA (l3 hT hr fO N) [(17, sF 6 N)])) a w := by
  refine wp_loop_inv (fun q a w => ∃ (k : Nat) (E1 : EM), q = N - k ∧ k ≤ N ∧ a.tmps.size = ihF.ntmps ∧ a.defers = [] ∧ Ext E E1 ∧ (∀ j, E1 j ≠ none → E j ≠ none ∨ ∃ p, j = gid fO p) ∧ (∀ p, k < p → E1 (gid fO p) = none) ∧
      GM w0 T0 E1 (ovO (tb sg0 hT hr fT N (hdP fT π N) Y r) fO k (zf fops X r)) w ∧ Sts E1 a (renA (l3 hT hr fO k) (vO N k)))
    (fun q a w hI => ?_) N a w ⟨0, E0, rfl, Nat.zero_le _, hsz, hd, hE0, hold0, hfr, gm, hs⟩
  obtain ⟨k, E1, hq, hkN, hsz, hd, hE1, hold, hfr1, gm, hs⟩ := hI
  have g0 := gid_ge fO k
  have tbO : ∀ p, tb sg0 hT hr fT N (hdP fT π N) Y r (gid fO p) = none := fun p => by
    unfold tb
    rw [if_neg (hO1 p), if_neg (hO2 p), isF_gid hfO, decide_eq_false hOT]
    simp only [Bool.false_eq_true, false_and, if_false]
    exact hsg0 p
  by_cases hk : k < N
  · have g1 := gid_ge fT (π k)
    have g2 := gid_ge fO (k + 1)
    have d1 := gid_neT hi (π k)
    have d2 : gid fT (π k) ≠ gid fO k := gid_ne (Ne.symm hOT) hi.d hfO
    have rowK := tb_row (sg0 := sg0) (hd := hdP fT π N) (Y := Y) (r := r) hi (n := (N : Int)) (p := π k) (by have := hπ.lt k hk; omega)
    rw [hX k hk] at rowK
    have ov : ∀ j, j ≠ gid fO k → ovO (tb sg0 hT hr fT N (hdP fT π N) Y r) fO k (zf fops X r) j = tb sg0 hT hr fT N (hdP fT π N) Y r j := fun j hj => by unfold ovO; rw [if_neg hj]
    let l : List (Nat × Nat) := [(4, hT), (5, hr), (6, gid fO k), (21, gid fT (π k))]
    have hal : ∀ p ∈ l, p.1 < 23 ∧ p.1 < 900 ∧ 900 ≤ p.2 := allC ⟨by simp, by simp, hi.a⟩ (allC ⟨by simp, by simp, hi.b⟩ (allC ⟨by simp, by simp, by simp only; omega⟩ (allC ⟨by simp, by simp, by simp only; omega⟩ all0)))
    refine wp_mono (gm.newL (body_ok (okH1 201 21 N) mixed 1 jO (on1 192 true)) (oRd fops N k (hv1 k N) (X k) r (zf fops X r))
      (AllT.cons (by rw [decide_eq_true_eq]; omega) (AllT.cons (bI_ok hk) (AllT.cons (bI_ok hk) (AllT.cons (bI_ok hk) (AllT.cons (bI_ok hk) (AllT.cons (rowIs_ok (if_pos rfl)) (AllT.cons (bI_ok hk) (AllT.cons (bI_ok hk) (AllT.cons (by rw [decide_eq_true_eq]; omega) AllT.nil)))))))))
      l hal rfl hs hsz hd
      (allC ⟨hT, _, rfl, (ov hT (fun h => hO1 k h.symm)).trans tb_T, Wk.hvP fun j h0 h1 => by
          unfold hv1
          by_cases e : j = (k : Int)
          · rw [if_pos e]; subst e; exact .inr ⟨21, rfl, by simp [l, lkN], by omega, by omega⟩
          · rw [if_neg e]; exact .inl rfl⟩
        (allC ⟨hr, _, rfl, (ov hr (fun h => hO2 k h.symm)).trans (tb_r hi), Wk.flat (fun h => by cases h) (fun h => by cases h) (fr_flat _)⟩
        (allC ⟨gid fO k, ⟨true, true, .rows 1 k (fr (zf fops X r))⟩, rfl, by unfold ovO; rw [if_pos rfl], Wk.flat id id (fr_flat _)⟩
        (allC ⟨gid fT (π k), _, rfl, (ov _ d2).trans rowK, Wk.flat (fun h => by cases h) (fun h => by cases h) (fr_flat _)⟩ all0))))
      (allC (allC (fun h => absurd rfl h) (allC (fun _ h => by rcases h with h | h <;> cases h) (allC (fun _ _ => show some hT ≠ some (gid fO k) from fun e => hO1 k (Option.some.inj e).symm) (allC (fun _ h => by rcases h with h | h <;> cases h) all0))))
        (allC (allC (fun _ h => by rcases h with h | h <;> cases h) (allC (fun h => absurd rfl h) (allC (fun _ _ => show some hr ≠ some (gid fO k) from fun e => hO2 k (Option.some.inj e).symm) (allC (fun _ h => by rcases h with h | h <;> cases h) all0))))
        (allC (allC (fun _ _ => show some (gid fO k) ≠ some hT from fun e => hO1 k (Option.some.inj e)) (allC (fun _ _ => show some (gid fO k) ≠ some hr from fun e => hO2 k (Option.some.inj e)) (allC (fun h => absurd rfl h) (allC (fun _ _ => show some (gid fO k) ≠ some (gid fT (π k)) from fun e => d2 (Option.some.inj e).symm) all0))))
        (allC (allC (fun _ h => by rcases h with h | h <;> cases h) (allC (fun _ h => by rcases h with h | h <;> cases h) (allC (fun _ _ => show some (gid fT (π k)) ≠ some (gid fO k) from fun e => d2 (Option.some.inj e)) (allC (fun h => absurd rfl h) all0)))) all0))))
      [(gid fO (k + 1), 24)] [(gid fO (k + 1), ⟨true, true, .rows 1 ((k + 1 : Nat) : Int) (fr (zf fops X r))⟩)] [gid fO k]
      (allC ⟨by simp only; omega, hfr1 _ (by omega), by simp, by simp, by simp [findS_cons]⟩ all0) (allC (allC (fun _ => rfl) all0) all0) (allC (by simp [lkN]) all0)
      (fun sg' hP => ?_) (allC (fun h => by cases h) (allC (fun h => by cases h) (allC (fun _ => ⟨gid fO k, rfl, by simp⟩) (allC (fun h => by cases h) all0))))) fun e a' w' hp => ?_
    · obtain ⟨q24, _⟩ := hP
      refine allC ⟨24, _, by simp [lkN], q24, rfl, fun E' E2 _ _ _ => Wk.rows id id (by omega) fun j c v h0 h1 hv => ?_⟩ all0
      have : (bif decide (j < (k : Int)) then fr (zf fops X r) j else [.flt .f32 (fops.bin .quo .f32 (r k) (X k k))]) = fr (zf fops X r) j := by
        by_cases e : j < (k : Int)
        · rw [decide_eq_true e]; rfl
        · have e' : j = (k : Int) := by omega
          subst e'
          rw [decide_eq_false e]; rfl
      rw [this] at hv
      exact flatC_ok (flatL_getD (flatR_ok (fr_flat _) j) c) hv
    · obtain ⟨rfl, q1, q2, E2, k1, k2, gm2, ⟨t1, t2, t3, t4, t5, t6, _⟩⟩ := hp
      have t6' : RelV E2 (iI (IntKind.i64.wrap ((k : Int) + 1))) (a'.tmps.getD 191 undef) := t6
      rw [wrapN (by omega)] at t6'
      have hE2n : ∀ j, j ≠ gid fO (k + 1) → E2 j = E1 j := fun j h1 => k2 j (by simp only [lkN, if_neg h1])
      refine .inl ⟨rfl, N - (k + 1), by omega, k + 1, E2, rfl, by omega, q1, q2, hE1.trans k1, fun j hj => ?_, fun p hp => ?_, gm2.sub fun j g hj => ?_, t1, t2, t3, t4, t5, t6', trivial⟩
      · by_cases h1 : j = gid fO (k + 1)
        · exact .inr ⟨_, h1⟩
        · rw [hE2n j h1] at hj; exact hold j hj
      · rw [hE2n _ (fun h => by have := gid_inj h; omega)]; exact hfr1 p (by omega)
      · unfold rmS upS
        rw [findS_cons, findS_nil]
        unfold ovO at hj
        by_cases h1 : j = gid fO (k + 1)
        · rw [if_pos h1] at hj
          rw [if_neg (by rw [h1]; simp only [List.mem_singleton]; exact fun h => by have := gid_inj h; omega), if_pos h1]
          exact hj
        · rw [if_neg h1] at hj
          have hnd : j ≠ gid fO k := fun e => by rw [e, tbO] at hj; cases hj
          rw [if_neg (by simpa using hnd), if_neg h1]
          show ovO _ fO k _ j = some g
          rw [ov j hnd]; exact hj
  · have e : k = N := by omega
    subst e
    have hal : ∀ p ∈ l3 hT hr fO k, p.1 < 23 ∧ p.1 < 900 ∧ 900 ≤ p.2 := allC ⟨by simp, by simp, hi.a⟩ (allC ⟨by simp, by simp, hi.b⟩ (allC ⟨by simp, by simp, by simp only; omega⟩ all0))
    refine wp_mono (gm.run (body_ok okNil mixed 1 jO (on1 192 false)) (oEnd fops k k) (AllT.cons (by rw [decide_eq_false (by omega)]; rfl) (AllT.cons rfl AllT.nil)) (l3 hT hr fO k) hal rfl hs hsz hd all0 all0) fun e a' w' hp' => ?_
    obtain ⟨rfl, q1, q2, q3, q4⟩ := hp'
    exact .inr ⟨by simp [exitOf], rfl, q1, q2, E1, hE1, hold, q3, q4⟩
end
end
end Go.Proofs.Ytaoeigofmfpamaa
end

/- SolveHeats: the call. Nothing is assumed. -/
section
namespace Go.Proofs.Ytaoeigofmfpamaa
open Go
noncomputable section
def validS (n m : Int) (rr : Int → List SC) (L : Nat → Int) (R : Nat → Int → List SC) : Prop :=
  1 ≤ n ∧ n ≤ 8 ∧ m = n ∧ Fnr.finN isNum m rr = true ∧ ∀ p : Nat, (p : Int) < n → goodR n L R p
def resI (O : FOps) (nm : Nat → Bool) (N : Nat) (X : Nat → Int → Nat) (r : Int → Nat) : Option (Int → Nat) :=
  match solveI O N N 0 X r with
  | none => none
  | some p => bif Fnr.finN nm N (fr (zf O p.1 p.2)) then some (zf O p.1 p.2) else none
/-- What SolveHeats hands back: its memory under 'ho', its list or none. -/
def SolR (w0 : World) (T0 : Nat → Nat → Prop) (E : EM) (sg : Nat → Option Seg) (nw : Nat → Prop) (ho : Nat) (n m : Int) (rr : Int → List SC) (L : Nat → Int) (R : Nat → Int → List SC) (res : Option (Int → Nat)) (nilOK : EM → Value → Prop) (x : Value) (w' : World) : Prop :=
  ∃ E2, Ext E E2 ∧ (∀ j, E2 j ≠ none → E j ≠ none ∨ nw j) ∧ ∃ v c, x = .tuple #[v, .int .i64 c] ∧
    ((¬ validS n m rr L R ∧ c = 2 ∧ ∃ sg2, nilOK E2 v ∧ GM w0 T0 E2 sg2 w' ∧ ∀ j g, sg j = some g → sg2 j = some g) ∨
     (validS n m rr L R ∧ res = none ∧ c = 4 ∧ ∃ sg2, nilOK E2 v ∧ GM w0 T0 E2 sg2 w' ∧ ∀ j g, sg j = some g → sg2 j = some g) ∨
     (validS n m rr L R ∧ ∃ z, res = some z ∧ c = 0 ∧ RelC E2 (.sl ho 0 1 (.s n) true) v ∧ GM w0 T0 E2 (upS sg [(ho, ⟨true, true, .rows 1 n (fr z)⟩)]) w'))
theorem gate_ok {n m : Int} {b : Bool} (h : 1 ≤ n ∧ n ≤ 8 ∧ m = n) : gate n m b = b := by
  unfold gate
  rw [decide_eq_false (by omega : ¬ n < 1), decide_eq_false (by omega : ¬ 8 < n), decide_eq_true h.2.2]; rfl
theorem gate_no {n m : Int} {b : Bool} (h : ¬ (1 ≤ n ∧ n ≤ 8 ∧ m = n)) : gate n m b = true := by
  unfold gate
  by_cases h1 : n < 1
  · rw [decide_eq_true h1]; rfl
  · rw [decide_eq_false h1]
    by_cases h2 : 8 < n
    · rw [decide_eq_true h2]; rfl
    · rw [decide_eq_false h2, decide_eq_false (by omega : ¬ m = n)]; rfl
theorem gate_t {n m : Int} {b : Bool} (hb : b = true) : gate n m b = true := by
  by_cases h : 1 ≤ n ∧ n ≤ 8 ∧ m = n
  · rw [gate_ok h]; exact hb
  · exact gate_no h
theorem okI (h : CallOK Try.prog 58 (canS (Fnr.frH isNum))) : AllOK Try.prog (LIs isNum) := ⟨h, trivial⟩
section
variable {w0 w : World} {T0 : Nat → Nat → Prop} {E : EM} {sg : Nat → Option Seg} {rw rwR oR : Bool} {hA fA hR hr fT fH fO : Nat} {n m : Int} {L : Nat → Int} {R : Nat → Int → List SC} {rr : Int → List SC}
def nwI (hr fT fH fO j : Nat) : Prop := j = hr ∨ (∃ p, j = gid fT p) ∨ (∃ p, j = gid fH p) ∨ ∃ p, j = gid fO p
theorem isF_lt {f j : Nat} (h : j < 1000) : isF f j = false := by unfold isF; rw [decide_eq_false (by omega)]; rfl
def nilI (E : EM) (v : Value) : Prop := RelC E (.sl 0 0 0 (.c 0) false) v
theorem ih_call (gm : GM w0 T0 E sg w) (hss : SSof sg rw hA fA n L R) (hn0 : 0 ≤ n) (hA1 : 900 ≤ hA ∧ hA < 1000) (hR1 : 900 ≤ hR ∧ hR < 1000) (hgR : sg hR = some ⟨rwR, oR, .rows 1 m rr⟩) (hm0 : 0 ≤ m) (hm : m ≤ 1048576) (hshr : Shape SlFloat32.ts rr)
    (hr1 : 900 ≤ hr ∧ hr < 1000) (hfA : fA < 32) (hfT : fT < 32) (hfH : fH < 32) (hfO : fO < 32) (hAT : fA ≠ fT) (hAH : fA ≠ fH) (hAO : fA ≠ fO) (hTH : fT ≠ fH) (hTO : fT ≠ fO) (hHO : fH ≠ fO)
    (hrN : E hr = none) (hTN : ∀ p, E (gid fT p) = none) (hHN : ∀ p, E (gid fH p) = none) (hON : ∀ p, E (gid fO p) = none)
    {vA vR : Value} (hv : RelC E (.sl hA 0 1 (.s n) false) vA) (hvR : RelC E (.sl hR 0 1 (.s m) false) vR) :
    NextOK Try.prog ((callFunc 31 #[vA, vR]).run Try.prog w)
      (SolR w0 T0 E sg (nwI hr fT fH fO) (gid fO n.toNat) n m rr L R (resI fops isNum n.toNat (fun p => datF (R p) 0) (datF rr 0)) nilI) := by
  have hsgN : ∀ j, E j = none → sg j = none := fun j hj => by
    cases h : sg j with
    | none => rfl
    | some g => exact absurd hj (gm.has h)
  refine call_body Try.func31 (by kernel_rfl) ih_shape (Nat.le_of_ble_eq_true (show Nat.ble 2 ihF.ntmps = true by kernel_rfl)) fun a hsz hd hargs => ?_
  have hs0 : Sts E a (renA [(2, hA), (3, hR)] [(0, sI 2 n), (1, sI 3 m)]) := ⟨by rw [hargs]; exact hv, by rw [hargs]; exact hvR, trivial⟩
  have al : ∀ p ∈ [(2, hA), (3, hR)], p.1 < 10 ∧ p.1 < 900 ∧ 900 ≤ p.2 := allC ⟨by simp, by simp, hA1.1⟩ (allC ⟨by simp, by simp, hR1.1⟩ all0)
  refine wp_seq (wp_mono (gm.run (body_ok okNil mixed 1 _ off) (i0 fops n m) AllT.nil [(2, hA), (3, hR)] al rfl hs0 hsz hd all0 all0) fun e a1 w1 hp => ?_)
  obtain ⟨rfl, q1, q2, gm1, hs1⟩ := hp
  refine wp_seq (wp_mono (gm1.run (body_ok okNil mixed 1 _ off) (i1 fops n m) AllT.nil [(2, hA), (3, hR)] al rfl hs1 q1 q2 all0 all0) fun e a2 w2 hp => ?_)
  obtain ⟨rfl, q1, q2, gm2, hs2⟩ := hp
  have hrd : ∀ p ∈ [((3 : Nat), roG m rr)], ∃ g s0, lkN [(2, hA), (3, hR)] p.1 = some g ∧ sg g = some s0 ∧ Wk E (alE E [(2, hA), (3, hR)]) s0 p.2 :=
    allC ⟨hR, _, rfl, hgR, Wk.flat (fun h => by cases h) (fun h => by cases h) (SlFloat32.shape_flat hshr)⟩ all0
  by_cases hbad : gate n m (!Fnr.finN isNum m rr) = true
  · refine wp_seq (wp_mono (gm2.run (body_ok (okI cFrH) mixed 1 _ (on1 37 true)) (i2t fops isNum n m rr) (AllT.cons (gate_t (SlFloat32.shape_flat hshr)) (AllT.cons (gate_t (pB_iff.2 ⟨rfl, hm0, hm, hshr⟩)) (AllT.cons hbad (AllT.cons rfl AllT.nil))))
      [(2, hA), (3, hR)] al rfl hs2 q1 q2 hrd (allC rfl all0)) fun e a3 w3 hp => ?_)
    obtain ⟨rfl, q1, q2, gm3, ⟨t4, t5, _⟩⟩ := hp
    refine ⟨q2, _, results2 ih_res, _, rfl, E, Ext.refl E, fun j hj => .inl hj, _, 2, ?_, .inl ⟨fun hval => ?_, rfl, sg, t4, gm3, fun _ _ h => h⟩⟩
    · have : a3.tmps.getD 5 undef = .int .i64 2 := t5
      rw [this]
    · obtain ⟨v1, v2, v3, v4, _⟩ := hval
      rw [gate_ok ⟨v1, v2, v3⟩, v4] at hbad
      cases hbad
  have hgood : (1 ≤ n ∧ n ≤ 8 ∧ m = n) ∧ Fnr.finN isNum m rr = true := by
    by_cases h : 1 ≤ n ∧ n ≤ 8 ∧ m = n
    · refine ⟨h, ?_⟩
      rw [gate_ok h] at hbad
      simpa using hbad
    · exact absurd (gate_no h) hbad
  obtain ⟨⟨hn1, hn8, hmn⟩, hfr⟩ := hgood
  obtain ⟨N, rfl⟩ : ∃ N : Nat, n = N := ⟨n.toNat, by omega⟩
  subst hmn
  rw [Int.toNat_natCast]
  have hN8 : N ≤ 8 := by omega
  refine wp_seq (wp_mono (gm2.run (body_ok (okI cFrH) mixed 1 _ (on1 37 false)) (i2f fops isNum N N rr) (AllT.cons (gate_t (SlFloat32.shape_flat hshr)) (AllT.cons (gate_t (pB_iff.2 ⟨rfl, hm0, hm, hshr⟩)) (AllT.cons (by simpa using hbad) AllT.nil)))
      [(2, hA), (3, hR)] al rfl hs2 q1 q2 hrd (allC rfl all0)) fun e a3 w3 hp => ?_)
  obtain ⟨rfl, q1, q2, gm3, hs3⟩ := hp
  -- the table, empty
  have g0 := gid_ge fH 0
  refine wp_seq (wp_mono (gm3.newL (body_ok okNil mixed 1 _ off) (i4 fops N N) AllT.nil [(2, hA), (3, hR)] al rfl hs3 q1 q2 all0 all0
    [(gid fH 0, 10)] [(gid fH 0, ⟨true, true, .rows 1 ((0 : Nat) : Int) (hdP fT id N)⟩)] []
    (allC ⟨by simp only; omega, hHN 0, by simp, by simp, by simp [findS_cons]⟩ all0) (allC (allC (fun _ => rfl) all0) all0) (allC (by simp [lkN]) all0)
    (fun sg' hP => allC ⟨10, _, by simp [lkN], hP.1, rfl, fun E' E2 _ _ _ => Wk.nil⟩ all0) all0) fun e a4 w4 hp => ?_)
  obtain ⟨rfl, q1, q2, E4, hE4, hE4n, gm4, ⟨t1, t2, t3, t4, _⟩⟩ := hp
  have hE4e : ∀ j, j ≠ gid fH 0 → E4 j = E j := fun j hj => hE4n j (by simp only [lkN, if_neg hj])
  have gm4' : GM w0 T0 E4 (sgB sg fH fT 0 N (fun p => datF (R p) 0)) w4 := gm4.sub fun j g hg => by
    unfold rmS upS
    rw [if_neg (by simp), findS_cons, findS_nil]
    unfold sgB at hg
    by_cases e : j = gid fH 0
    · rw [if_pos e] at hg ⊢; exact hg
    · rw [if_neg e] at hg ⊢
      rw [if_neg (by omega)] at hg
      exact hg
  -- the rounds
  have al4 : ∀ p ∈ [(2, hA), (3, hR), (4, gid fH 0)], p.1 < 10 ∧ p.1 < 900 ∧ 900 ≤ p.2 := allC ⟨by simp, by simp, hA1.1⟩ (allC ⟨by simp, by simp, hR1.1⟩ (allC ⟨by simp, by simp, by simp only; omega⟩ all0))
  refine wp_seq (wp_seq (wp_mono (gm4'.run (body_ok okNil mixed 1 _ off) (i5 fops N N) AllT.nil [(2, hA), (3, hR), (4, gid fH 0)] al4 rfl ⟨t1, t2, t3, t4, trivial⟩ q1 q2 all0 all0) fun e a5 w5 hp => ?_))
  obtain ⟨rfl, q1, q2, gm5, hs5⟩ := hp
  have hold4 : oldB E E4 fH fT := fun j hj => by
    by_cases e : j = gid fH 0
    · exact .inr (.inl ⟨0, e⟩)
    · rw [hE4e j e] at hj; exact .inl hj
  refine wp_block (wp_mono (bl gm hss hN8 hA1 hR1 hfA hfT hfH hAT hAH hTH hTN hHN hE4 hold4 (fun p => by rw [hE4e _ (gid_ne hTH hfT hfH)]; exact hTN p) (fun p hp => by rw [hE4e _ (fun h => by have := gid_inj h; omega)]; exact hHN p) gm5 hs5 q1 q2) fun e a6 w6 hp => ?_)
  obtain ⟨q1, q2, E6, hE6, hold6, ⟨rfl, hgd, gm6, ⟨t1, t6, t7, _⟩⟩ | ⟨rfl, ⟨p, hp1, hp2⟩, ⟨i, gm6⟩, ⟨t4, t5, _⟩⟩⟩ := hp
  rotate_left
  · refine ⟨q2, _, results2 ih_res, _, rfl, E6, hE6, fun j hj => ?_, _, 2, ?_, .inl ⟨fun hval => hp2 (hval.2.2.2.2 p (by omega)), rfl, sg, t4, gm6.sub fun j g hj => ?_, fun _ _ h => h⟩⟩
    · rcases hold6 j hj with h | ⟨p, h⟩ | ⟨p, h⟩
      · exact .inl h
      · exact .inr (.inr (.inr (.inl ⟨p, h⟩)))
      · exact .inr (.inr (.inl ⟨p, h⟩))
    · have : a6.tmps.getD 5 undef = .int .i64 2 := t5
      rw [this]
    · have hne := gm.has hj
      unfold sgB
      rw [if_neg (fun e => hne (by rw [e]; exact hHN i)), if_neg (fun h => hne (by rw [(isF_iff hfT).1 h.1]; exact hTN _))]
      exact hj
  have hvalid : validS (N : Int) N rr L R := ⟨hn1, hn8, rfl, hfr, fun p hp => hgd p (by omega)⟩
  -- the right side
  have gN := gid_ge fH N
  let hT := gid fH N
  have hE6r : E6 hr = none := by
    cases h : E6 hr with
    | none => rfl
    | some x =>
      rcases hold6 hr (by rw [h]; simp) with k | ⟨p, k⟩ | ⟨p, k⟩
      · exact absurd hrN k
      · have := gid_ge fH p; omega
      · have := gid_ge fT p; omega
  have al6 : ∀ p ∈ [(3, hR), (4, hT)], p.1 < 10 ∧ p.1 < 900 ∧ 900 ≤ p.2 := allC ⟨by simp, by simp, hR1.1⟩ (allC ⟨by simp, by simp, by show 900 ≤ gid fH N; omega⟩ all0)
  have hgR6 : sgB sg fH fT N N (fun p => datF (R p) 0) hR = some ⟨rwR, oR, .rows 1 N rr⟩ := by
    unfold sgB
    rw [if_neg (by omega), isF_lt hR1.2]
    simp only [Bool.false_eq_true, false_and, if_false]
    exact hgR
  show (Code.seq (cL c5) (.seq (.seq (cL (cL c6)) (.block 2 (.loop jK))) (.seq (cL c7) (.seq (.seq (cL (cL c8)) (.block 10 (.loop jO))) (.seq (cL c9) (cR c9)))))).wp Try.prog _ a6 w6
  refine wp_seq (wp_mono (gm6.newL (body_ok okNil mixed 1 _ off) (i12 fops N N (datF rr 0)) (AllT.cons (by rw [decide_eq_true_eq]; omega) AllT.nil) [(3, hR), (4, hT)] al6 rfl ⟨t1, t6, t7, trivial⟩ q1 q2
    (allC ⟨hR, _, rfl, hgR6, by rw [shape_fr hshr]; exact Wk.flat (fun h => by cases h) (fun h => by cases h) (fr_flat _)⟩ all0) (allC (allC (fun h => absurd rfl h) all0) all0)
    [(hr, 11)] [(hr, ⟨true, true, .rows 1 N (fr (datF rr 0))⟩)] []
    (allC ⟨hr1.1, hE6r, by simp, by simp, by simp [findS_cons]⟩ all0) (allC (allC (fun _ => rfl) all0) all0) (allC (by simp [lkN]) all0)
    (fun sg' hP => allC ⟨11, _, by simp [lkN], hP.1, rfl, fun E' E2 _ _ _ => Wk.flat id id (fr_flat _)⟩ all0) (allC (fun h => by cases h) all0)) fun e a7 w7 hp => ?_)
  obtain ⟨rfl, q1, q2, E7, hE7, hE7n, gm7, ⟨t6, t7, t10, _⟩⟩ := hp
  have hE7e : ∀ j, j ≠ hr → E7 j = E6 j := fun j hj => hE7n j (by simp only [lkN, if_neg hj])
  have hold7 : ∀ j, E7 j ≠ none → E j ≠ none ∨ j = hr ∨ (∃ p, j = gid fT p) ∨ ∃ p, j = gid fH p := fun j hj => by
    by_cases e : j = hr
    · exact .inr (.inl e)
    · rw [hE7e j e] at hj
      rcases hold6 j hj with h | h | h
      · exact .inl h
      · exact .inr (.inr (.inr h))
      · exact .inr (.inr (.inl h))
  have ids : Ids hT hr fT := ⟨by show 900 ≤ gid fH N; omega, hr1.1, by show gid fH N ≠ hr; omega, hfT, by show isF fT (gid fH N) = false; rw [isF_gid hfH, decide_eq_false (Ne.symm hTH)], isF_lt hr1.2⟩
  have gm7' : GM w0 T0 E7 (tb sg hT hr fT N (hdP fT id N) (fun p => datF (R p) 0) (datF rr 0)) w7 := gm7.tell fun j g hg => by
    unfold rmS upS
    rw [if_neg (by simp), findS_cons, findS_nil]
    unfold tb at hg
    by_cases e1 : j = hr
    · rw [if_pos e1]
      rw [if_neg (fun h => ids.c (by rw [← h, e1])), if_pos e1] at hg
      cases hg
      exact ⟨_, rfl, id, fun h => (by cases h), Nat.le_refl _, fun _ _ _ r => r⟩
    · rw [if_neg e1]
      unfold sgB
      by_cases e2 : j = hT
      · rw [if_pos e2] at hg ⊢
        cases hg
        exact ⟨_, rfl, id, fun h => (by cases h), Nat.le_refl _, fun _ _ _ r => r⟩
      · rw [if_neg e2, if_neg e1] at hg
        rw [if_neg e2]
        by_cases e3 : isF fT j = true ∧ posF j < N
        · rw [if_pos e3]
          rw [if_pos ⟨e3.1, by omega⟩] at hg
          cases hg
          exact ⟨_, rfl, id, fun h => (by cases h), Nat.le_refl _, fun _ _ _ r => r⟩
        · rw [if_neg e3]
          rw [if_neg (fun h => e3 ⟨h.1, by omega⟩)] at hg
          exact ⟨g, hg, Wk.ext (Ext.refl _) g⟩
  have hM : MT w0 T0 E7 sg hT hr fT N (fun p => datF (R p) 0) (datF rr 0) w7 := ⟨id, fun p => datF (R p) 0, ⟨fun p hp => hp, fun p q _ _ h => h⟩, fun p _ => rfl, gm7'⟩
  -- column after column
  obtain ⟨π7, Y7, _, _, gm7k⟩ := hM
  have hM : MT w0 T0 E7 sg hT hr fT N (fun p => datF (R p) 0) (datF rr 0) w7 := ⟨id, fun p => datF (R p) 0, ⟨fun p hp => hp, fun p q _ _ h => h⟩, fun p _ => rfl, gm7'⟩
  refine wp_seq (wp_seq (wp_mono (gm7'.run (body_ok okNil mixed 1 _ off) (i13 fops N) AllT.nil (l0 hT hr) (l0_ok ids) rfl ⟨t6, sl_ro t7, sl_ro t10, trivial⟩ q1 q2 all0 all0) fun e a8 w8 hp => ?_))
  obtain ⟨rfl, q1, q2, gm8, hs8⟩ := hp
  have hM8 : MT w0 T0 E7 sg hT hr fT N (fun p => datF (R p) 0) (datF rr 0) w8 := ⟨id, fun p => datF (R p) 0, ⟨fun p hp => hp, fun p q _ _ h => h⟩, fun p _ => rfl, gm8⟩
  have toSg : ∀ {E' : EM} {w' : World} {X' r'}, MT w0 T0 E' sg hT hr fT N X' r' w' → GM w0 T0 E' sg w' := fun ⟨π, Y, _, _, g⟩ => g.sub fun j s hj => by
    have hne := gm.has hj
    unfold tb
    rw [if_neg (fun e => hne (by rw [e]; exact hHN N)), if_neg (fun e => hne (by rw [e]; exact hrN)), if_neg (fun h => hne (by rw [(isF_iff hfT).1 h.1]; exact hTN _))]
    exact hj
  refine wp_block (wp_mono (kl ids hN8 hM8 hs8 q1 q2) fun e a9 w9 hp => ?_)
  obtain ⟨q1, q2, ⟨rfl, ⟨X', r', hsol, π, Y, hπ, hX, gm9⟩, ⟨t6, t7, t10, _⟩⟩ | ⟨rfl, hsol, ⟨X', r', hM9⟩, ⟨t4, t5, _⟩⟩⟩ := hp
  rotate_left
  · refine ⟨q2, _, results2 ih_res, _, rfl, E7, hE6.trans hE7, fun j hj => ?_, _, 4, ?_, .inr (.inl ⟨hvalid, by unfold resI; rw [hsol], rfl, sg, t4, toSg hM9, fun _ _ h => h⟩)⟩
    · rcases hold7 j hj with h | h | h | h
      · exact .inl h
      · exact .inr (.inl h)
      · exact .inr (.inr (.inl h))
      · exact .inr (.inr (.inr (.inl h)))
    · have : a9.tmps.getD 5 undef = .int .i64 4 := t5
      rw [this]
  -- what comes out
  have hO7 : ∀ p, E7 (gid fO p) = none := fun p => by
    cases h : E7 (gid fO p) with
    | none => rfl
    | some x =>
      rcases hold7 _ (by rw [h]; simp) with k | k | ⟨q, k⟩ | ⟨q, k⟩
      · exact absurd (hON p) k
      · have := gid_ge fO p; omega
      · exact absurd k (gid_ne (Ne.symm hTO) hfO hfT)
      · exact absurd k (gid_ne (Ne.symm hHO) hfO hfH)
  have gO := gid_ge fO 0
  show (Code.seq (cL c7) (.seq (.seq (cL (cL c8)) (.block 10 (.loop jO))) (.seq (cL c9) (cR c9)))).wp Try.prog _ a9 w9
  refine wp_seq (wp_mono (gm9.newL (body_ok okNil mixed 1 _ off) (i38 fops N) AllT.nil (l0 hT hr) (l0_ok ids) rfl ⟨t6, t7, t10, trivial⟩ q1 q2 all0 all0
    [(gid fO 0, 10)] [(gid fO 0, ⟨true, true, .rows 1 ((0 : Nat) : Int) (fr (zf fops X' r'))⟩)] []
    (allC ⟨by simp only; omega, hO7 0, by simp, by simp, by simp [findS_cons]⟩ all0) (allC (allC (fun _ => rfl) all0) all0) (allC (by simp [lkN]) all0)
    (fun sg' hP => allC ⟨10, _, by simp [lkN], hP.1, rfl, fun E' E2 _ _ _ => Wk.nil⟩ all0) all0) fun e a10 w10 hp => ?_)
  obtain ⟨rfl, q1, q2, E10, hE10, hE10n, gm10, ⟨t6, t7, t10, t17, _⟩⟩ := hp
  have hE10e : ∀ j, j ≠ gid fO 0 → E10 j = E7 j := fun j hj => hE10n j (by simp only [lkN, if_neg hj])
  have gm10' : GM w0 T0 E10 (ovO (tb sg hT hr fT N (hdP fT π N) Y r') fO 0 (zf fops X' r')) w10 := gm10.sub fun j g hg => by
    unfold rmS upS
    rw [if_neg (by simp), findS_cons, findS_nil]
    unfold ovO at hg
    by_cases e : j = gid fO 0
    · rw [if_pos e] at hg ⊢; exact hg
    · rw [if_neg e] at hg ⊢; exact hg
  have al10 : ∀ p ∈ l3 hT hr fO 0, p.1 < 10 ∧ p.1 < 900 ∧ 900 ≤ p.2 := allC ⟨by simp, by simp, ids.a⟩ (allC ⟨by simp, by simp, ids.b⟩ (allC ⟨by simp, by simp, by simp only; omega⟩ all0))
  refine wp_seq (wp_seq (wp_mono (gm10'.run (body_ok okNil mixed 1 _ off) (i39 fops N) AllT.nil (l3 hT hr fO 0) al10 rfl ⟨t6, t7, t10, t17, trivial⟩ q1 q2 all0 all0) fun e a11 w11 hp => ?_))
  obtain ⟨rfl, q1, q2, gm11, hs11⟩ := hp
  refine wp_block (wp_mono (ol (E := E7) ids hN8 hπ hX hfO (Ne.symm hTO) (fun p => gid_ne (Ne.symm hHO) hfO hfH) (fun p => by have := gid_ge fO p; omega) (fun p => hsgN _ (hON p)) hE10 (fun j hj => by
    by_cases e : j = gid fO 0
    · exact .inr ⟨0, e⟩
    · rw [hE10e j e] at hj; exact .inl hj) (fun p hp => by rw [hE10e _ (fun h => by have := gid_inj h; omega)]; exact hO7 p) gm11 hs11 q1 q2) fun e a12 w12 hp => ?_)
  obtain ⟨rfl, q1, q2, E12, hE12, hold12, gm12, hs12⟩ := hp
  have hnw : ∀ j, E12 j ≠ none → E j ≠ none ∨ nwI hr fT fH fO j := fun j hj => by
    rcases hold12 j hj with h | h
    · rcases hold7 j h with h | h | h | h
      · exact .inl h
      · exact .inr (.inl h)
      · exact .inr (.inr (.inl h))
      · exact .inr (.inr (.inr (.inl h)))
    · exact .inr (.inr (.inr (.inr h)))
  have gO' := gid_ge fO N
  have hgo : ovO (tb sg hT hr fT N (hdP fT π N) Y r') fO N (zf fops X' r') (gid fO N) = some ⟨true, true, .rows 1 N (fr (zf fops X' r'))⟩ := by unfold ovO; rw [if_pos rfl]
  have al12 : ∀ p ∈ l3 hT hr fO N, p.1 < 10 ∧ p.1 < 900 ∧ 900 ≤ p.2 := allC ⟨by simp, by simp, ids.a⟩ (allC ⟨by simp, by simp, ids.b⟩ (allC ⟨by simp, by simp, by simp only; omega⟩ all0))
  have hrd12 : ∀ p ∈ [((6 : Nat), roG (N : Int) (fr (zf fops X' r')))], ∃ g s0, lkN (l3 hT hr fO N) p.1 = some g ∧ ovO (tb sg hT hr fT N (hdP fT π N) Y r') fO N (zf fops X' r') g = some s0 ∧ Wk E12 (alE E12 (l3 hT hr fO N)) s0 p.2 :=
    allC ⟨gid fO N, _, rfl, hgo, Wk.flat (fun h => by cases h) (fun h => by cases h) (fr_flat _)⟩ all0
  have hback : ∀ j g, sg j = some g → ovO (tb sg hT hr fT N (hdP fT π N) Y r') fO N (zf fops X' r') j = some g := fun j g hj => by
    have hne := gm.has hj
    unfold ovO tb
    rw [if_neg (fun e => hne (by rw [e]; exact hON N)), if_neg (fun e => hne (by rw [e]; exact hHN N)), if_neg (fun e => hne (by rw [e]; exact hrN)), if_neg (fun h => hne (by rw [(isF_iff hfT).1 h.1]; exact hTN _))]
    exact hj
  have hshz : Shape SlFloat32.ts (fr (zf fops X' r')) := SlFloat32.shape_row (fun _ => zf fops X' r') (fun _ _ => 0)
  show (Code.seq (cL c9) (cR c9)).wp Try.prog _ a12 w12
  cases hfin : Fnr.finN isNum N (fr (zf fops X' r')) with
  | false =>
    refine wp_seq (wp_mono (gm12.run (body_ok (okI cFrH) mixed 1 _ (on1 212 true)) (i44t fops isNum N (fr (zf fops X' r'))) (AllT.cons (fr_flat _) (AllT.cons (pB_iff.2 ⟨rfl, by omega, by omega, hshz⟩) (AllT.cons (by rw [hfin]; rfl) (AllT.cons rfl AllT.nil)))) (l3 hT hr fO N) al12 rfl hs12 q1 q2 hrd12 (allC rfl all0)) fun e a13 w13 hp => ?_)
    obtain ⟨rfl, q1, q2, gm13, ⟨t4, t5, _⟩⟩ := hp
    refine ⟨q2, _, results2 ih_res, _, rfl, E12, (hE6.trans hE7).trans hE12, hnw, _, 4, ?_, .inr (.inl ⟨hvalid, by unfold resI; rw [hsol]; simp only [hfin]; rfl, rfl, sg, t4, gm13.sub hback, fun _ _ h => h⟩)⟩
    have : a13.tmps.getD 5 undef = .int .i64 4 := t5
    rw [this]
  | true =>
    refine wp_seq (wp_mono (gm12.run (body_ok (okI cFrH) mixed 1 _ (on1 212 false)) (i44f fops isNum N (fr (zf fops X' r'))) (AllT.cons (fr_flat _) (AllT.cons (pB_iff.2 ⟨rfl, by omega, by omega, hshz⟩) (AllT.cons (by rw [hfin]; rfl) AllT.nil))) (l3 hT hr fO N) al12 rfl hs12 q1 q2 hrd12 (allC rfl all0)) fun e a13 w13 hp => ?_)
    obtain ⟨rfl, q1, q2, gm13, hs13⟩ := hp
    refine wp_mono (gm13.run (body_ok okNil mixed 1 _ off) (i46 fops N) (AllT.cons rfl AllT.nil) (l3 hT hr fO N) al12 rfl hs13 q1 q2 all0 all0) fun e a14 w14 hp => ?_
    obtain ⟨rfl, q1, q2, gm14, ⟨t4, t5, _⟩⟩ := hp
    refine ⟨q2, _, results2 ih_res, _, rfl, E12, (hE6.trans hE7).trans hE12, hnw, _, 0, ?_, .inr (.inr ⟨hvalid, zf fops X' r', by unfold resI; rw [hsol]; simp only [hfin]; rfl, rfl, t4, gm14.sub fun j g hj => ?_⟩)⟩
    · have : a14.tmps.getD 5 undef = .int .i64 0 := t5
      rw [this]
    · unfold upS at hj
      rw [findS_cons, findS_nil] at hj
      by_cases e : j = gid fO N
      · rw [if_pos e] at hj; rw [e, hgo]; exact hj
      · rw [if_neg e] at hj; exact hback j g hj
end
end
end Go.Proofs.Ytaoeigofmfpamaa
end

/- SolveHeats' pieces (the reference's). Nothing is assumed. -/
section
namespace Go.Proofs.Ytaoeigofmfpamaa
open Go
noncomputable section
noncomputable abbrev shF : Func := Try.f29
noncomputable def shB : Code := bodyC shF
noncomputable def d2 : Code := cR (cR shB)
noncomputable def d3 : Code := cR d2
noncomputable def d4 : Code := cR d3
noncomputable def d5 : Code := cR d4
noncomputable def d6 : Code := cR d5
noncomputable def d7 : Code := cR d6
noncomputable def d8 : Code := cR d7
noncomputable def d9 : Code := cR d8
noncomputable def d10 : Code := cR d9
noncomputable def tC : Code := cB (cB (cR (cL d3)))
noncomputable def tB : Code := cB (cB (cR (cL d6)))
noncomputable def tK : Code := cB (cB (cR (cL d7)))
noncomputable def tK2 : Code := cB (cL (cR tK))
noncomputable def tk2 : Code := cR tK2
noncomputable def tP : Code := cB (cB (cR (cL tk2)))
noncomputable def tk3 : Code := cR tk2
noncomputable def tk4 : Code := cR tk3
noncomputable def tk5 : Code := cR tk4
noncomputable def tk6 : Code := cR tk5
noncomputable def tk7 : Code := cR tk6
noncomputable def tEe : Code := cB (cB (cR tk7))
noncomputable def tE2 : Code := cB (cL (cR tEe))
noncomputable def te2 : Code := cR tE2
noncomputable def te3 : Code := cR te2
noncomputable def tJ : Code := cB (cB (cR te3))
noncomputable def tO : Code := cB (cB (cR (cL d9)))
set_option maxRecDepth 100000 in
theorem sh_shape : shF.body = some (.seq (cL shB) (.seq (cL (cR shB)) (.seq (cL d2) (.seq (.seq (cL (cL d3)) (.block 0 (.loop tC))) (.seq (cL d4) (.seq (cL d5) (.seq (.seq (cL (cL d6)) (.block 2 (.loop tB))) (.seq (.seq (cL (cL d7)) (.block 4 (.loop tK))) (.seq (cL d8) (.seq (.seq (cL (cL d9)) (.block 12 (.loop tO))) (.seq (cL d10) (cR d10)))))))))))) := by kernel_rfl
set_option maxRecDepth 100000 in
theorem tK_shape : tK = .seq (cL tK) (.seq (.block 5 tK2) (cR (cR tK))) := by kernel_rfl
set_option maxRecDepth 100000 in
theorem tK2_shape : tK2 = .seq (cL tK2) (.seq (.seq (cL (cL tk2)) (.block 6 (.loop tP))) (.seq (cL tk3) (.seq (cL tk4) (.seq (cL tk5) (.seq (cL tk6) (.seq (cL tk7) (.block 8 (.loop tEe)))))))) := by kernel_rfl
set_option maxRecDepth 100000 in
theorem tE_shape : tEe = .seq (cL tEe) (.seq (.block 9 tE2) (cR (cR tEe))) := by kernel_rfl
set_option maxRecDepth 100000 in
theorem tE2_shape : tE2 = .seq (cL tE2) (.seq (cL te2) (.seq (cL te3) (.block 10 (.loop tJ)))) := by kernel_rfl
noncomputable def LSp (nm : Nat → Bool) : List (Nat × CS) := [(54, canS (Fnr.frH nm))]
noncomputable abbrev blV (b : Bool) : SV := .c (.bool (.s b))
set_option maxRecDepth 100000 in
theorem s0 (O : FOps) (n m : Int) : runV (cxA O []) shF.ntmps ⟨off, fun _ => none⟩ (cL shB) [(0, sI 2 n), (1, sI 3 m)] [] 10 0 [0, 1] [] =
    some (none, [sI 2 n, sI 3 m], [], []) := by kernel_rfl
set_option maxRecDepth 100000 in
theorem s1 (O : FOps) (n m : Int) : runV (cxA O []) shF.ntmps ⟨off, fun _ => none⟩ (cL (cR shB)) [(0, sI 2 n), (1, sI 3 m)] [] 10 0 [0, 1, 6] [] =
    some (none, [sI 2 n, sI 3 m, iI n], [], []) := by kernel_rfl
noncomputable def gateS (n m : Int) (b : Bool) : Bool := bif !(bif decide (1 ≤ n) then decide (n ≤ 8) else false) then true else (bif !decide (m = n) then true else b)
noncomputable def okH0 (nm : Nat → Bool) (n m : Int) (row : Int → List SC) : Bool := bif (bif decide (1 ≤ n) then decide (n ≤ 8) else false) then (bif decide (m = n) then Fnr.finN nm m row else false) else false
set_option maxRecDepth 100000 in
theorem s2 (O : FOps) (nm : Nat → Bool) (n m : Int) (row : Int → List SC) : runV (cxA O (LSp nm)) shF.ntmps ⟨off, fun _ => none⟩ (cL d2) [(0, sI 2 n), (1, sI 3 m), (6, iI n)] [(3, roG m row)] 10 0 [0, 1, 6, 7] [] =
    some (none, [sI 2 n, sI 3 m, iI n, blV (okH0 nm n m row)], [], [gateS n m (flatR row), gateS n m (SlFloat32.okN m m row)]) := by kernel_rfl
set_option maxRecDepth 100000 in
theorem s3 (O : FOps) (n m : Int) (b : Bool) : runV (cxA O []) shF.ntmps ⟨off, fun _ => none⟩ (cL (cL d3)) [(0, sI 2 n), (1, sI 3 m), (6, iI n), (7, blV b)] [] 10 0 [0, 1, 6, 7, 8] [] =
    some (none, [sI 2 n, sI 3 m, iI n, blV b, .c (.int .i64 (.c 0))], [], []) := by kernel_rfl
noncomputable def lC (nm : Nat → Bool) (m : Int) : List (Nat × CS) := hI 44 21 m :: hI 52 21 m :: LSp nm
noncomputable def okR (nm : Nat → Bool) (n l : Int) (row : Int → List SC) : Bool := bif decide (l = n) then Fnr.finN nm l row else false
set_option maxRecDepth 100000 in
theorem cRd (O : FOps) (nm : Nat → Bool) (n m i l : Int) (b : Bool) (hd row : Int → List SC) : runV (cxA O (lC nm l)) shF.ntmps ⟨on1 39 true, fun _ => none⟩ tC [(0, sI 2 n), (1, sI 3 m), (6, iI n), (7, blV b), (8, iI i)]
    [(2, roG n hd), (21, roG l row)] 22 0 [0, 1, 6, 7, 8] [] =
    some (none, [sI 2 n, sI 3 m, iI n, blV (okR nm n l row), iI (IntKind.i64.wrap (i + 1))], [],
      [bif decide (i < n) then b else false, bI n i, bI n i, rowIs hd i (hd1 21 l), gate1 n l (bI n i), gate1 n l (bI n i), gate1 n l (rowIs hd i (hd1 21 l)), gate1 n l (flatR row), gate1 n l (SlFloat32.okN l l row)]) := by kernel_rfl
set_option maxRecDepth 100000 in
theorem cEnd (O : FOps) (n m i : Int) (b : Bool) : runV (cxA O []) shF.ntmps ⟨on1 39 false, fun _ => none⟩ tC [(0, sI 2 n), (1, sI 3 m), (6, iI n), (7, blV b), (8, iI i)]
    [] 22 0 [0, 1, 6, 7] [] =
    some (some (.exit 0), [sI 2 n, sI 3 m, iI n, blV b], [], [!(bif decide (i < n) then b else false), true]) := by kernel_rfl
set_option maxRecDepth 100000 in
theorem s7t (O : FOps) (b : Bool) : runV (cxA O []) shF.ntmps ⟨on1 57 true, fun _ => none⟩ (cL d4) [(7, blV b)] [] 10 0 [4, 5] [10] =
    some (some .ret, [.c (.sl 10 0 1 (.c 0) true), .c (.int .i64 (.c 2))], [some ⟨true, true, .cells []⟩], [!b, true]) := by kernel_rfl
set_option maxRecDepth 100000 in
theorem s7f (O : FOps) (n m : Int) (b : Bool) : runV (cxA O []) shF.ntmps ⟨on1 57 false, fun _ => none⟩ (cL d4) [(0, sI 2 n), (1, sI 3 m), (6, iI n), (7, blV b)] [] 10 0 [0, 1, 6] [] =
    some (none, [sI 2 n, sI 3 m, iI n], [], [!(!b)]) := by kernel_rfl
set_option maxRecDepth 100000 in
theorem s9 (O : FOps) (n m : Int) : runV (cxA O []) shF.ntmps ⟨off, fun _ => none⟩ (cL d5) [(0, sI 2 n), (1, sI 3 m), (6, iI n)] [] 10 0 [0, 1, 6, 9] [10] =
    some (none, [sI 2 n, sI 3 m, iI n, .c (.sl 10 0 1 (.c 0) true)], [some ⟨true, true, .cells []⟩], []) := by kernel_rfl
set_option maxRecDepth 100000 in
theorem s10 (O : FOps) (n m : Int) : runV (cxA O []) shF.ntmps ⟨off, fun _ => none⟩ (cL (cL d6)) [(0, sI 2 n), (1, sI 3 m), (6, iI n), (9, sF 4 0)] [] 10 0 [0, 1, 6, 9, 10] [] =
    some (none, [sI 2 n, sI 3 m, iI n, sF 4 0, .c (.int .i64 (.c 0))], [], []) := by kernel_rfl
noncomputable abbrev vB2 (n m i : Int) : List (Nat × SV) := [(0, sI 2 n), (1, sI 3 m), (6, iI n), (9, sF 4 i), (10, iI i)]
/-- A row, and the right side behind it. -/
noncomputable def extR (n : Int) (x : Int → Nat) (y : Nat) (j : Int) : Nat := bif decide (j < n) then x j else y
set_option maxRecDepth 100000 in
theorem sBd (O : FOps) (n m i : Int) (hd hdT : Int → List SC) (x y : Int → Nat) : runV (cxA O [hI 69 21 n]) shF.ntmps ⟨on1 62 true, fun _ => none⟩ tB (vB2 n m i)
    [(2, roG n hd), (3, roG m (fr y)), (4, ⟨true, true, .rows 1 i hdT⟩), (21, roG n (fr x))] 22 0 [0, 1, 6, 9, 10] [25, 27] =
    some (none, [sI 2 n, sI 3 m, iI n, sF 27 (i + 1), iI (IntKind.i64.wrap (i + 1))], [some ⟨true, true, .rows 1 (n + 1) (fun j => bif decide (j < n) then fr x j else [.flt .f32 (y i)])⟩, some ⟨true, true, .rows 1 (i + 1) (fun j => bif decide (j < i) then hdT j else [.sl 25 0 1 (.s (n + 1)) true])⟩],
      [decide (i < n), bI n i, bI n i, rowIs hd i (hd1 21 n), decide (0 ≤ n ∧ n ≤ n ∧ n ≤ 1000000), bI m i, bI m i, decide (0 ≤ n ∧ n ≤ n ∧ n ≤ 999999), decide (0 ≤ i ∧ i ≤ i ∧ i ≤ 999999)]) := by kernel_rfl
set_option maxRecDepth 100000 in
theorem sBe (O : FOps) (n m i : Int) : runV (cxA O []) shF.ntmps ⟨on1 62 false, fun _ => none⟩ tB (vB2 n m i)
    [] 22 0 [6, 9] [] =
    some (some (.exit 2), [iI n, sF 4 i], [], [!decide (i < n), true]) := by kernel_rfl
/-! ### a column -/
set_option maxRecDepth 100000 in
theorem s14 (O : FOps) (n : Int) : runV (cxA O []) shF.ntmps ⟨off, fun _ => none⟩ (cL (cL d7)) [(6, iI n), (9, sI 4 n)] [] 10 0 [6, 9, 11] [] =
    some (none, [iI n, sI 4 n, .c (.int .i64 (.c 0))], [], []) := by kernel_rfl
set_option maxRecDepth 100000 in
theorem u15 (O : FOps) (n k : Int) : runV (cxA O []) shF.ntmps ⟨on1 82 true, fun _ => none⟩ (cL tK) [(6, iI n), (9, sI 4 n), (11, iI k)] [] 10 0 [6, 9, 11] [] =
    some (none, [iI n, sI 4 n, iI k], [], [decide (k < n)]) := by kernel_rfl
set_option maxRecDepth 100000 in
theorem uEnd (O : FOps) (n k : Int) : runV (cxA O []) shF.ntmps ⟨on1 82 false, fun _ => none⟩ tK [(6, iI n), (9, sI 4 n), (11, iI k)] [] 10 0 [6, 9] [] =
    some (some (.exit 4), [iI n, sI 4 n], [], [!decide (k < n), true]) := by kernel_rfl
set_option maxRecDepth 100000 in
theorem u17 (O : FOps) (n k : Int) : runV (cxA O []) shF.ntmps ⟨off, fun _ => none⟩ (cL tK2) [(6, iI n), (9, sI 4 n), (11, iI k)] [] 10 0 [6, 9, 11, 12] [] =
    some (none, [iI n, sI 4 n, iI k, iI k], [], []) := by kernel_rfl
set_option maxRecDepth 100000 in
theorem u18 (O : FOps) (n k : Int) : runV (cxA O []) shF.ntmps ⟨off, fun _ => none⟩ (cL (cL tk2)) [(6, iI n), (9, sI 4 n), (11, iI k), (12, iI k)] [] 10 0 [6, 9, 11, 12, 13] [] =
    some (none, [iI n, sI 4 n, iI k, iI k, iI (IntKind.i64.wrap (k + 1))], [], []) := by kernel_rfl
noncomputable def aI (O : FOps) (x : Nat) : Nat := bif O.cmp .leq .f32 x 0 then O.bin .sub .f32 0 x else x
noncomputable def pvS (O : FOps) (b i : Int) (x y : Nat) : Int := bif O.cmp .gtr .f32 (aI O x) (aI O y) then i else b
noncomputable abbrev vP (n k b i : Int) : List (Nat × SV) := [(6, iI n), (9, sI 4 n), (11, iI k), (12, iI b), (13, iI i)]
set_option maxRecDepth 100000 in
theorem uRd (O : FOps) (n k b i : Int) (hd : Int → List SC) (x y : Int → Nat) : runV (cxA O [hI 95 21 (n + 1), hI 103 22 (n + 1)]) shF.ntmps ⟨on1 90 true, fun _ => none⟩ tP (vP n k b i)
    [(4, roG n hd), (21, roG (n + 1) (fr x)), (22, roG (n + 1) (fr y))] 23 0 [6, 9, 11, 12, 13] [] =
    some (none, [iI n, sI 4 n, iI k, iI (pvS O b i (x k) (y k)), iI (IntKind.i64.wrap (i + 1))], [], [decide (i < n), bI n i, bI n i, rowIs hd i (hd1 21 (n + 1)), bI (n + 1) k, bI (n + 1) k, bI n b, bI n b, rowIs hd b (hd1 22 (n + 1)), bI (n + 1) k, bI (n + 1) k]) := by kernel_rfl
set_option maxRecDepth 100000 in
theorem upEnd (O : FOps) (n k b i : Int) : runV (cxA O []) shF.ntmps ⟨on1 90 false, fun _ => none⟩ tP (vP n k b i) [] 10 0 [6, 9, 11, 12] [] =
    some (some (.exit 6), [iI n, sI 4 n, iI k, iI b], [], [!decide (i < n), true]) := by kernel_rfl
noncomputable abbrev vT (n k b : Int) : List (Nat × SV) := [(6, iI n), (9, sI 4 n), (11, iI k), (12, iI b)]
set_option maxRecDepth 100000 in
theorem u23 (O : FOps) (n k b : Int) (hd : Int → List SC) : runV (cxA O [hI 113 21 (n + 1)]) shF.ntmps ⟨off, fun _ => none⟩ (cL tk3) (vT n k b) [(4, roG n hd)] 23 0 [6, 9, 11, 12, 14] [] =
    some (none, [iI n, sI 4 n, iI k, iI b, sI 21 (n + 1)], [], [bI n b, bI n b, rowIs hd b (hd1 21 (n + 1))]) := by kernel_rfl
set_option maxRecDepth 100000 in
theorem u24 (O : FOps) (n k b : Int) (hd : Int → List SC) (ik : Nat) : runV (cxA O [hI 119 ik (n + 1), (1000121, hntS [])]) shF.ntmps ⟨off, fun _ => none⟩ (cL tk4) (vT n k b ++ [(14, sI 22 (n + 1))]) [(4, ⟨true, false, .rows 1 n hd⟩)] 23 0 [6, 9, 11, 14] [4] =
    some (none, [iI n, sI 4 n, iI k, sI 22 (n + 1)], [some ⟨true, false, .rows 1 n (fun j => bif decide (j = b) then hd1 ik (n + 1) else hd j)⟩], [bI n k, bI n k, rowIs hd k (hd1 ik (n + 1)), bI n b, bI n b]) := by kernel_rfl
noncomputable abbrev vW (n k : Int) : List (Nat × SV) := [(6, iI n), (9, sI 4 n), (11, iI k), (14, sI 22 (n + 1))]
set_option maxRecDepth 100000 in
theorem u25 (O : FOps) (n k : Int) (hd : Int → List SC) : runV (cxA O [(1000125, hntS [])]) shF.ntmps ⟨off, fun _ => none⟩ (cL tk5) (vW n k) [(4, ⟨true, false, .rows 1 n hd⟩)] 23 0 [6, 9, 11, 14] [4] =
    some (none, [iI n, sI 4 n, iI k, sI 22 (n + 1)], [some ⟨true, false, .rows 1 n (fun j => bif decide (j = k) then hd1 22 (n + 1) else hd j)⟩], [bI n k, bI n k]) := by kernel_rfl
set_option maxRecDepth 100000 in
theorem u26t (O : FOps) (n k : Int) (y : Int → Nat) : runV (cxA O []) shF.ntmps ⟨on1 132 true, fun _ => none⟩ (cL tk6) (vW n k) [(22, roG (n + 1) (fr y))] 23 0 [4, 5] [23] =
    some (some .ret, [.c (.sl 23 0 1 (.c 0) true), .c (.int .i64 (.c 4))], [some ⟨true, true, .cells []⟩], [bI (n + 1) k, bI (n + 1) k, !O.cmp .gtr .f32 (aI O (y k)) 0, true]) := by kernel_rfl
set_option maxRecDepth 100000 in
theorem u26f (O : FOps) (n k : Int) (y : Int → Nat) : runV (cxA O []) shF.ntmps ⟨on1 132 false, fun _ => none⟩ (cL tk6) (vW n k) [(22, roG (n + 1) (fr y))] 23 0 [6, 9, 11, 14] [] =
    some (none, [iI n, sI 4 n, iI k, sI 22 (n + 1)], [], [bI (n + 1) k, bI (n + 1) k, !(!O.cmp .gtr .f32 (aI O (y k)) 0)]) := by kernel_rfl
set_option maxRecDepth 100000 in
theorem u28 (O : FOps) (n k : Int) : runV (cxA O []) shF.ntmps ⟨off, fun _ => none⟩ (cL tk7) (vW n k) [] 23 0 [6, 9, 11, 14, 15] [] =
    some (none, [iI n, sI 4 n, iI k, sI 22 (n + 1), .c (.int .i64 (.c 0))], [], []) := by kernel_rfl
/-! ### one row more -/
noncomputable abbrev vX (n k i : Int) : List (Nat × SV) := vW n k ++ [(15, iI i)]
noncomputable abbrev oX (n k i : Int) : List SV := [iI n, sI 4 n, iI k, sI 22 (n + 1), iI i]
noncomputable abbrev tX : List Nat := [6, 9, 11, 14, 15]
set_option maxRecDepth 100000 in
theorem x29 (O : FOps) (n k i : Int) : runV (cxA O []) shF.ntmps ⟨on1 136 true, fun _ => none⟩ (cL tEe) (vX n k i) [] 23 0 tX [] =
    some (none, oX n k i, [], [decide (i < n)]) := by kernel_rfl
set_option maxRecDepth 100000 in
theorem xEnd (O : FOps) (n k i : Int) : runV (cxA O []) shF.ntmps ⟨on1 136 false, fun _ => none⟩ tEe (vX n k i) [] 23 0 [6, 9, 11] [] =
    some (some (.exit 8), [iI n, sI 4 n, iI k], [], [!decide (i < n), true]) := by kernel_rfl
set_option maxRecDepth 100000 in
theorem x31t (O : FOps) (n k i : Int) : runV (cxA O []) shF.ntmps ⟨on1 141 true, fun _ => none⟩ (cL tE2) (vX n k i) [] 23 0 tX [] =
    some (some (.exit 9), oX n k i, [], [decide (i = k), true]) := by kernel_rfl
set_option maxRecDepth 100000 in
theorem x31f (O : FOps) (n k i : Int) : runV (cxA O []) shF.ntmps ⟨on1 141 false, fun _ => none⟩ (cL tE2) (vX n k i) [] 23 0 tX [] =
    some (none, oX n k i, [], [!decide (i = k)]) := by kernel_rfl
set_option maxRecDepth 100000 in
theorem x32 (O : FOps) (n k i : Int) (hd : Int → List SC) (x y : Int → Nat) : runV (cxA O [hI 144 21 (n + 1)]) shF.ntmps ⟨off, fun _ => none⟩ (cL te2) (vX n k i)
    [(4, roG n hd), (21, roG (n + 1) (fr x)), (22, roG (n + 1) (fr y))] 23 0 (tX ++ [16]) [] =
    some (none, oX n k i ++ [.c (.flt .f32 (O.bin .quo .f32 (x k) (y k)))], [], [bI n i, bI n i, rowIs hd i (hd1 21 (n + 1)), bI (n + 1) k, bI (n + 1) k, bI (n + 1) k, bI (n + 1) k]) := by kernel_rfl
noncomputable abbrev vY (n k i : Int) (q : Nat) : List (Nat × SV) := vX n k i ++ [(16, .c (.flt .f32 q))]
noncomputable abbrev oY (n k i : Int) (q : Nat) : List SV := oX n k i ++ [.c (.flt .f32 q)]
set_option maxRecDepth 100000 in
theorem x33 (O : FOps) (n k i : Int) (q : Nat) : runV (cxA O []) shF.ntmps ⟨off, fun _ => none⟩ (cL te3) (vY n k i q) [] 23 0 (tX ++ [16, 17]) [] =
    some (none, oY n k i q ++ [iI k], [], []) := by kernel_rfl
set_option maxRecDepth 100000 in
theorem yRd (O : FOps) (n k i j : Int) (q : Nat) (hd : Int → List SC) (x y : Int → Nat) : runV (cxA O [hI 162 21 (n + 1), hI 167 21 (n + 1)]) shF.ntmps ⟨on1 157 true, fun _ => none⟩ tJ (vY n k i q ++ [(17, iI j)])
    [(4, roG n hd), (21, ⟨true, false, .rows 1 (n + 1) (fr x)⟩), (22, roG (n + 1) (fr y))] 23 0 (tX ++ [16, 17]) [21] =
    some (none, oY n k i q ++ [iI (IntKind.i64.wrap (j + 1))], [some ⟨true, false, .rows 1 (n + 1) (fr (fun c => bif decide (c = j) then elim O q (x j) (y j) else x c))⟩],
      [decide (j ≤ n), bI n i, bI n i, rowIs hd i (hd1 21 (n + 1)), bI n i, bI n i, rowIs hd i (hd1 21 (n + 1)), bI (n + 1) j, bI (n + 1) j, bI (n + 1) j, bI (n + 1) j, bI (n + 1) j, bI (n + 1) j]) := by kernel_rfl
set_option maxRecDepth 100000 in
theorem yEnd (O : FOps) (n k i j : Int) (q : Nat) : runV (cxA O []) shF.ntmps ⟨on1 157 false, fun _ => none⟩ tJ (vY n k i q ++ [(17, iI j)])
    [] 23 0 tX [] =
    some (some (.exit 10), oX n k i, [], [!decide (j ≤ n), true]) := by kernel_rfl
set_option maxRecDepth 100000 in
theorem x30 (O : FOps) (n k i : Int) : runV (cxA O []) shF.ntmps ⟨off, fun _ => none⟩ (cR (cR tEe)) (vX n k i) [] 23 0 tX [] =
    some (none, [iI n, sI 4 n, iI k, sI 22 (n + 1), iI (IntKind.i64.wrap (i + 1))], [], []) := by kernel_rfl
set_option maxRecDepth 100000 in
theorem u16 (O : FOps) (n k : Int) : runV (cxA O []) shF.ntmps ⟨off, fun _ => none⟩ (cR (cR tK)) [(6, iI n), (9, sI 4 n), (11, iI k)] [] 10 0 [6, 9, 11] [] =
    some (none, [iI n, sI 4 n, iI (IntKind.i64.wrap (k + 1))], [], []) := by kernel_rfl
/-! ### what comes out -/
set_option maxRecDepth 100000 in
theorem s37 (O : FOps) (n : Int) : runV (cxA O []) shF.ntmps ⟨off, fun _ => none⟩ (cL d8) [(6, iI n), (9, sI 4 n)] [] 10 0 [6, 9, 18] [10] =
    some (none, [iI n, sI 4 n, .c (.sl 10 0 1 (.c 0) true)], [some ⟨true, true, .cells []⟩], []) := by kernel_rfl
set_option maxRecDepth 100000 in
theorem s38 (O : FOps) (n : Int) : runV (cxA O []) shF.ntmps ⟨off, fun _ => none⟩ (cL (cL d9)) [(6, iI n), (9, sI 4 n), (18, sF 6 0)] [] 10 0 [6, 9, 18, 19] [] =
    some (none, [iI n, sI 4 n, sF 6 0, .c (.int .i64 (.c 0))], [], []) := by kernel_rfl
noncomputable abbrev vQ (n k : Int) : List (Nat × SV) := [(6, iI n), (9, sI 4 n), (18, sF 6 k), (19, iI k)]
set_option maxRecDepth 100000 in
theorem qRd (O : FOps) (n k : Int) (hd : Int → List SC) (x z : Int → Nat) : runV (cxA O [hI 189 21 (n + 1), hI 196 21 (n + 1)]) shF.ntmps ⟨on1 183 true, fun _ => none⟩ tO (vQ n k)
    [(4, roG n hd), (6, ⟨true, true, .rows 1 k (fr z)⟩), (21, roG (n + 1) (fr x))] 23 0 [6, 9, 18, 19] [24] =
    some (none, [iI n, sI 4 n, sF 24 (k + 1), iI (IntKind.i64.wrap (k + 1))], [some ⟨true, true, .rows 1 (k + 1) (fun j => bif decide (j < k) then fr z j else [.flt .f32 (O.bin .quo .f32 (x n) (x k))])⟩],
      [decide (k < n), bI n k, bI n k, rowIs hd k (hd1 21 (n + 1)), bI (n + 1) n, bI (n + 1) n, bI n k, bI n k, rowIs hd k (hd1 21 (n + 1)), bI (n + 1) k, bI (n + 1) k, decide (0 ≤ k ∧ k ≤ k ∧ k ≤ 999999)]) := by kernel_rfl
set_option maxRecDepth 100000 in
theorem qEnd (O : FOps) (n k : Int) : runV (cxA O []) shF.ntmps ⟨on1 183 false, fun _ => none⟩ tO (vQ n k)
    [] 23 0 [18] [] =
    some (some (.exit 12), [sF 6 k], [], [!decide (k < n), true]) := by kernel_rfl
set_option maxRecDepth 100000 in
theorem s42t (O : FOps) (nm : Nat → Bool) (n : Int) (row : Int → List SC) : runV (cxA O (LSp nm)) shF.ntmps ⟨on1 206 true, fun _ => none⟩ (cL d10) [(18, sF 6 n)] [(6, roG n row)] 10 0 [4, 5] [68] =
    some (some .ret, [.c (.sl 68 0 1 (.c 0) true), .c (.int .i64 (.c 4))], [some ⟨true, true, .cells []⟩], [flatR row, SlFloat32.okN n n row, !Fnr.finN nm n row, true]) := by kernel_rfl
set_option maxRecDepth 100000 in
theorem s42f (O : FOps) (nm : Nat → Bool) (n : Int) (row : Int → List SC) : runV (cxA O (LSp nm)) shF.ntmps ⟨on1 206 false, fun _ => none⟩ (cL d10) [(18, sF 6 n)] [(6, roG n row)] 10 0 [18] [] =
    some (none, [sF 6 n], [], [flatR row, SlFloat32.okN n n row, !(!Fnr.finN nm n row)]) := by kernel_rfl
set_option maxRecDepth 100000 in
theorem s44 (O : FOps) (n : Int) : runV (cxA O []) shF.ntmps ⟨off, fun _ => none⟩ (cR d10) [(18, sF 6 n)] [] 10 0 [4, 5] [] =
    some (some .ret, [sF 6 n, .c (.int .i64 (.c 0))], [], [true]) := by kernel_rfl
theorem sh_res : shF.results.toList = [.tmp 4, .tmp 5] := by kernel_rfl
end
end Go.Proofs.Ytaoeigofmfpamaa
end

/- SolveHeats (the reference's): its table, the pivot, rows changed over. Nothing is assumed. -/
section
namespace Go.Proofs.Ytaoeigofmfpamaa
open Go
noncomputable section
def tbS (sg0 : Nat → Option Seg) (hT fT : Nat) (n w : Int) (hd : Int → List SC) (Y : Nat → Int → Nat) : Nat → Option Seg := fun j =>
  if j = hT then some ⟨true, false, .rows 1 n hd⟩ else if isF fT j = true ∧ ((posF j : Nat) : Int) < n then some ⟨true, false, .rows 1 w (fr (Y (posF j)))⟩ else sg0 j
structure IdS (hT fT : Nat) : Prop where
  a : 900 ≤ hT
  d : fT < 32
  e : isF fT hT = false
section
variable {w0 w : World} {T0 : Nat → Nat → Prop} {E : EM} {sg0 : Nat → Option Seg} {hT fT N : Nat} {π : Nat → Nat} {Y : Nat → Int → Nat} {hd : Int → List SC} {n q : Int} {X : Nat → Int → Nat}
theorem tbS_T : tbS sg0 hT fT n q hd Y hT = some ⟨true, false, .rows 1 n hd⟩ := by unfold tbS; rw [if_pos rfl]
theorem tbS_row (hi : IdS hT fT) {p : Nat} (hp : (p : Int) < n) : tbS sg0 hT fT n q hd Y (gid fT p) = some ⟨true, false, .rows 1 q (fr (Y p))⟩ := by
  have h1 : isF fT (gid fT p) = true := by rw [isF_gid hi.d]; simp
  unfold tbS
  rw [if_neg (fun e => by rw [e, hi.e] at h1; cases h1), pos_gid hi.d, if_pos ⟨h1, hp⟩]
theorem gid_neS (hi : IdS hT fT) (p : Nat) : gid fT p ≠ hT := by
  have h1 : isF fT (gid fT p) = true := by rw [isF_gid hi.d]; simp
  exact fun e => by rw [e, hi.e] at h1; cases h1
theorem Wk.hvQ {E : EM} {rw o : Bool} {l : List (Nat × Nat)} {hv : Int → List SC} (h : ∀ j : Int, 0 ≤ j → j < n → hv j = [.any] ∨ ∃ id, hv j = hd1 id q ∧ lkN l id = some (gid fT (π j.toNat)) ∧ 0 < id ∧ id < 900) :
    Wk E (alE E l) ⟨rw, o, .rows 1 n (hdP fT π q)⟩ ⟨false, false, .rows 1 n hv⟩ :=
  Wk.rows (fun h => by cases h) (fun h => by cases h) (Int.le_refl _) fun j c v k0 k1 hv' => by
    rcases h j k0 k1 with h | ⟨id, h, hl, hp, h9⟩
    · rw [h]; exact one_any hv'
    · rw [h]
      exact one_row (fun v hv => sl_in hv h9 (by omega) hl) hv'
abbrev lS (hT fT : Nat) (π : Nat → Nat) (i b : Nat) : List (Nat × Nat) := [(4, hT), (21, gid fT (π i)), (22, gid fT (π b))]
abbrev lS0 (hT : Nat) : List (Nat × Nat) := [(4, hT)]
theorem lS_ok (hi : IdS hT fT) (i b : Nat) : ∀ p ∈ lS hT fT π i b, p.1 < 23 ∧ p.1 < 900 ∧ 900 ≤ p.2 :=
  allC ⟨by simp, by simp, hi.a⟩ (allC ⟨by simp, by simp, by have := gid_ge fT (π i); simp only; omega⟩ (allC ⟨by simp, by simp, by have := gid_ge fT (π b); simp only; omega⟩ all0))
theorem lS0_ok (hi : IdS hT fT) : ∀ p ∈ lS0 hT, p.1 < 10 ∧ p.1 < 900 ∧ 900 ≤ p.2 := allC ⟨by simp, by simp, hi.a⟩ all0
theorem hvS2 (i b : Nat) : ∀ j : Int, 0 ≤ j → j < n → hv2 i b q j = [.any] ∨ ∃ id, hv2 i b q j = hd1 id q ∧ lkN (lS hT fT π i b) id = some (gid fT (π j.toNat)) ∧ 0 < id ∧ id < 900 := fun j h0 h1 => by
  unfold hv2
  by_cases e : j = (i : Int)
  · rw [if_pos e]
    subst e
    exact .inr ⟨21, rfl, by simp [lkN], by omega, by omega⟩
  · rw [if_neg e]
    by_cases e' : j = (b : Int)
    · rw [if_pos e']
      subst e'
      exact .inr ⟨22, rfl, by simp [lkN], by omega, by omega⟩
    · rw [if_neg e']; exact .inl rfl
theorem hvS1 (i b : Nat) : ∀ j : Int, 0 ≤ j → j < n → hv1 i q j = [.any] ∨ ∃ id, hv1 i q j = hd1 id q ∧ lkN (lS hT fT π i b) id = some (gid fT (π j.toNat)) ∧ 0 < id ∧ id < 900 := fun j h0 h1 => by
  unfold hv1
  by_cases e : j = (i : Int)
  · rw [if_pos e]
    subst e
    exact .inr ⟨21, rfl, by simp [lkN], by omega, by omega⟩
  · rw [if_neg e]; exact .inl rfl
def pvSL (O : FOps) (X : Nat → Int → Nat) (k : Nat) : Nat → Nat → Nat → Nat
  | 0, _, b => b
  | m + 1, i, b => pvSL O X k m (i + 1) (bif O.cmp .gtr .f32 (aI O (X i k)) (aI O (X b k)) then i else b)
theorem pvS_eq (O : FOps) (b i x y : Nat) : pvS O b i x y = (((bif O.cmp .gtr .f32 (aI O x) (aI O y) then i else b : Nat)) : Int) := by
  unfold pvS
  cases O.cmp .gtr .f32 (aI O x) (aI O y) <;> rfl
theorem bIw {i N : Nat} (h : i < N + 1) : decide (0 ≤ (i : Int) ∧ (i : Int) < (N : Int) + 1) = true := by rw [decide_eq_true_eq]; omega
theorem pivS (hi : IdS hT fT) (hN : N ≤ 8) {k : Nat} (hk : k < N) (hπ : PmOK N π) (hX : ∀ p, p < N → Y (π p) = X p) (gm : GM w0 T0 E (tbS sg0 hT fT N (N + 1) (hdP fT π (N + 1)) Y) w) {a : Act}
    (hs : Sts E a (renA (lS0 hT) (vP N k k ((k + 1 : Nat) : Int)))) (hsz : a.tmps.size = shF.ntmps) (hd : a.defers = []) :
    (Code.loop tP).wp Try.prog (fun e a' w' => e = .exit 6 ∧ a'.tmps.size = shF.ntmps ∧ a'.defers = [] ∧ GM w0 T0 E (tbS sg0 hT fT N (N + 1) (hdP fT π (N + 1)) Y) w' ∧ Sts E a' (renA (lS0 hT) (vT N k (pvSL fops X k (N - (k + 1)) (k + 1) k : Nat)))) a w := by
  refine wp_loop_inv (fun m a w => ∃ i b : Nat, m = N - i ∧ k + 1 ≤ i ∧ i ≤ N ∧ b < i ∧ b < N ∧ pvSL fops X k (N - i) i b = pvSL fops X k (N - (k + 1)) (k + 1) k ∧ a.tmps.size = shF.ntmps ∧ a.defers = [] ∧ GM w0 T0 E (tbS sg0 hT fT N (N + 1) (hdP fT π (N + 1)) Y) w ∧ Sts E a (renA (lS0 hT) (vP N k b i)))
    (fun m a w hI => ?_) (N - (k + 1)) a w ⟨k + 1, k, rfl, Nat.le_refl _, by omega, by omega, hk, rfl, hsz, hd, gm, hs⟩
  obtain ⟨i, b, hm, hki, hiN, hbi, hbN, hp, hsz, hd, gm, hs⟩ := hI
  by_cases hlt : i < N
  · have h1 : pvSL fops X k (N - i) i b = pvSL fops X k (N - (i + 1)) (i + 1) (bif fops.cmp .gtr .f32 (aI fops (X i k)) (aI fops (X b k)) then i else b) := by
      rw [show N - i = (N - (i + 1)) + 1 by omega]; rfl
    rw [h1] at hp
    have rowI := tbS_row (sg0 := sg0) (hd := hdP fT π (N + 1)) (Y := Y) (q := (N : Int) + 1) hi (n := (N : Int)) (p := π i) (by have := hπ.lt i hlt; omega)
    have rowB := tbS_row (sg0 := sg0) (hd := hdP fT π (N + 1)) (Y := Y) (q := (N : Int) + 1) hi (n := (N : Int)) (p := π b) (by have := hπ.lt b hbN; omega)
    rw [hX i hlt] at rowI
    rw [hX b hbN] at rowB
    refine wp_mono (gm.run (body_ok (okH2 95 21 103 22 (N + 1)) mixed 1 tP (on1 90 true)) (uRd fops N k b i (hv2 i b (N + 1)) (X i) (X b))
        (AllT.cons (by rw [decide_eq_true_eq]; omega) (AllT.cons (bI_ok hlt) (AllT.cons (bI_ok hlt) (AllT.cons (rowIs_ok (if_pos rfl)) (AllT.cons (bIw (by omega)) (AllT.cons (bIw (by omega)) (AllT.cons (bI_ok hbN) (AllT.cons (bI_ok hbN) (AllT.cons (rowIs_ok (by unfold hv2; rw [if_neg (by omega), if_pos rfl])) (AllT.cons (bIw (by omega)) (AllT.cons (bIw (by omega)) AllT.nil)))))))))))
        (lS hT fT π i b) (lS_ok hi i b) rfl hs hsz hd
        (allC ⟨hT, _, rfl, tbS_T, Wk.hvQ (hvS2 i b)⟩ (allC ⟨gid fT (π i), _, rfl, rowI, Wk.flat (fun h => by cases h) (fun h => by cases h) (fr_flat _)⟩ (allC ⟨gid fT (π b), _, rfl, rowB, Wk.flat (fun h => by cases h) (fun h => by cases h) (fr_flat _)⟩ all0))) (allC rfl (allC rfl (allC rfl all0)))) fun e a' w' hp' => ?_
    obtain ⟨rfl, q1, q2, q3, q4⟩ := hp'
    rw [pvS_eq, wrapN (by omega)] at q4
    refine .inl ⟨rfl, N - (i + 1), by omega, i + 1, _, rfl, by omega, by omega, ?_, ?_, hp, q1, q2, q3, q4⟩
    · cases fops.cmp .gtr .f32 (aI fops (X i k)) (aI fops (X b k))
      · show b < i + 1; omega
      · show i < i + 1; omega
    · cases fops.cmp .gtr .f32 (aI fops (X i k)) (aI fops (X b k))
      · exact hbN
      · exact hlt
  · have e : i = N := by omega
    refine wp_mono (gm.run (body_ok okNil mixed 1 tP (on1 90 false)) (upEnd fops N k b i) (AllT.cons (by rw [decide_eq_false (by omega)]; rfl) (AllT.cons rfl AllT.nil)) (lS0 hT) (lS0_ok hi) rfl hs hsz hd all0 all0) fun e a' w' hp' => ?_
    obtain ⟨rfl, q1, q2, q3, q4⟩ := hp'
    subst e
    rw [show i - i = 0 by omega] at hp
    have hp : b = pvSL fops X k (i - (k + 1)) (k + 1) k := hp
    rw [← hp]
    exact .inr ⟨by simp [exitOf], rfl, q1, q2, q3, q4⟩
/-! ### rows changed over -/
theorem tbS_hd (hd hd' : Int → List SC) : ∀ j g, tbS sg0 hT fT n q hd' Y j = some g → upS (tbS sg0 hT fT n q hd Y) [(hT, ⟨true, false, .rows 1 n hd'⟩)] j = some g := fun j g hg => by
  unfold upS
  rw [findS_cons]
  unfold tbS at hg ⊢
  by_cases e : j = hT
  · rw [if_pos e] at hg ⊢; exact hg
  · rw [if_neg e] at hg ⊢
    rw [findS_nil, if_neg e]; exact hg
theorem tbS_up (hi : IdS hT fT) {p : Nat} {f : Int → Nat} (hq : (p : Int) < n) : ∀ j g, tbS sg0 hT fT n q hd (updF Y p f) j = some g → upS (tbS sg0 hT fT n q hd Y) [(gid fT p, ⟨true, false, .rows 1 q (fr f)⟩)] j = some g := fun j g hg => by
  have n1 := gid_neS hi p
  unfold upS
  rw [findS_cons]
  unfold tbS at hg ⊢
  by_cases e : j = gid fT p
  · subst e
    rw [if_neg n1, pos_gid hi.d] at hg
    rw [if_pos rfl]
    split at hg
    · unfold updF at hg; rw [if_pos rfl] at hg; exact hg
    · rename_i hc
      exact absurd ⟨show isF fT (gid fT p) = true by rw [isF_gid hi.d]; simp, hq⟩ hc
  · rw [if_neg e, findS_nil]
    split at hg
    · rename_i h; rw [if_pos h]; exact hg
    · rename_i h
      rw [if_neg h]
      split at hg
      · rename_i h3
        rw [if_pos h3]
        have : posF j ≠ p := fun h => e (by rw [← h]; exact (isF_iff hi.d).1 h3.1)
        unfold updF at hg
        rw [if_neg this] at hg
        exact hg
      · rename_i h3
        rw [if_neg h3]; exact hg
/-- The headers, the one at 'b' turned into that at 'k'. -/
def sw1 (π : Nat → Nat) (k b p : Nat) : Nat := if p = b then π k else π p
theorem okZ4 (N ik : Nat) (n : Int) : AllOK Try.prog [hI 119 ik n, (1000121, hntS [])] := ⟨hintOK _, hintOK _, trivial⟩
theorem okZ5 : AllOK Try.prog [(1000125, hntS [])] := ⟨hintOK _, trivial⟩
abbrev lW (hT fT : Nat) (g : Nat) : List (Nat × Nat) := [(4, hT), (22, g)]
theorem lW_ok (hi : IdS hT fT) {g : Nat} (hg : 900 ≤ g) : ∀ p ∈ lW hT fT g, p.1 < 23 ∧ p.1 < 900 ∧ 900 ≤ p.2 := allC ⟨by simp, by simp, hi.a⟩ (allC ⟨by simp, by simp, hg⟩ all0)
theorem swapS (hi : IdS hT fT) {k b : Nat} (hk : k < N) (hb : b < N) (gm : GM w0 T0 E (tbS sg0 hT fT N (N + 1) (hdP fT π (N + 1)) Y) w) {a : Act} {Q : Exit → Act → World → Prop} {c : Code}
    (hs : Sts E a (renA (lS0 hT) (vT N k b))) (hsz : a.tmps.size = shF.ntmps) (hd : a.defers = [])
    (hQ : ∀ a' w', a'.tmps.size = shF.ntmps → a'.defers = [] → GM w0 T0 E (tbS sg0 hT fT N (N + 1) (hdP fT (sw π k b) (N + 1)) Y) w' → Sts E a' (renA (lW hT fT (gid fT (sw π k b k))) (vW N k)) → c.wp Try.prog Q a' w') :
    (Code.seq (cL tk3) (.seq (cL tk4) (.seq (cL tk5) c))).wp Try.prog Q a w := by
  have gb := gid_ge fT (π b)
  have gk := gid_ge fT (π k)
  refine wp_seq (wp_mono (gm.run (body_ok (okH1 113 21 (N + 1)) mixed 1 _ off) (u23 fops N k b (hv1 b (N + 1))) (AllT.cons (bI_ok hb) (AllT.cons (bI_ok hb) (AllT.cons (rowIs_ok (if_pos rfl)) AllT.nil))) (lS hT fT π b b) (lS_ok hi b b) rfl hs hsz hd
    (allC ⟨hT, _, rfl, tbS_T, Wk.hvQ (hvS1 b b)⟩ all0) (allC rfl all0)) fun e a1 w1 hp => ?_)
  obtain ⟨rfl, q1, q2, gm1, ⟨t6, t9, t11, t12, t14, _⟩⟩ := hp
  refine wp_seq (wp_mono (gm1.wr1 (g2 := ⟨true, false, .rows 1 N (hdP fT (sw1 π k b) (N + 1))⟩) (g0 := hT) (i0 := 4) (sr := ⟨true, false, .rows 1 N (hdP fT π (N + 1))⟩) (body_ok (okZ4 N (gid fT (π k)) (N + 1)) mixed 1 _ off) (u24 fops N k b (hdP fT π (N + 1)) (gid fT (π k)))
    (AllT.cons (bI_ok hk) (AllT.cons (bI_ok hk) (AllT.cons (rowIs_ok rfl) (AllT.cons (bI_ok hb) (AllT.cons (bI_ok hb) AllT.nil)))))
    (lW hT fT (gid fT (π b))) (lW_ok hi (by omega)) rfl ⟨t6, t9, t11, t12, t14, trivial⟩ q1 q2
    (allC ⟨hT, _, rfl, tbS_T, Wk.hdB al_big fun j _ _ => ⟨_, _, by have := gid_ge fT (π j.toNat); omega, rfl, rfl⟩⟩ all0) (allC (allC (fun h => absurd rfl h) all0) all0) rfl rfl rfl (allC (fun _ => rfl) all0) (fun E' he => Wk.hdB (fun j hj => (he j hj).symm) fun j h0 h1 => ?_)) fun e a2 w2 hp => ?_)
  · unfold hdP sw1
    by_cases e : j = (b : Int)
    · subst e
      exact ⟨gid fT (π k), N + 1, by omega, by rw [decide_eq_true rfl]; rfl, by rw [if_pos (Int.toNat_natCast b)]⟩
    · rw [decide_eq_false e]
      have e2 : j.toNat ≠ b := by omega
      rw [if_neg e2]
      exact ⟨gid fT (π j.toNat), N + 1, by have := gid_ge fT (π j.toNat); omega, rfl, rfl⟩
  obtain ⟨rfl, q1, q2, hs2, gm2⟩ := hp
  have gm2 := gm2.sub (tbS_hd _ (hdP fT (sw1 π k b) (N + 1)))
  refine wp_seq (wp_mono (gm2.wr1' (g2 := ⟨true, false, .rows 1 N (hdP fT (sw π k b) (N + 1))⟩) (g0 := hT) (i0 := 4) (sr := ⟨true, false, .rows 1 N (hdP fT (sw1 π k b) (N + 1))⟩) (body_ok okZ5 mixed 1 _ off) (u25 fops N k (hdP fT (sw1 π k b) (N + 1)))
    (AllT.cons (bI_ok hk) (AllT.cons (bI_ok hk) AllT.nil))
    (lW hT fT (gid fT (π b))) (lW_ok hi (by omega)) rfl hs2 q1 q2
    (allC ⟨hT, _, rfl, tbS_T, Wk.hdB al_big fun j _ _ => ⟨_, _, by have := gid_ge fT (sw1 π k b j.toNat); omega, rfl, rfl⟩⟩ all0) (allC (allC (fun h => absurd rfl h) all0) all0) rfl rfl rfl (allC (fun _ => rfl) all0) (fun E' he hal => ?_)) fun e a3 w3 hp => ?_)
  · refine Wk.rows id id (Int.le_refl _) fun j c v h0 h1 hv => ?_
    by_cases e : j = (k : Int)
    · subst e
      rw [decide_eq_true rfl] at hv
      have hk' : hdP fT (sw π k b) ((N : Int) + 1) (k : Int) = hd1 (gid fT (π b)) (N + 1) := by
        unfold hdP
        rw [Int.toNat_natCast]
        unfold sw
        split
        · rename_i h; rw [h]
        · rw [if_pos rfl]
      rw [hk']
      exact one_row (fun v hv => sl_as hv (fun x hx => by rw [← hal 22 (gid fT (π b)) rfl]; exact hx) (by omega) _ id) hv
    · rw [decide_eq_false e] at hv
      have hk' : hdP fT (sw π k b) ((N : Int) + 1) j = hdP fT (sw1 π k b) ((N : Int) + 1) j := by
        unfold hdP sw sw1
        have e3 : j.toNat ≠ k := by omega
        rw [if_neg e3]
      rw [hk']
      have hge := gid_ge fT (sw1 π k b j.toNat)
      exact one_row (fun v hv => sl_as hv (fun x hx => by rw [← he _ (by omega)]; exact hx) (by omega) _ id) hv
  obtain ⟨rfl, q1, q2, hs3, gm3⟩ := hp
  have gm3 := gm3.sub (tbS_hd _ (hdP fT (sw π k b) (N + 1)))
  refine hQ a3 w3 q1 q2 gm3 ?_
  have : sw π k b k = π b := by unfold sw; split; · rename_i h; rw [h]
                                · rw [if_pos rfl]
  rw [this]
  exact hs3
end
end
end Go.Proofs.Ytaoeigofmfpamaa
end

/- SolveHeats (the reference's): each row less a multiple of the pivot's; column after column. Nothing is assumed. -/
section
namespace Go.Proofs.Ytaoeigofmfpamaa
open Go
noncomputable section
def elS (O : FOps) (N k : Nat) (X : Nat → Int → Nat) (m p : Nat) : Int → Nat := if p < m ∧ p ≠ k then elRow O (quoK O X k p) (X p) (X k) k ((N : Int) + 1) else X p
theorem elS_skip (O : FOps) (N k : Nat) (X : Nat → Int → Nat) (p : Nat) : elS O N k X (k + 1) p = elS O N k X k p := by
  unfold elS
  by_cases h1 : p < k ∧ p ≠ k
  · rw [if_pos h1, if_pos (by omega)]
  · rw [if_neg h1, if_neg (by omega)]
section
variable {w0 w : World} {T0 : Nat → Nat → Prop} {E : EM} {sg0 : Nat → Option Seg} {hT fT N : Nat} {π : Nat → Nat} {Y X : Nat → Int → Nat}
theorem jlS (hi : IdS hT fT) (hN : N ≤ 8) {i k : Nat} (hik : i ≠ k) (hiN : i < N) (hk : k < N) (hπ : PmOK N π) {q : Nat} {x y : Int → Nat} (hYk : Y (π k) = y) (gm : GM w0 T0 E (tbS sg0 hT fT N (N + 1) (hdP fT π (N + 1)) (updF Y (π i) x)) w) {a : Act}
    (hs : Sts E a (renA (lW hT fT (gid fT (π k))) (vY N k i q ++ [(17, iI k)]))) (hsz : a.tmps.size = shF.ntmps) (hd : a.defers = []) :
    (Code.loop tJ).wp Try.prog (fun e a' w' => e = .exit 10 ∧ a'.tmps.size = shF.ntmps ∧ a'.defers = [] ∧ GM w0 T0 E (tbS sg0 hT fT N (N + 1) (hdP fT π (N + 1)) (updF Y (π i) (elRow fops q x y k ((N : Int) + 1)))) w' ∧ Sts E a' (renA (lW hT fT (gid fT (π k))) (vX N k i))) a w := by
  have hne : π i ≠ π k := fun e => hik (hπ.inj i k hiN hk e)
  have gk := gid_ge fT (π k)
  refine wp_loop_inv (fun m a w => ∃ j : Nat, m = N + 1 - j ∧ k ≤ j ∧ j ≤ N + 1 ∧ a.tmps.size = shF.ntmps ∧ a.defers = [] ∧ GM w0 T0 E (tbS sg0 hT fT N (N + 1) (hdP fT π (N + 1)) (updF Y (π i) (elRow fops q x y k j))) w ∧ Sts E a (renA (lW hT fT (gid fT (π k))) (vY N k i q ++ [(17, iI j)])))
    (fun m a w hI => ?_) (N + 1 - k) a w ⟨k, rfl, Nat.le_refl _, by omega, hsz, hd, by rw [elRow_zero]; exact gm, hs⟩
  obtain ⟨j, hm, hkj, hjN, hsz, hd, gm, hs⟩ := hI
  by_cases hlt : j < N + 1
  · have rowI := tbS_row (sg0 := sg0) (hd := hdP fT π (N + 1)) (Y := updF Y (π i) (elRow fops q x y k j)) (q := (N : Int) + 1) hi (n := (N : Int)) (p := π i) (by have := hπ.lt i hiN; omega)
    have rowK := tbS_row (sg0 := sg0) (hd := hdP fT π (N + 1)) (Y := updF Y (π i) (elRow fops q x y k j)) (q := (N : Int) + 1) hi (n := (N : Int)) (p := π k) (by have := hπ.lt k hk; omega)
    rw [show updF Y (π i) (elRow fops q x y k j) (π i) = elRow fops q x y k j from if_pos rfl] at rowI
    rw [show updF Y (π i) (elRow fops q x y k j) (π k) = y from (if_neg (Ne.symm hne)).trans hYk] at rowK
    have d1 := gid_neS hi (π i)
    have d3 : gid fT (π i) ≠ gid fT (π k) := fun e => hne (gid_inj e)
    refine wp_mono (gm.wr1 (g2 := ⟨true, false, .rows 1 ((N : Int) + 1) (fr (elRow fops q x y k ((j + 1 : Nat) : Int)))⟩) (g0 := gid fT (π i)) (i0 := 21) (sr := ⟨true, false, .rows 1 ((N : Int) + 1) (fr (elRow fops q x y k j))⟩) (body_ok (okH2 162 21 167 21 (N + 1)) mixed 1 tJ (on1 157 true)) (yRd fops N k i j q (hv1 i (N + 1)) (elRow fops q x y k j) y)
      (AllT.cons (by rw [decide_eq_true_eq]; omega) (AllT.cons (bI_ok hiN) (AllT.cons (bI_ok hiN) (AllT.cons (rowIs_ok (if_pos rfl)) (AllT.cons (bI_ok hiN) (AllT.cons (bI_ok hiN) (AllT.cons (rowIs_ok (if_pos rfl)) (AllT.cons (bIw hlt) (AllT.cons (bIw hlt) (AllT.cons (bIw hlt) (AllT.cons (bIw hlt) (AllT.cons (bIw hlt) (AllT.cons (bIw hlt) AllT.nil)))))))))))))
      (lS hT fT π i k) (lS_ok hi i k) rfl hs hsz hd
      (allC ⟨hT, _, rfl, tbS_T, Wk.hvQ (hvS1 i k)⟩ (allC ⟨gid fT (π i), _, rfl, rowI, Wk.flat id id (fr_flat _)⟩ (allC ⟨gid fT (π k), _, rfl, rowK, Wk.flat (fun h => by cases h) (fun h => by cases h) (fr_flat _)⟩ all0)))
      (allC (allC (fun h => absurd rfl h) (allC (fun _ _ => show some hT ≠ some (gid fT (π i)) from fun e => d1 (Option.some.inj e).symm) (allC (fun _ h => by rcases h with h | h <;> cases h) all0)))
        (allC (allC (fun _ _ => show some (gid fT (π i)) ≠ some hT from fun e => d1 (Option.some.inj e)) (allC (fun h => absurd rfl h) (allC (fun _ _ => show some (gid fT (π i)) ≠ some (gid fT (π k)) from fun e => d3 (Option.some.inj e)) all0)))
        (allC (allC (fun _ h => by rcases h with h | h <;> cases h) (allC (fun _ _ => show some (gid fT (π k)) ≠ some (gid fT (π i)) from fun e => d3 (Option.some.inj e).symm) (allC (fun h => absurd rfl h) all0))) all0)))
      rfl rfl rfl (allC (fun h => by cases h) (allC (fun _ => rfl) (allC (fun h => by cases h) all0))) (fun E' he => by rw [elRow_step fops q x y hkj]; exact Wk.flat id id (fr_flat _))) fun e a' w' hp => ?_
    obtain ⟨rfl, q1, q2, q3, q4⟩ := hp
    have q5 := q4.sub (tbS_up (f := elRow fops q x y k ((j + 1 : Nat) : Int)) hi (p := π i) (by have := hπ.lt i hiN; omega))
    rw [updF_same] at q5
    obtain ⟨t1, t2, t3, t4, t5, t6, t7, _⟩ := q3
    refine .inl ⟨rfl, N + 1 - (j + 1), by omega, j + 1, rfl, by omega, by omega, q1, q2, q5, t1, t2, t3, t4, t5, t6, ?_, trivial⟩
    have t7' : RelV E (iI (IntKind.i64.wrap ((j : Int) + 1))) (a'.tmps.getD 17 undef) := t7
    rw [wrapN (by omega)] at t7'
    exact t7'
  · have e : j = N + 1 := by omega
    subst e
    refine wp_mono (gm.run (body_ok okNil mixed 1 tJ (on1 157 false)) (yEnd fops N k i ((N + 1 : Nat) : Int) q) (AllT.cons (by rw [decide_eq_false (by omega)]; rfl) (AllT.cons rfl AllT.nil)) (lW hT fT (gid fT (π k))) (lW_ok hi (by omega)) rfl hs hsz hd all0 all0) fun e a' w' hp' => ?_
    obtain ⟨rfl, q1, q2, q3, q4⟩ := hp'
    exact .inr ⟨by simp [exitOf], rfl, q1, q2, q3, q4⟩
theorem ilS (hi : IdS hT fT) (hN : N ≤ 8) {k : Nat} (hk : k < N) (hπ : PmOK N π) (hX : ∀ p, p < N → Y (π p) = X p) (gm : GM w0 T0 E (tbS sg0 hT fT N (N + 1) (hdP fT π (N + 1)) Y) w) {a : Act}
    (hs : Sts E a (renA (lW hT fT (gid fT (π k))) (vX N k 0))) (hsz : a.tmps.size = shF.ntmps) (hd : a.defers = []) :
    (Code.loop tEe).wp Try.prog (fun e a' w' => e = .exit 8 ∧ a'.tmps.size = shF.ntmps ∧ a'.defers = [] ∧ (∃ Y', (∀ p, p < N → Y' (π p) = elS fops N k X N p) ∧ GM w0 T0 E (tbS sg0 hT fT N (N + 1) (hdP fT π (N + 1)) Y') w') ∧
      Sts E a' (renA (lS0 hT) [(6, iI N), (9, sI 4 N), (11, iI k)])) a w := by
  have gk := gid_ge fT (π k)
  have al := lW_ok hi (g := gid fT (π k)) (by omega)
  refine wp_loop_inv (fun m a w => ∃ i : Nat, m = N - i ∧ i ≤ N ∧ a.tmps.size = shF.ntmps ∧ a.defers = [] ∧ (∃ Y', (∀ p, p < N → Y' (π p) = elS fops N k X i p) ∧ GM w0 T0 E (tbS sg0 hT fT N (N + 1) (hdP fT π (N + 1)) Y') w) ∧ Sts E a (renA (lW hT fT (gid fT (π k))) (vX N k i)))
    (fun m a w hI => ?_) N a w ⟨0, rfl, Nat.zero_le _, hsz, hd, ⟨Y, fun p hp => by rw [hX p hp]; unfold elS; rw [if_neg (by omega)], gm⟩, hs⟩
  obtain ⟨i, hm, hiN, hsz, hd, ⟨Y1, hY1, gm⟩, hs⟩ := hI
  by_cases hlt : i < N
  · rw [tE_shape]
    refine wp_seq (wp_mono (gm.run (body_ok okNil mixed 1 _ (on1 136 true)) (x29 fops N k i) (AllT.cons (by rw [decide_eq_true_eq]; omega) AllT.nil) (lW hT fT (gid fT (π k))) al rfl hs hsz hd all0 all0) fun e a1 w1 hp => ?_)
    obtain ⟨rfl, q1, q2, gm1, hs1⟩ := hp
    have after : ∀ (Y2 : Nat → Int → Nat) a2 w2, a2.tmps.size = shF.ntmps → a2.defers = [] → (∀ p, p < N → Y2 (π p) = elS fops N k X (i + 1) p) → GM w0 T0 E (tbS sg0 hT fT N (N + 1) (hdP fT π (N + 1)) Y2) w2 → Sts E a2 (renA (lW hT fT (gid fT (π k))) (vX N k i)) →
        (cR (cR tEe)).wp Try.prog (fun e a' w' => (e = .normal ∧ ∃ m', m' < m ∧ ∃ i : Nat, m' = N - i ∧ i ≤ N ∧ a'.tmps.size = shF.ntmps ∧ a'.defers = [] ∧ (∃ Y', (∀ p, p < N → Y' (π p) = elS fops N k X i p) ∧ GM w0 T0 E (tbS sg0 hT fT N (N + 1) (hdP fT π (N + 1)) Y') w') ∧ Sts E a' (renA (lW hT fT (gid fT (π k))) (vX N k i))) ∨
          (e ≠ .normal ∧ (e = .exit 8 ∧ a'.tmps.size = shF.ntmps ∧ a'.defers = [] ∧ (∃ Y', (∀ p, p < N → Y' (π p) = elS fops N k X N p) ∧ GM w0 T0 E (tbS sg0 hT fT N (N + 1) (hdP fT π (N + 1)) Y') w') ∧ Sts E a' (renA (lS0 hT) [(6, iI N), (9, sI 4 N), (11, iI k)])))) a2 w2 := by
      intro Y2 a2 w2 g1 g2 hY2 gm2 hs2
      refine wp_mono (gm2.run (body_ok okNil mixed 1 _ off) (x30 fops N k i) AllT.nil (lW hT fT (gid fT (π k))) al rfl hs2 g1 g2 all0 all0) fun e a3 w3 hp => ?_
      obtain ⟨rfl, q1, q2, gm3, ⟨t1, t2, t3, t4, t5, _⟩⟩ := hp
      have t5' : RelV E (iI (IntKind.i64.wrap ((i : Int) + 1))) (a3.tmps.getD 15 undef) := t5
      rw [wrapN (by omega)] at t5'
      exact .inl ⟨rfl, N - (i + 1), by omega, i + 1, rfl, by omega, q1, q2, ⟨Y2, hY2, gm3⟩, t1, t2, t3, t4, t5', trivial⟩
    refine wp_seq (wp_block ?_)
    rw [tE2_shape]
    by_cases hik : i = k
    · subst hik
      refine wp_seq (wp_mono (gm1.run (body_ok okNil mixed 1 _ (on1 141 true)) (x31t fops N i i) (AllT.cons (decide_eq_true rfl) (AllT.cons rfl AllT.nil)) (lW hT fT (gid fT (π i))) al rfl hs1 q1 q2 all0 all0) fun e a3 w3 hp => ?_)
      obtain ⟨rfl, q1, q2, gm3, hs3⟩ := hp
      exact after Y1 a3 w3 q1 q2 (fun p hp => by rw [hY1 p hp, elS_skip]) gm3 hs3
    · refine wp_seq (wp_mono (gm1.run (body_ok okNil mixed 1 _ (on1 141 false)) (x31f fops N k i) (AllT.cons (by rw [decide_eq_false (by omega)]; rfl) AllT.nil) (lW hT fT (gid fT (π k))) al rfl hs1 q1 q2 all0 all0) fun e a3 w3 hp => ?_)
      obtain ⟨rfl, q1, q2, gm3, hs3⟩ := hp
      have hYi : Y1 (π i) = X i := by rw [hY1 i hlt]; unfold elS; rw [if_neg (by omega)]
      have hYk : Y1 (π k) = X k := by rw [hY1 k hk]; unfold elS; rw [if_neg (by omega)]
      have rowI := tbS_row (sg0 := sg0) (hd := hdP fT π (N + 1)) (Y := Y1) (q := (N : Int) + 1) hi (n := (N : Int)) (p := π i) (by have := hπ.lt i hlt; omega)
      have rowK := tbS_row (sg0 := sg0) (hd := hdP fT π (N + 1)) (Y := Y1) (q := (N : Int) + 1) hi (n := (N : Int)) (p := π k) (by have := hπ.lt k hk; omega)
      rw [hYi] at rowI
      rw [hYk] at rowK
      refine wp_seq (wp_mono (gm3.run (body_ok (okH1 144 21 (N + 1)) mixed 1 _ off) (x32 fops N k i (hv1 i (N + 1)) (X i) (X k))
        (AllT.cons (bI_ok hlt) (AllT.cons (bI_ok hlt) (AllT.cons (rowIs_ok (if_pos rfl)) (AllT.cons (bIw (by omega)) (AllT.cons (bIw (by omega)) (AllT.cons (bIw (by omega)) (AllT.cons (bIw (by omega)) AllT.nil)))))))
        (lS hT fT π i k) (lS_ok hi i k) rfl hs3 q1 q2
        (allC ⟨hT, _, rfl, tbS_T, Wk.hvQ (hvS1 i k)⟩ (allC ⟨gid fT (π i), _, rfl, rowI, Wk.flat (fun h => by cases h) (fun h => by cases h) (fr_flat _)⟩ (allC ⟨gid fT (π k), _, rfl, rowK, Wk.flat (fun h => by cases h) (fun h => by cases h) (fr_flat _)⟩ all0))) (allC rfl (allC rfl (allC rfl all0)))) fun e a4 w4 hp => ?_)
      obtain ⟨rfl, q1, q2, gm4, hs4⟩ := hp
      refine wp_seq (wp_mono (gm4.run (body_ok okNil mixed 1 _ off) (x33 fops N k i (quoK fops X k i)) AllT.nil (lW hT fT (gid fT (π k))) al rfl hs4 q1 q2 all0 all0) fun e a5 w5 hp => ?_)
      obtain ⟨rfl, q1, q2, gm5, hs5⟩ := hp
      rw [← updF_id Y1 (π i)] at gm5
      rw [hYi] at gm5
      refine wp_block (wp_mono (jlS hi hN hik hlt hk hπ hYk gm5 hs5 q1 q2) fun e a6 w6 hp => ?_)
      obtain ⟨rfl, q1, q2, gm6, hs6⟩ := hp
      refine after _ a6 w6 q1 q2 (fun p hp => ?_) gm6 hs6
      unfold updF
      by_cases e : π p = π i
      · have : p = i := hπ.inj p i hp hlt e
        subst this
        rw [if_pos rfl]; unfold elS; rw [if_pos (by omega)]
      · have : p ≠ i := fun h => e (by rw [h])
        rw [if_neg e, hY1 p hp]
        unfold elS
        by_cases h1 : p < i ∧ p ≠ k
        · rw [if_pos h1, if_pos (by omega)]
        · rw [if_neg h1, if_neg (by omega)]
  · have e : i = N := by omega
    subst e
    refine wp_mono (gm.run (body_ok okNil mixed 1 tEe (on1 136 false)) (xEnd fops i k i) (AllT.cons (by rw [decide_eq_false (by omega)]; rfl) (AllT.cons rfl AllT.nil)) (lW hT fT (gid fT (π k))) al rfl hs hsz hd all0 all0) fun e a' w' hp' => ?_
    obtain ⟨rfl, q1, q2, q3, q4⟩ := hp'
    exact .inr ⟨by simp [exitOf], rfl, q1, q2, ⟨Y1, hY1, q3⟩, q4⟩
/-! ### column after column -/
theorem pvSL_lt (O : FOps) (X : Nat → Int → Nat) (k N : Nat) : ∀ m i b, i + m ≤ N → b < N → pvSL O X k m i b < N
  | 0, _, b, _, h => h
  | m + 1, i, b, h, hb => pvSL_lt O X k N m (i + 1) _ (by omega) (by
      cases O.cmp .gtr .f32 (aI O (X i k)) (aI O (X b k))
      · exact hb
      · show i < N; omega)
def stepS (O : FOps) (N k : Nat) (X : Nat → Int → Nat) : Option (Nat → Int → Nat) :=
  bif !O.cmp .gtr .f32 (aI O (sw X k (pvSL O X k (N - (k + 1)) (k + 1) k) k k)) 0 then none else some (elS O N k (sw X k (pvSL O X k (N - (k + 1)) (k + 1) k)) N)
def solveS (O : FOps) (N : Nat) : Nat → Nat → (Nat → Int → Nat) → Option (Nat → Int → Nat)
  | 0, _, X => some X
  | m + 1, k, X => match stepS O N k X with
    | none => none
    | some p => solveS O N m (k + 1) p
def MS (w0 : World) (T0 : Nat → Nat → Prop) (E : EM) (sg0 : Nat → Option Seg) (hT fT N : Nat) (X : Nat → Int → Nat) (w : World) : Prop :=
  ∃ π Y, PmOK N π ∧ (∀ p, p < N → Y (π p) = X p) ∧ GM w0 T0 E (tbS sg0 hT fT N (N + 1) (hdP fT π (N + 1)) Y) w
abbrev emp : Seg := ⟨true, true, .rows 1 ((0 : Nat) : Int) (fr fun _ => 0)⟩
abbrev sE0 (i : Nat) : SV := .c (.sl i 0 1 (.c 0) true)
theorem klS (hi : IdS hT fT) (hN : N ≤ 8) {he : Nat} (he1 : 900 ≤ he) (heN : E he = none) (hM : MS w0 T0 E sg0 hT fT N X w) {a : Act}
    (hs : Sts E a (renA (lS0 hT) [(6, iI N), (9, sI 4 N), (11, iI 0)])) (hsz : a.tmps.size = shF.ntmps) (hd : a.defers = []) :
    (Code.loop tK).wp Try.prog (fun e a' w' => a'.tmps.size = shF.ntmps ∧ a'.defers = [] ∧
      ((e = .exit 4 ∧ (∃ X', solveS fops N N 0 X = some X' ∧ MS w0 T0 E sg0 hT fT N X' w') ∧ Sts E a' (renA (lS0 hT) [(6, iI N), (9, sI 4 N)])) ∨
       (e = .ret ∧ solveS fops N N 0 X = none ∧ ∃ E' π Y, Ext E E' ∧ (∀ j, j ≠ he → E' j = E j) ∧ GM w0 T0 E' (rmS (upS (tbS sg0 hT fT N (N + 1) (hdP fT π (N + 1)) Y) [(he, emp)]) []) w' ∧ Sts E' a' [(4, sE0 he), (5, .c (.int .i64 (.c 4)))]))) a w := by
  refine wp_loop_inv (fun m a w => ∃ k X', m = N - k ∧ k ≤ N ∧ a.tmps.size = shF.ntmps ∧ a.defers = [] ∧ solveS fops N (N - k) k X' = solveS fops N N 0 X ∧ MS w0 T0 E sg0 hT fT N X' w ∧ Sts E a (renA (lS0 hT) [(6, iI N), (9, sI 4 N), (11, iI (k : Nat))]))
    (fun m a w hI => ?_) N a w ⟨0, X, rfl, Nat.zero_le _, hsz, hd, rfl, hM, hs⟩
  obtain ⟨k, X1, hm, hkN, hsz, hd, hsol, ⟨π, Y, hπ, hX, gm⟩, hs⟩ := hI
  by_cases hk : k < N
  · rw [tK_shape]
    refine wp_seq (wp_mono (gm.run (body_ok okNil mixed 1 _ (on1 82 true)) (u15 fops N k) (AllT.cons (by rw [decide_eq_true_eq]; omega) AllT.nil) (lS0 hT) (lS0_ok hi) rfl hs hsz hd all0 all0) fun e a1 w1 hp => ?_)
    obtain ⟨rfl, q1, q2, gm1, hs1⟩ := hp
    refine wp_seq (wp_block ?_)
    rw [tK2_shape]
    refine wp_seq (wp_mono (gm1.run (body_ok okNil mixed 1 _ off) (u17 fops N k) AllT.nil (lS0 hT) (lS0_ok hi) rfl hs1 q1 q2 all0 all0) fun e a2 w2 hp => ?_)
    obtain ⟨rfl, q1, q2, gm2, hs2⟩ := hp
    refine wp_seq (wp_seq (wp_mono (gm2.run (body_ok okNil mixed 1 _ off) (u18 fops N k) AllT.nil (lS0 hT) (lS0_ok hi) rfl hs2 q1 q2 all0 all0) fun e a4 w4 hp => ?_))
    obtain ⟨rfl, q1, q2, gm4, hs4⟩ := hp
    rw [wrapN (by omega)] at hs4
    refine wp_block (wp_mono (pivS hi hN hk hπ hX gm4 hs4 q1 q2) fun e a5 w5 hp => ?_)
    obtain ⟨rfl, q1, q2, gm5, hs5⟩ := hp
    have hbN : pvSL fops X1 k (N - (k + 1)) (k + 1) k < N := pvSL_lt fops X1 k N (N - (k + 1)) (k + 1) k (by omega) hk
    have hstep : solveS fops N (N - k) k X1 = match stepS fops N k X1 with
      | none => none
      | some p => solveS fops N (N - (k + 1)) (k + 1) p := by
      rw [show N - k = (N - (k + 1)) + 1 by omega]; rfl
    generalize hbe : pvSL fops X1 k (N - (k + 1)) (k + 1) k = b at *
    show (Code.seq (cL tk3) (.seq (cL tk4) (.seq (cL tk5) (.seq (cL tk6) (.seq (cL tk7) (.block 8 (.loop tEe))))))).wp Try.prog _ a5 w5
    refine swapS hi hk hbN gm5 hs5 q1 q2 fun a6 w6 q1 q2 gm6 hs6 => ?_
    have hπ' := hπ.swap hk hbN
    have hX' : ∀ p, p < N → Y (sw π k b p) = sw X1 k b p := fun p hp => by
      unfold sw
      split
      · exact hX k hk
      · split
        · exact hX b hbN
        · exact hX p hp
    have gk := gid_ge fT (sw π k b k)
    have rowK := tbS_row (sg0 := sg0) (hd := hdP fT (sw π k b) (N + 1)) (Y := Y) (q := (N : Int) + 1) hi (n := (N : Int)) (p := sw π k b k) (by have := hπ'.lt k hk; omega)
    rw [hX' k hk] at rowK
    have hrd : ∀ p ∈ [((22 : Nat), roG ((N : Int) + 1) (fr (sw X1 k b k)))], ∃ g s0, lkN (lW hT fT (gid fT (sw π k b k))) p.1 = some g ∧ tbS sg0 hT fT N (N + 1) (hdP fT (sw π k b) (N + 1)) Y g = some s0 ∧ Wk E (alE E (lW hT fT (gid fT (sw π k b k)))) s0 p.2 :=
      allC ⟨gid fT (sw π k b k), _, rfl, rowK, Wk.flat (fun h => by cases h) (fun h => by cases h) (fr_flat _)⟩ all0
    cases hz : fops.cmp .gtr .f32 (aI fops (sw X1 k b k k)) 0 with
    | false =>
      refine wp_seq (wp_mono (gm6.newL (body_ok okNil mixed 1 _ (on1 132 true)) (u26t fops N k (sw X1 k b k)) (AllT.cons (bIw (by omega)) (AllT.cons (bIw (by omega)) (AllT.cons (by rw [hz]; rfl) (AllT.cons rfl AllT.nil))))
        (lW hT fT (gid fT (sw π k b k))) (lW_ok hi (by omega)) rfl hs6 q1 q2 hrd (allC (allC (fun h => absurd rfl h) all0) all0)
        [(he, 23)] [(he, emp)] [] (allC ⟨he1, heN, by simp, by simp, by simp [findS_cons]⟩ all0) (allC (allC (fun _ => rfl) all0) all0) (allC (by simp [lkN]) all0)
        (fun sg' hP => allC ⟨23, _, by simp [lkN], hP.1, rfl, fun E' E2 _ _ _ => Wk.nil⟩ all0) (allC (fun h => by cases h) all0)) fun e a7 w7 hp => ?_)
      obtain ⟨rfl, q1, q2, E2, k1, k2, gm7, hs7⟩ := hp
      refine .inr ⟨by simp [exitOf], q1, q2, .inr ⟨rfl, ?_, E2, _, _, k1, fun j hj => k2 j (by simp only [lkN, if_neg hj]), gm7, hs7⟩⟩
      rw [← hsol, hstep]
      unfold stepS
      rw [hbe, hz]; rfl
    | true =>
      refine wp_seq (wp_mono (gm6.run (body_ok okNil mixed 1 _ (on1 132 false)) (u26f fops N k (sw X1 k b k)) (AllT.cons (bIw (by omega)) (AllT.cons (bIw (by omega)) (AllT.cons (by rw [hz]; rfl) AllT.nil)))
        (lW hT fT (gid fT (sw π k b k))) (lW_ok hi (by omega)) rfl hs6 q1 q2 hrd (allC rfl all0)) fun e a7 w7 hp => ?_)
      obtain ⟨rfl, q1, q2, gm7, hs7⟩ := hp
      refine wp_seq (wp_mono (gm7.run (body_ok okNil mixed 1 _ off) (u28 fops N k) AllT.nil (lW hT fT (gid fT (sw π k b k))) (lW_ok hi (by omega)) rfl hs7 q1 q2 all0 all0) fun e a8 w8 hp => ?_)
      obtain ⟨rfl, q1, q2, gm8, hs8⟩ := hp
      refine wp_block (wp_mono (ilS hi hN hk hπ' hX' gm8 hs8 q1 q2) fun e a10 w10 hp => ?_)
      obtain ⟨rfl, q1, q2, ⟨Y', hY', gm10⟩, hs10⟩ := hp
      show (cR (cR tK)).wp Try.prog _ a10 w10
      refine wp_mono (gm10.run (body_ok okNil mixed 1 _ off) (u16 fops N k) AllT.nil (lS0 hT) (lS0_ok hi) rfl hs10 q1 q2 all0 all0) fun e a11 w11 hp => ?_
      obtain ⟨rfl, q1, q2, gm11, ⟨t1, t2, t3, _⟩⟩ := hp
      have t3' : RelV E (iI (IntKind.i64.wrap ((k : Int) + 1))) (a11.tmps.getD 11 undef) := t3
      rw [wrapN (by omega)] at t3'
      refine .inl ⟨rfl, N - (k + 1), by omega, k + 1, _, rfl, by omega, q1, q2, ?_, ⟨sw π k b, Y', hπ', hY', gm11⟩, t1, t2, t3', trivial⟩
      rw [← hsol, hstep]
      unfold stepS
      rw [hbe, hz]; rfl
  · have e : k = N := by omega
    subst e
    refine wp_mono (gm.run (body_ok okNil mixed 1 tK (on1 82 false)) (uEnd fops k k) (AllT.cons (by rw [decide_eq_false (by omega)]; rfl) (AllT.cons rfl AllT.nil)) (lS0 hT) (lS0_ok hi) rfl hs hsz hd all0 all0) fun e a' w' hp' => ?_
    obtain ⟨rfl, q1, q2, q3, q4⟩ := hp'
    rw [show k - k = 0 by omega] at hsol
    exact .inr ⟨by simp [exitOf], q1, q2, .inl ⟨rfl, ⟨X1, hsol.symm, π, Y, hπ, hX, q3⟩, q4⟩⟩
end
end
end Go.Proofs.Ytaoeigofmfpamaa
end

/- SolveHeats (the reference's): the rows tried, the table made. Nothing is assumed. -/
section
namespace Go.Proofs.Ytaoeigofmfpamaa
open Go
noncomputable section
theorem gate1_t {n l : Int} {b : Bool} (hb : b = true) : gate1 n l b = true := by
  subst hb; unfold gate1; cases (!decide (l = n)) <;> rfl
theorem okR_iff {n l : Int} {R : Nat → Int → List SC} {L : Nat → Int} {p : Nat} (hl : L p = l) : okR isNum n l (R p) = true ↔ goodR n L R p := by
  unfold okR goodR
  rw [hl]
  by_cases h : l = n
  · rw [decide_eq_true h]
    subst h
    exact ⟨fun h => ⟨rfl, h⟩, fun h => h.2⟩
  · rw [decide_eq_false h]
    exact ⟨fun h => (by cases h), fun h' => absurd h'.1 h⟩
theorem okH0_iff {n m : Int} {rr : Int → List SC} : okH0 isNum n m rr = true ↔ (1 ≤ n ∧ n ≤ 8) ∧ m = n ∧ Fnr.finN isNum m rr = true := by
  unfold okH0
  by_cases h1 : 1 ≤ n
  · rw [decide_eq_true h1]
    by_cases h2 : n ≤ 8
    · rw [decide_eq_true h2]
      by_cases h3 : m = n
      · rw [decide_eq_true h3]
        exact ⟨fun h => ⟨⟨h1, h2⟩, h3, h⟩, fun h => h.2.2⟩
      · rw [decide_eq_false h3]
        exact ⟨fun h => (by cases h), fun h => absurd h.2.1 h3⟩
    · rw [decide_eq_false h2]
      exact ⟨fun h => (by cases h), fun h => absurd h.1.2 h2⟩
  · rw [decide_eq_false h1]
    exact ⟨fun h => (by cases h), fun h => absurd h.1.1 h1⟩
theorem okSp : AllOK Try.prog (LSp isNum) := ⟨Fns.tFs, trivial⟩
theorem okC (m : Int) : AllOK Try.prog (lC isNum m) := ⟨hintOK _, hintOK _, Fns.tFs, trivial⟩
section
variable {w0 w : World} {T0 : Nat → Nat → Prop} {E : EM} {sg : Nat → Option Seg} {rw : Bool} {hA fA hR fT fH N : Nat} {L : Nat → Int} {R : Nat → Int → List SC} {n m : Int} {rr : Int → List SC}
abbrev vC1 (n m i : Int) (b : Bool) : List (Nat × SV) := [(0, sI 2 n), (1, sI 3 m), (6, iI n), (7, blV b), (8, iI i)]
abbrev lC1 (hA hR fA i : Nat) : List (Nat × Nat) := [(2, hA), (3, hR), (21, gid fA i)]
theorem cl (gm : GM w0 T0 E sg w) (hss : SSof sg rw hA fA n L R) (hn0 : 0 ≤ n) (hA1 : 900 ≤ hA ∧ hA < 1000) (hR1 : 900 ≤ hR ∧ hR < 1000) {b0 : Bool} (hb0 : b0 = okH0 isNum n m rr) {a : Act}
    (hs : Sts E a (renA (lC1 hA hR fA 0) (vC1 n m 0 b0))) (hsz : a.tmps.size = shF.ntmps) (hd : a.defers = []) :
    (Code.loop tC).wp Try.prog (fun e a' w' => e = .exit 0 ∧ a'.tmps.size = shF.ntmps ∧ a'.defers = [] ∧ GM w0 T0 E sg w' ∧ ∃ b : Bool, (b = true ↔ validS n m rr L R) ∧ Sts E a' (renA [(2, hA), (3, hR)] [(0, sI 2 n), (1, sI 3 m), (6, iI n), (7, blV b)])) a w := by
  refine wp_loop_inv (fun q a w => ∃ (i : Nat) (b : Bool), (q : Int) = n - i ∧ (i : Int) ≤ n ∧ (b = true → okH0 isNum n m rr = true ∧ ∀ p, p < i → goodR n L R p) ∧ (b = false → ¬ validS n m rr L R) ∧ a.tmps.size = shF.ntmps ∧ a.defers = [] ∧ GM w0 T0 E sg w ∧ Sts E a (renA (lC1 hA hR fA i) (vC1 n m i b)))
    (fun q a w hI => ?_) n.toNat a w ⟨0, b0, by omega, by omega, fun h => ⟨by rw [← hb0]; exact h, fun p hp => by omega⟩, fun h hv => ?_, hsz, hd, gm, hs⟩
  · obtain ⟨i, b, hq, hin, hb1, hb2, hsz, hd, gm, hs⟩ := hI
    have g1 := gid_ge fA i
    have al : ∀ p ∈ lC1 hA hR fA i, p.1 < 22 ∧ p.1 < 900 ∧ 900 ≤ p.2 := allC ⟨by simp, by simp, hA1.1⟩ (allC ⟨by simp, by simp, hR1.1⟩ (allC ⟨by simp, by simp, by simp only; omega⟩ all0))
    by_cases hgo : (i : Int) < n ∧ b = true
    · obtain ⟨hlt, hbt⟩ := hgo
      subst hbt
      obtain ⟨h0, hgood⟩ := hb1 rfl
      obtain ⟨⟨hn1, hn8⟩, _, _⟩ := okH0_iff.1 h0
      obtain ⟨oA, hgA⟩ := hss.hd (by omega)
      obtain ⟨⟨o1, hr1⟩, hL0, hL1, hsh⟩ := hss.row i hlt
      refine wp_mono (gm.run (body_ok (okC (L i)) mixed 1 tC (on1 39 true)) (cRd fops isNum n m i (L i) true (hvw i 21 (L i)) (R i))
        (AllT.cons (by rw [decide_eq_true hlt]; rfl) (AllT.cons (idx_ok hlt) (AllT.cons (idx_ok hlt) (AllT.cons (rowIs_ok (if_pos rfl)) (AllT.cons (gate1_t (idx_ok hlt)) (AllT.cons (gate1_t (idx_ok hlt)) (AllT.cons (gate1_t (rowIs_ok (if_pos rfl))) (AllT.cons (gate1_t (SlFloat32.shape_flat hsh)) (AllT.cons (gate1_t (pB_iff.2 ⟨rfl, hL0, hL1, hsh⟩)) AllT.nil)))))))))
        (lC1 hA hR fA i) al rfl hs hsz hd
        (allC ⟨hA, _, rfl, hgA, Wk.hvw (by decide) (by decide) rfl⟩ (allC ⟨gid fA i, _, rfl, hr1, Wk.flat (fun h => by cases h) (fun h => by cases h) (SlFloat32.shape_flat hsh)⟩ all0)) (allC rfl (allC rfl all0))) fun e a' w' hp => ?_
      obtain ⟨rfl, q1, q2, gm2, ⟨t1, t2, t3, t4, t5, _⟩⟩ := hp
      have t5' : RelV E (iI (IntKind.i64.wrap ((i : Int) + 1))) (a'.tmps.getD 8 undef) := t5
      rw [wrapN (by omega)] at t5'
      refine .inl ⟨rfl, q - 1, by omega, i + 1, okR isNum n (L i) (R i), by omega, by omega, fun h => ⟨h0, fun p hp => ?_⟩, fun h hv => ?_, q1, q2, gm2, t1, t2, t3, t4, t5', trivial⟩
      · by_cases e : p = i
        · subst e; exact (okR_iff rfl).1 h
        · exact hgood p (by omega)
      · rw [(okR_iff (R := R) (L := L) (p := i) rfl).2 (hv.2.2.2.2 i hlt)] at h; cases h
    · refine wp_mono (gm.run (body_ok okNil mixed 1 tC (on1 39 false)) (cEnd fops n m i b) (AllT.cons ?_ (AllT.cons rfl AllT.nil)) (lC1 hA hR fA i) al rfl hs hsz hd all0 all0) fun e a' w' hp => ?_
      · by_cases h : (i : Int) < n
        · rw [decide_eq_true h]
          cases b
          · rfl
          · exact absurd ⟨h, rfl⟩ hgo
        · rw [decide_eq_false h]; rfl
      obtain ⟨rfl, q1, q2, gm2, hs2⟩ := hp
      refine .inr ⟨by simp [exitOf], rfl, q1, q2, gm2, b, ⟨fun h => ?_, fun hv => ?_⟩, hs2⟩
      · obtain ⟨h0, hgood⟩ := hb1 h
        obtain ⟨⟨hn1, hn8⟩, hmn, hfr⟩ := okH0_iff.1 h0
        have : ¬ (i : Int) < n := fun h' => hgo ⟨h', h⟩
        exact ⟨hn1, hn8, hmn, hfr, fun p hp => hgood p (by omega)⟩
      · cases b
        · exact absurd hv (hb2 rfl)
        · rfl
  · obtain ⟨v1, v2, v3, v4, _⟩ := hv
    rw [hb0, okH0_iff.2 ⟨⟨v1, v2⟩, v3, v4⟩] at h
    cases h
/-- Memory with the first 'i' rows of the table. -/
def sgS (sg : Nat → Option Seg) (fH fT : Nat) (i N : Nat) (X : Nat → Int → Nat) : Nat → Option Seg := fun j =>
  if j = gid fH i then some ⟨true, true, .rows 1 i (hdP fT id ((N : Int) + 1))⟩ else if isF fT j = true ∧ posF j < i then some ⟨true, true, .rows 1 ((N : Int) + 1) (fr (X (posF j)))⟩ else sg j
def extM (N : Nat) (R : Nat → Int → List SC) (y : Int → Nat) (p : Nat) : Int → Nat := extR N (datF (R p) 0) (y p)
theorem blS (gm0 : GM w0 T0 E sg w) (hss : SSof sg rw hA fA N L R) (hN : N ≤ 8) (hgood : ∀ p, p < N → goodR N L R p) (hA1 : 900 ≤ hA ∧ hA < 1000) (hR1 : 900 ≤ hR ∧ hR < 1000) {rwR oR : Bool} {y : Int → Nat} (hgR : sg hR = some ⟨rwR, oR, .rows 1 N (fr y)⟩) (hfA : fA < 32) (hfT : fT < 32) (hfH : fH < 32) (hAT : fA ≠ fT) (hAH : fA ≠ fH) (hTH : fT ≠ fH) (hfrT : ∀ p, E (gid fT p) = none) (hfrH : ∀ p, E (gid fH p) = none)
    {E0 : EM} (hE0 : Ext E E0) (hold0 : oldB E E0 fH fT) (hfr0 : ∀ p, E0 (gid fT p) = none) (hfr1 : ∀ p, 0 < p → E0 (gid fH p) = none) {w1 : World} (gm : GM w0 T0 E0 (sgS sg fH fT 0 N (extM N R y)) w1) {a : Act}
    (hs : Sts E0 a (renA (lBd hA hR fA fH 0) (vB2 N N 0))) (hsz : a.tmps.size = shF.ntmps) (hd : a.defers = []) :
    (Code.loop tB).wp Try.prog (fun e a' w' => e = .exit 2 ∧ a'.tmps.size = shF.ntmps ∧ a'.defers = [] ∧ ∃ E', Ext E E' ∧ oldB E E' fH fT ∧ GM w0 T0 E' (sgS sg fH fT N N (extM N R y)) w' ∧ Sts E' a' (renA (lBd hA hR fA fH N) [(6, iI N), (9, sF 4 N)])) a w1 := by
  refine wp_loop_inv (fun q a w => ∃ (i : Nat) (E1 : EM), q = N - i ∧ i ≤ N ∧ a.tmps.size = shF.ntmps ∧ a.defers = [] ∧ Ext E E1 ∧ oldB E E1 fH fT ∧ (∀ p, i ≤ p → E1 (gid fT p) = none) ∧ (∀ p, i < p → E1 (gid fH p) = none) ∧ GM w0 T0 E1 (sgS sg fH fT i N (extM N R y)) w ∧ Sts E1 a (renA (lBd hA hR fA fH i) (vB2 N N i)))
    (fun q a w hI => ?_) N a w1 ⟨0, E0, rfl, Nat.zero_le _, hsz, hd, hE0, hold0, fun p _ => hfr0 p, fun p hp => hfr1 p hp, gm, hs⟩
  obtain ⟨i, E1, hq, hiN, hsz, hd, hE1, hold, hfT1, hfH1, gm, hs⟩ := hI
  have g1 := gid_ge fA i
  have g2 := gid_ge fH i
  have hal : ∀ p ∈ lBd hA hR fA fH i, p.1 < 22 ∧ p.1 < 900 ∧ 900 ≤ p.2 := allC ⟨by simp, by simp, hA1.1⟩ (allC ⟨by simp, by simp, hR1.1⟩ (allC ⟨by simp, by simp, by simp only; omega⟩ (allC ⟨by simp, by simp, by simp only; omega⟩ all0)))
  by_cases hlt : i < N
  · obtain ⟨oA, hgA⟩ := hss.hd (by omega)
    obtain ⟨⟨o1, hr1⟩, hL0, hL1, hsh⟩ := hss.row i (by omega)
    have g3 := gid_ge fT i
    have g4 := gid_ge fH (i + 1)
    obtain ⟨hLi, hfin⟩ := hgood i hlt
    have low : ∀ j, j < 1000 → sgS sg fH fT i N (extM N R y) j = sg j := fun j hj => by
      unfold sgS
      rw [if_neg (by omega), isF_lt hj]
      simp only [Bool.false_eq_true, false_and, if_false]
    have hgA' := (low hA hA1.2).trans hgA
    have hgR' := (low hR hR1.2).trans hgR
    have hr1' : sgS sg fH fT i N (extM N R y) (gid fA i) = some ⟨rw, o1, .rows 1 N (fr (datF (R i) 0))⟩ := by
      unfold sgS
      rw [if_neg (gid_ne hAH hfA hfH), isF_gid hfA, decide_eq_false hAT]
      simp only [Bool.false_eq_true, false_and, if_false]
      rw [hr1, hLi, ← shape_fr hsh]
    have hT' : sgS sg fH fT i N (extM N R y) (gid fH i) = some ⟨true, true, .rows 1 i (hdP fT id ((N : Int) + 1))⟩ := by unfold sgS; rw [if_pos rfl]
    have nA : hA ≠ gid fH i := by omega
    have nR : hR ≠ gid fH i := by omega
    have nB : gid fA i ≠ gid fH i := gid_ne hAH hfA hfH
    have n1 : gid fH (i + 1) ≠ gid fT i := fun e => gid_ne (Ne.symm hTH) hfH hfT e
    refine wp_mono (gm.newL (body_ok (okH1 69 21 N) mixed 1 tB (on1 62 true)) (sBd fops N N i (hvw i 21 N) (hdP fT id ((N : Int) + 1)) (datF (R i) 0) y)
      (AllT.cons (by rw [decide_eq_true_eq]; omega) (AllT.cons (bI_ok hlt) (AllT.cons (bI_ok hlt) (AllT.cons (rowIs_ok (if_pos rfl)) (AllT.cons (by rw [decide_eq_true_eq]; omega) (AllT.cons (bI_ok hlt) (AllT.cons (bI_ok hlt) (AllT.cons (by rw [decide_eq_true_eq]; omega) (AllT.cons (by rw [decide_eq_true_eq]; omega) AllT.nil)))))))))
      (lBd hA hR fA fH i) hal rfl hs hsz hd
      (allC ⟨hA, _, rfl, hgA', by have := @Wk.hvw E1 rw oA N fA L (lBd hA hR fA fH i) i 21 (by decide) (by decide) rfl; rw [hLi] at this; exact this⟩ (allC ⟨hR, _, rfl, hgR', Wk.flat (fun h => by cases h) (fun h => by cases h) (fr_flat _)⟩ (allC ⟨gid fH i, _, rfl, hT', Wk.hdB al_big fun j _ _ => ⟨_, _, by have := gid_ge fT j.toNat; simp only [id]; omega, rfl, rfl⟩⟩ (allC ⟨gid fA i, _, rfl, hr1', Wk.flat (fun h => by cases h) (fun h => by cases h) (fr_flat _)⟩ all0))))
      (allC (allC (fun h => absurd rfl h) (allC (fun _ h => by rcases h with h | h <;> cases h) (allC (fun _ _ => show some hA ≠ some (gid fH i) from fun e => nA (Option.some.inj e)) (allC (fun _ h => by rcases h with h | h <;> cases h) all0))))
        (allC (allC (fun _ h => by rcases h with h | h <;> cases h) (allC (fun h => absurd rfl h) (allC (fun _ _ => show some hR ≠ some (gid fH i) from fun e => nR (Option.some.inj e)) (allC (fun _ h => by rcases h with h | h <;> cases h) all0))))
        (allC (allC (fun _ _ => show some (gid fH i) ≠ some hA from fun e => nA (Option.some.inj e).symm) (allC (fun _ _ => show some (gid fH i) ≠ some hR from fun e => nR (Option.some.inj e).symm) (allC (fun h => absurd rfl h) (allC (fun _ _ => show some (gid fH i) ≠ some (gid fA i) from fun e => nB (Option.some.inj e).symm) all0))))
        (allC (allC (fun _ h => by rcases h with h | h <;> cases h) (allC (fun _ h => by rcases h with h | h <;> cases h) (allC (fun _ _ => show some (gid fA i) ≠ some (gid fH i) from fun e => nB (Option.some.inj e)) (allC (fun h => absurd rfl h) all0)))) all0))))
      [(gid fH (i + 1), 27), (gid fT i, 25)] [(gid fH (i + 1), ⟨true, true, .rows 1 ((i + 1 : Nat) : Int) (hdP fT id ((N : Int) + 1))⟩), (gid fT i, ⟨true, true, .rows 1 ((N : Int) + 1) (fr (extM N R y i))⟩)] [gid fH i]
      (allC ⟨by simp only; omega, hfH1 _ (by omega), by simp, by simp, by simp [findS_cons]⟩ (allC ⟨by simp only; omega, hfT1 _ (Nat.le_refl _), by simp, by simp, by simp only [findS_cons, if_neg (Ne.symm n1), if_true]; rfl⟩ all0))
      (allC (allC (fun _ => rfl) (allC (fun h => by simp at h) all0)) (allC (allC (fun h => by simp at h) (allC (fun _ => rfl) all0)) all0))
      (allC (by simp [lkN]) (allC (by simp only [lkN, if_neg (Ne.symm n1), if_true]) all0))
      (fun sg' hP => ?_) (allC (fun h => by cases h) (allC (fun h => by cases h) (allC (fun _ => ⟨gid fH i, rfl, by simp⟩) (allC (fun h => by cases h) all0))))) fun e a' w' hp => ?_
    · obtain ⟨q25, q27, _⟩ := hP
      refine allC ⟨27, _, by simp [lkN], q27, rfl, fun E' E2 he1 he2 he3 => Wk.rows id id (by omega) fun j c v h0 h1 hv => ?_⟩ (allC ⟨25, _, by simp only [lkN, if_neg (Ne.symm n1), if_true], q25, rfl, fun E' E2 he1 he2 he3 => Wk.rows id id (Int.le_refl _) fun j c v h0 h1 hv => ?_⟩ all0)
      · by_cases e : j < (i : Int)
        · rw [decide_eq_true e] at hv
          refine one_row (fun v hv => sl_as hv (fun x hx => ?_) (by have := gid_ge fT (id j.toNat); omega) _ id) hv
          have hge := gid_ge fT (id j.toNat)
          have k1 : gid fT (id j.toNat) ≠ gid fH (i + 1) := gid_ne hTH hfT hfH
          have k2 : gid fT (id j.toNat) ≠ gid fT i := fun h => by have h := gid_inj h; simp only [id] at h; omega
          rw [he2 _ (by omega) (by simp only [lkN, if_neg k1, if_neg k2]), ← he1 _ (by omega)]
          exact hx
        · rw [decide_eq_false e] at hv
          have e' : j = (i : Int) := by omega
          subst e'
          refine one_row (fun v hv => sl_as hv (fun x hx => ?_) (by have := gid_ge fT (id (Int.toNat (i : Int))); omega) _ (fun h => by cases h)) hv
          show E2 (gid fT i) = some x
          rw [he3 (gid fT i) 25 (by simp only [lkN, if_neg (Ne.symm n1), if_true])]
          exact hx
      · have : (bif decide (j < (N : Int)) then fr (datF (R i) 0) j else [.flt .f32 (y i)]) = fr (extM N R y i) j := by
          show (bif decide (j < (N : Int)) then [SC.flt .f32 (datF (R i) 0 j)] else [.flt .f32 (y i)]) = [.flt .f32 (bif decide (j < (N : Int)) then datF (R i) 0 j else y i)]
          generalize decide (j < (N : Int)) = d
          cases d <;> rfl
        rw [this] at hv
        exact flatC_ok (flatL_getD (flatR_ok (fr_flat _) j) c) hv
    · obtain ⟨rfl, q1, q2, E2, k1, k2, gm2, ⟨t1, t2, t3, t4, t6, _⟩⟩ := hp
      have t6' : RelV E2 (iI (IntKind.i64.wrap ((i : Int) + 1))) (a'.tmps.getD 10 undef) := t6
      rw [wrapN (by omega)] at t6'
      have hE2n : ∀ j, j ≠ gid fH (i + 1) → j ≠ gid fT i → E2 j = E1 j := fun j h1 h2 => k2 j (by simp only [lkN, if_neg h1, if_neg h2])
      refine .inl ⟨rfl, N - (i + 1), by omega, i + 1, E2, rfl, by omega, q1, q2, hE1.trans k1, fun j hj => ?_, fun p hp => ?_, fun p hp => ?_, gm2.sub fun j g hj => ?_, t1, t2, t3, t4, t6', trivial⟩
      · by_cases h1 : j = gid fH (i + 1)
        · exact .inr (.inl ⟨_, h1⟩)
        · by_cases h2 : j = gid fT i
          · exact .inr (.inr ⟨_, h2⟩)
          · rw [hE2n j h1 h2] at hj; exact hold j hj
      · rw [hE2n _ (gid_ne hTH hfT hfH) (fun h => by have := gid_inj h; omega)]
        exact hfT1 p (by omega)
      · rw [hE2n _ (fun h => by have := gid_inj h; omega) (gid_ne (Ne.symm hTH) hfH hfT)]
        exact hfH1 p (by omega)
      · unfold rmS upS
        rw [findS_cons, findS_cons, findS_nil]
        unfold sgS at hj
        by_cases h1 : j = gid fH (i + 1)
        · rw [if_pos h1] at hj
          rw [if_neg (by rw [h1]; simp only [List.mem_singleton]; exact fun h => by have := gid_inj h; omega), if_pos h1]
          exact hj
        · rw [if_neg h1] at hj
          have hnd : j ∉ [gid fH i] := by
            simp only [List.mem_singleton]
            intro e
            rw [e, isF_gid hfH, decide_eq_false (Ne.symm hTH)] at hj
            simp only [Bool.false_eq_true, false_and, if_false] at hj
            exact gm0.has hj (hfrH i)
          rw [if_neg hnd, if_neg h1]
          have hnd' : j ≠ gid fH i := by simpa using hnd
          by_cases h2 : j = gid fT i
          · subst h2
            rw [isF_gid hfT, pos_gid hfT, if_pos ⟨by simp, by omega⟩] at hj
            rw [if_pos rfl]; exact hj
          · rw [if_neg h2]
            show sgS sg fH fT i N (extM N R y) j = some g
            unfold sgS
            rw [if_neg hnd']
            by_cases h3 : isF fT j = true ∧ posF j < i + 1
            · have : posF j ≠ i := fun h => h2 (by rw [← h]; exact (isF_iff hfT).1 h3.1)
              rw [if_pos h3] at hj
              rw [if_pos ⟨h3.1, by omega⟩]; exact hj
            · rw [if_neg h3] at hj
              rw [if_neg (fun h => h3 ⟨h.1, by omega⟩)]; exact hj
  · have e : i = N := by omega
    subst e
    refine wp_mono (gm.run (body_ok okNil mixed 1 tB (on1 62 false)) (sBe fops i i i) (AllT.cons (by rw [decide_eq_false (by omega)]; rfl) (AllT.cons rfl AllT.nil)) (lBd hA hR fA fH i) hal rfl hs hsz hd all0 all0) fun e a' w' hp => ?_
    obtain ⟨rfl, q1, q2, gm2, hs2⟩ := hp
    exact .inr ⟨by simp [exitOf], rfl, q1, q2, E1, hE1, hold, gm2, hs2⟩
end
end
end Go.Proofs.Ytaoeigofmfpamaa
end

/- SolveHeats (the reference's): what comes out; the call. Nothing is assumed. -/
section
namespace Go.Proofs.Ytaoeigofmfpamaa
open Go
noncomputable section
def zS (O : FOps) (N : Nat) (X : Nat → Int → Nat) (c : Int) : Nat := O.bin .quo .f32 (X c.toNat N) (X c.toNat c)
def resS (O : FOps) (nm : Nat → Bool) (N : Nat) (X : Nat → Int → Nat) : Option (Int → Nat) :=
  match solveS O N N 0 X with
  | none => none
  | some p => bif Fnr.finN nm N (fr (zS O N p)) then some (zS O N p) else none
section
variable {w0 w : World} {T0 : Nat → Nat → Prop} {E : EM} {sg0 : Nat → Option Seg} {hT fT fO N : Nat} {X Y : Nat → Int → Nat} {π : Nat → Nat}
abbrev lQ (hT fO k : Nat) : List (Nat × Nat) := [(4, hT), (6, gid fO k)]
theorem olS (hi : IdS hT fT) (hN : N ≤ 8) (hπ : PmOK N π) (hX : ∀ p, p < N → Y (π p) = X p) (hfO : fO < 32) (hOT : fO ≠ fT) (hO1 : ∀ p, gid fO p ≠ hT)
    (hsg0 : ∀ p, sg0 (gid fO p) = none) {E0 : EM} (hE0 : Ext E E0) (hold0 : ∀ j, E0 j ≠ none → E j ≠ none ∨ ∃ p, j = gid fO p) (hfr : ∀ p, 0 < p → E0 (gid fO p) = none)
    (gm : GM w0 T0 E0 (ovO (tbS sg0 hT fT N (N + 1) (hdP fT π (N + 1)) Y) fO 0 (zS fops N X)) w) {a : Act}
    (hs : Sts E0 a (renA (lQ hT fO 0) (vQ N 0))) (hsz : a.tmps.size = shF.ntmps) (hd : a.defers = []) :
    (Code.loop tO).wp Try.prog (fun e a' w' => e = .exit 12 ∧ a'.tmps.size = shF.ntmps ∧ a'.defers = [] ∧ ∃ E', Ext E E' ∧ (∀ j, E' j ≠ none → E j ≠ none ∨ ∃ p, j = gid fO p) ∧
      GM w0 T0 E' (ovO (tbS sg0 hT fT N (N + 1) (hdP fT π (N + 1)) Y) fO N (zS fops N X)) w' ∧ Sts E' a' (renA (lQ hT fO N) [(18, sF 6 N)])) a w := by
  refine wp_loop_inv (fun q a w => ∃ (k : Nat) (E1 : EM), q = N - k ∧ k ≤ N ∧ a.tmps.size = shF.ntmps ∧ a.defers = [] ∧ Ext E E1 ∧ (∀ j, E1 j ≠ none → E j ≠ none ∨ ∃ p, j = gid fO p) ∧ (∀ p, k < p → E1 (gid fO p) = none) ∧
      GM w0 T0 E1 (ovO (tbS sg0 hT fT N (N + 1) (hdP fT π (N + 1)) Y) fO k (zS fops N X)) w ∧ Sts E1 a (renA (lQ hT fO k) (vQ N k)))
    (fun q a w hI => ?_) N a w ⟨0, E0, rfl, Nat.zero_le _, hsz, hd, hE0, hold0, hfr, gm, hs⟩
  obtain ⟨k, E1, hq, hkN, hsz, hd, hE1, hold, hfr1, gm, hs⟩ := hI
  have g0 := gid_ge fO k
  have tbO : ∀ p, tbS sg0 hT fT N (N + 1) (hdP fT π (N + 1)) Y (gid fO p) = none := fun p => by
    unfold tbS
    rw [if_neg (hO1 p), isF_gid hfO, decide_eq_false hOT]
    simp only [Bool.false_eq_true, false_and, if_false]
    exact hsg0 p
  by_cases hk : k < N
  · have g1 := gid_ge fT (π k)
    have g2 := gid_ge fO (k + 1)
    have d1 := gid_neS hi (π k)
    have d2 : gid fT (π k) ≠ gid fO k := gid_ne (Ne.symm hOT) hi.d hfO
    have rowK := tbS_row (sg0 := sg0) (hd := hdP fT π (N + 1)) (Y := Y) (q := (N : Int) + 1) hi (n := (N : Int)) (p := π k) (by have := hπ.lt k hk; omega)
    rw [hX k hk] at rowK
    have ov : ∀ j, j ≠ gid fO k → ovO (tbS sg0 hT fT N (N + 1) (hdP fT π (N + 1)) Y) fO k (zS fops N X) j = tbS sg0 hT fT N (N + 1) (hdP fT π (N + 1)) Y j := fun j hj => by unfold ovO; rw [if_neg hj]
    let l : List (Nat × Nat) := [(4, hT), (6, gid fO k), (21, gid fT (π k))]
    have hal : ∀ p ∈ l, p.1 < 23 ∧ p.1 < 900 ∧ 900 ≤ p.2 := allC ⟨by simp, by simp, hi.a⟩ (allC ⟨by simp, by simp, by simp only; omega⟩ (allC ⟨by simp, by simp, by simp only; omega⟩ all0))
    refine wp_mono (gm.newL (body_ok (okH2 189 21 196 21 (N + 1)) mixed 1 tO (on1 183 true)) (qRd fops N k (hv1 k (N + 1)) (X k) (zS fops N X))
      (AllT.cons (by rw [decide_eq_true_eq]; omega) (AllT.cons (bI_ok hk) (AllT.cons (bI_ok hk) (AllT.cons (rowIs_ok (if_pos rfl)) (AllT.cons (bIw (by omega)) (AllT.cons (bIw (by omega)) (AllT.cons (bI_ok hk) (AllT.cons (bI_ok hk) (AllT.cons (rowIs_ok (if_pos rfl)) (AllT.cons (bIw (by omega)) (AllT.cons (bIw (by omega)) (AllT.cons (by rw [decide_eq_true_eq]; omega) AllT.nil))))))))))))
      l hal rfl hs hsz hd
      (allC ⟨hT, _, rfl, (ov hT (fun h => hO1 k h.symm)).trans tbS_T, Wk.hvQ fun j h0 h1 => by
          unfold hv1
          by_cases e : j = (k : Int)
          · rw [if_pos e]; subst e; exact .inr ⟨21, rfl, by simp [l, lkN], by omega, by omega⟩
          · rw [if_neg e]; exact .inl rfl⟩
        (allC ⟨gid fO k, ⟨true, true, .rows 1 k (fr (zS fops N X))⟩, rfl, by unfold ovO; rw [if_pos rfl], Wk.flat id id (fr_flat _)⟩
        (allC ⟨gid fT (π k), _, rfl, (ov _ d2).trans rowK, Wk.flat (fun h => by cases h) (fun h => by cases h) (fr_flat _)⟩ all0)))
      (allC (allC (fun h => absurd rfl h) (allC (fun _ _ => show some hT ≠ some (gid fO k) from fun e => hO1 k (Option.some.inj e).symm) (allC (fun _ h => by rcases h with h | h <;> cases h) all0)))
        (allC (allC (fun _ _ => show some (gid fO k) ≠ some hT from fun e => hO1 k (Option.some.inj e)) (allC (fun h => absurd rfl h) (allC (fun _ _ => show some (gid fO k) ≠ some (gid fT (π k)) from fun e => d2 (Option.some.inj e).symm) all0)))
        (allC (allC (fun _ h => by rcases h with h | h <;> cases h) (allC (fun _ _ => show some (gid fT (π k)) ≠ some (gid fO k) from fun e => d2 (Option.some.inj e)) (allC (fun h => absurd rfl h) all0))) all0)))
      [(gid fO (k + 1), 24)] [(gid fO (k + 1), ⟨true, true, .rows 1 ((k + 1 : Nat) : Int) (fr (zS fops N X))⟩)] [gid fO k]
      (allC ⟨by simp only; omega, hfr1 _ (by omega), by simp, by simp, by simp [findS_cons]⟩ all0) (allC (allC (fun _ => rfl) all0) all0) (allC (by simp [lkN]) all0)
      (fun sg' hP => ?_) (allC (fun h => by cases h) (allC (fun _ => ⟨gid fO k, rfl, by simp⟩) (allC (fun h => by cases h) all0)))) fun e a' w' hp => ?_
    · obtain ⟨q24, _⟩ := hP
      refine allC ⟨24, _, by simp [lkN], q24, rfl, fun E' E2 _ _ _ => Wk.rows id id (by omega) fun j c v h0 h1 hv => ?_⟩ all0
      have : (bif decide (j < (k : Int)) then fr (zS fops N X) j else [.flt .f32 (fops.bin .quo .f32 (X k N) (X k k))]) = fr (zS fops N X) j := by
        by_cases e : j < (k : Int)
        · rw [decide_eq_true e]; rfl
        · have e' : j = (k : Int) := by omega
          subst e'
          rw [decide_eq_false e]; rfl
      rw [this] at hv
      exact flatC_ok (flatL_getD (flatR_ok (fr_flat _) j) c) hv
    · obtain ⟨rfl, q1, q2, E2, k1, k2, gm2, ⟨t1, t2, t3, t6, _⟩⟩ := hp
      have t6' : RelV E2 (iI (IntKind.i64.wrap ((k : Int) + 1))) (a'.tmps.getD 19 undef) := t6
      rw [wrapN (by omega)] at t6'
      have hE2n : ∀ j, j ≠ gid fO (k + 1) → E2 j = E1 j := fun j h1 => k2 j (by simp only [lkN, if_neg h1])
      refine .inl ⟨rfl, N - (k + 1), by omega, k + 1, E2, rfl, by omega, q1, q2, hE1.trans k1, fun j hj => ?_, fun p hp => ?_, gm2.sub fun j g hj => ?_, t1, t2, t3, t6', trivial⟩
      · by_cases h1 : j = gid fO (k + 1)
        · exact .inr ⟨_, h1⟩
        · rw [hE2n j h1] at hj; exact hold j hj
      · rw [hE2n _ (fun h => by have := gid_inj h; omega)]; exact hfr1 p (by omega)
      · unfold rmS upS
        rw [findS_cons, findS_nil]
        unfold ovO at hj
        by_cases h1 : j = gid fO (k + 1)
        · rw [if_pos h1] at hj
          rw [if_neg (by rw [h1]; simp only [List.mem_singleton]; exact fun h => by have := gid_inj h; omega), if_pos h1]
          exact hj
        · rw [if_neg h1] at hj
          have hnd : j ≠ gid fO k := fun e => by rw [e, tbO] at hj; cases hj
          rw [if_neg (by simpa using hnd), if_neg h1]
          show ovO _ fO k _ j = some g
          rw [ov j hnd]; exact hj
  · have e : k = N := by omega
    subst e
    have hal : ∀ p ∈ lQ hT fO k, p.1 < 23 ∧ p.1 < 900 ∧ 900 ≤ p.2 := allC ⟨by simp, by simp, hi.a⟩ (allC ⟨by simp, by simp, by simp only; omega⟩ all0)
    refine wp_mono (gm.run (body_ok okNil mixed 1 tO (on1 183 false)) (qEnd fops k k) (AllT.cons (by rw [decide_eq_false (by omega)]; rfl) (AllT.cons rfl AllT.nil)) (lQ hT fO k) hal rfl hs hsz hd all0 all0) fun e a' w' hp' => ?_
    obtain ⟨rfl, q1, q2, q3, q4⟩ := hp'
    exact .inr ⟨by simp [exitOf], rfl, q1, q2, E1, hE1, hold, q3, q4⟩
end
section
variable {w0 w : World} {T0 : Nat → Nat → Prop} {E : EM} {sg : Nat → Option Seg} {rw rwR oR : Bool} {hA fA hR he fT fH fO : Nat} {n m : Int} {L : Nat → Int} {R : Nat → Int → List SC} {rr : Int → List SC}
def nilS (he : Nat) (E : EM) (v : Value) : Prop := RelC E (.sl he 0 1 (.c 0) true) v
theorem sh_call (gm : GM w0 T0 E sg w) (hss : SSof sg rw hA fA n L R) (hn0 : 0 ≤ n) (hA1 : 900 ≤ hA ∧ hA < 1000) (hR1 : 900 ≤ hR ∧ hR < 1000) (hgR : sg hR = some ⟨rwR, oR, .rows 1 m rr⟩) (hm0 : 0 ≤ m) (hm : m ≤ 1048576) (hshr : Shape SlFloat32.ts rr)
    (he1 : 900 ≤ he ∧ he < 1000) (hfA : fA < 32) (hfT : fT < 32) (hfH : fH < 32) (hfO : fO < 32) (hAT : fA ≠ fT) (hAH : fA ≠ fH) (hAO : fA ≠ fO) (hTH : fT ≠ fH) (hTO : fT ≠ fO) (hHO : fH ≠ fO)
    (heN : E he = none) (hTN : ∀ p, E (gid fT p) = none) (hHN : ∀ p, E (gid fH p) = none) (hON : ∀ p, E (gid fO p) = none)
    {vA vR : Value} (hv : RelC E (.sl hA 0 1 (.s n) false) vA) (hvR : RelC E (.sl hR 0 1 (.s m) false) vR) :
    NextOK Try.prog ((callFunc 29 #[vA, vR]).run Try.prog w)
      (SolR w0 T0 E sg (nwI he fT fH fO) (gid fO n.toNat) n m rr L R (resS fops isNum n.toNat (extM n.toNat R (datF rr 0))) (nilS he)) := by
  have hsgN : ∀ j, E j = none → sg j = none := fun j hj => by
    cases h : sg j with
    | none => rfl
    | some g => exact absurd hj (gm.has h)
  have empNot : ∀ (sgx : Nat → Option Seg), (∀ j g, sg j = some g → sgx j = some g) → ∀ j g, sg j = some g → rmS (upS sgx [(he, emp)]) [] j = some g := fun sgx h j g hj => by
    have hne := gm.has hj
    unfold rmS upS
    rw [if_neg (by simp), findS_cons, findS_nil, if_neg (fun e => hne (by rw [e]; exact heN))]
    exact h j g hj
  refine call_body Try.func29 (by kernel_rfl) sh_shape (Nat.le_of_ble_eq_true (show Nat.ble 2 shF.ntmps = true by kernel_rfl)) fun a hsz hd hargs => ?_
  have hs0 : Sts E a (renA [(2, hA), (3, hR)] [(0, sI 2 n), (1, sI 3 m)]) := ⟨by rw [hargs]; exact hv, by rw [hargs]; exact hvR, trivial⟩
  have al : ∀ p ∈ [(2, hA), (3, hR)], p.1 < 10 ∧ p.1 < 900 ∧ 900 ≤ p.2 := allC ⟨by simp, by simp, hA1.1⟩ (allC ⟨by simp, by simp, hR1.1⟩ all0)
  have gA0 := gid_ge fA 0
  refine wp_seq (wp_mono (gm.run (body_ok okNil mixed 1 _ off) (s0 fops n m) AllT.nil [(2, hA), (3, hR)] al rfl hs0 hsz hd all0 all0) fun e a1 w1 hp => ?_)
  obtain ⟨rfl, q1, q2, gm1, hs1⟩ := hp
  refine wp_seq (wp_mono (gm1.run (body_ok okNil mixed 1 _ off) (s1 fops n m) AllT.nil [(2, hA), (3, hR)] al rfl hs1 q1 q2 all0 all0) fun e a2 w2 hp => ?_)
  obtain ⟨rfl, q1, q2, gm2, hs2⟩ := hp
  have hrd : ∀ p ∈ [((3 : Nat), roG m rr)], ∃ g s0, lkN [(2, hA), (3, hR)] p.1 = some g ∧ sg g = some s0 ∧ Wk E (alE E [(2, hA), (3, hR)]) s0 p.2 :=
    allC ⟨hR, _, rfl, hgR, Wk.flat (fun h => by cases h) (fun h => by cases h) (SlFloat32.shape_flat hshr)⟩ all0
  have gateT : ∀ {b : Bool}, b = true → gateS n m b = true := fun {b} hb => by
    subst hb; unfold gateS
    cases (!(bif decide (1 ≤ n) then decide (n ≤ 8) else false))
    · cases (!decide (m = n)) <;> rfl
    · rfl
  refine wp_seq (wp_mono (gm2.run (body_ok okSp mixed 1 _ off) (s2 fops isNum n m rr) (AllT.cons (gateT (SlFloat32.shape_flat hshr)) (AllT.cons (gateT (pB_iff.2 ⟨rfl, hm0, hm, hshr⟩)) AllT.nil))
      [(2, hA), (3, hR)] al rfl hs2 q1 q2 hrd (allC rfl all0)) fun e a3 w3 hp => ?_)
  obtain ⟨rfl, q1, q2, gm3, hs3⟩ := hp
  refine wp_seq (wp_seq (wp_mono (gm3.run (body_ok okNil mixed 1 _ off) (s3 fops n m (okH0 isNum n m rr)) AllT.nil [(2, hA), (3, hR)] al rfl hs3 q1 q2 all0 all0) fun e a4 w4 hp => ?_))
  obtain ⟨rfl, q1, q2, gm4, hs4⟩ := hp
  refine wp_block (wp_mono (cl (rr := rr) gm4 hss hn0 hA1 hR1 rfl hs4 q1 q2) fun e a5 w5 hp => ?_)
  obtain ⟨rfl, q1, q2, gm5, b, hb, ⟨t0, t1, t6, t7, _⟩⟩ := hp
  show (Code.seq (cL d4) (.seq (cL d5) (.seq (.seq (cL (cL d6)) (.block 2 (.loop tB))) (.seq (.seq (cL (cL d7)) (.block 4 (.loop tK))) (.seq (cL d8) (.seq (.seq (cL (cL d9)) (.block 12 (.loop tO))) (.seq (cL d10) (cR d10)))))))).wp Try.prog _ a5 w5
  cases b with
  | false =>
    have hnv : ¬ validS n m rr L R := fun h => by have := hb.2 h; cases this
    refine wp_seq (wp_mono (gm5.newL (body_ok okNil mixed 1 _ (on1 57 true)) (s7t fops false) (AllT.cons rfl (AllT.cons rfl AllT.nil)) [(2, hA), (3, hR)] al rfl ⟨t7, trivial⟩ q1 q2 all0 all0
      [(he, 10)] [(he, emp)] [] (allC ⟨he1.1, heN, by simp, by simp, by simp [findS_cons]⟩ all0) (allC (allC (fun _ => rfl) all0) all0) (allC (by simp [lkN]) all0)
      (fun sg' hP => allC ⟨10, _, by simp [lkN], hP.1, rfl, fun E' E2 _ _ _ => Wk.nil⟩ all0) all0) fun e a6 w6 hp => ?_)
    obtain ⟨rfl, q1, q2, E2, k1, k2, gm6, ⟨t4, t5, _⟩⟩ := hp
    refine ⟨q2, _, results2 sh_res, _, rfl, E2, k1, fun j hj => ?_, _, 2, ?_, .inl ⟨hnv, rfl, _, t4, gm6, empNot sg (fun _ _ h => h)⟩⟩
    · by_cases e : j = he
      · exact .inr (.inl e)
      · rw [k2 j (by simp only [lkN, if_neg e])] at hj; exact .inl hj
    · have : a6.tmps.getD 5 undef = .int .i64 2 := t5
      rw [this]
  | true =>
  have hvalid := hb.1 rfl
  obtain ⟨hn1, hn8, hmn, hfr, hgd⟩ := hvalid
  have hvalid := hb.1 rfl
  refine wp_seq (wp_mono (gm5.run (body_ok okNil mixed 1 _ (on1 57 false)) (s7f fops n m true) (AllT.cons rfl AllT.nil) [(2, hA), (3, hR)] al rfl ⟨t0, t1, t6, t7, trivial⟩ q1 q2 all0 all0) fun e a6 w6 hp => ?_)
  obtain ⟨rfl, q1, q2, gm6, hs6⟩ := hp
  obtain ⟨N, rfl⟩ : ∃ N : Nat, n = N := ⟨n.toNat, by omega⟩
  subst hmn
  rw [Int.toNat_natCast]
  have hN8 : N ≤ 8 := by omega
  have g0 := gid_ge fH 0
  refine wp_seq (wp_mono (gm6.newL (body_ok okNil mixed 1 _ off) (s9 fops N N) AllT.nil [(2, hA), (3, hR)] al rfl hs6 q1 q2 all0 all0
    [(gid fH 0, 10)] [(gid fH 0, ⟨true, true, .rows 1 ((0 : Nat) : Int) (hdP fT id ((N : Int) + 1))⟩)] []
    (allC ⟨by simp only; omega, hHN 0, by simp, by simp, by simp [findS_cons]⟩ all0) (allC (allC (fun _ => rfl) all0) all0) (allC (by simp [lkN]) all0)
    (fun sg' hP => allC ⟨10, _, by simp [lkN], hP.1, rfl, fun E' E2 _ _ _ => Wk.nil⟩ all0) all0) fun e a7 w7 hp => ?_)
  obtain ⟨rfl, q1, q2, E7, hE7, hE7n, gm7, ⟨t0, t1, t6, t9, _⟩⟩ := hp
  have hE7e : ∀ j, j ≠ gid fH 0 → E7 j = E j := fun j hj => hE7n j (by simp only [lkN, if_neg hj])
  have gm7' : GM w0 T0 E7 (sgS sg fH fT 0 N (extM N R (datF rr 0))) w7 := gm7.sub fun j g hg => by
    unfold rmS upS
    rw [if_neg (by simp), findS_cons, findS_nil]
    unfold sgS at hg
    by_cases e : j = gid fH 0
    · rw [if_pos e] at hg ⊢; exact hg
    · rw [if_neg e] at hg ⊢
      rw [if_neg (by omega)] at hg
      exact hg
  have al7 : ∀ p ∈ [(2, hA), (3, hR), (4, gid fH 0)], p.1 < 10 ∧ p.1 < 900 ∧ 900 ≤ p.2 := allC ⟨by simp, by simp, hA1.1⟩ (allC ⟨by simp, by simp, hR1.1⟩ (allC ⟨by simp, by simp, by simp only; omega⟩ all0))
  refine wp_seq (wp_seq (wp_mono (gm7'.run (body_ok okNil mixed 1 _ off) (s10 fops N N) AllT.nil [(2, hA), (3, hR), (4, gid fH 0)] al7 rfl ⟨t0, t1, t6, t9, trivial⟩ q1 q2 all0 all0) fun e a8 w8 hp => ?_))
  obtain ⟨rfl, q1, q2, gm8, hs8⟩ := hp
  have hold7 : oldB E E7 fH fT := fun j hj => by
    by_cases e : j = gid fH 0
    · exact .inr (.inl ⟨0, e⟩)
    · rw [hE7e j e] at hj; exact .inl hj
  refine wp_block (wp_mono (blS gm hss hN8 (fun p hp => hgd p (by omega)) hA1 hR1 (hgR.trans (by rw [← shape_fr hshr])) hfA hfT hfH hAT hAH hTH hTN hHN hE7 hold7 (fun p => by rw [hE7e _ (gid_ne hTH hfT hfH)]; exact hTN p) (fun p hp => by rw [hE7e _ (fun h => by have := gid_inj h; omega)]; exact hHN p) gm8 hs8 q1 q2) fun e a9 w9 hp => ?_)
  obtain ⟨rfl, q1, q2, E9, hE9, hold9, gm9, ⟨t6, t9, _⟩⟩ := hp
  have gN := gid_ge fH N
  let hT := gid fH N
  have ids : IdS hT fT := ⟨by show 900 ≤ gid fH N; omega, hfT, by show isF fT (gid fH N) = false; rw [isF_gid hfH, decide_eq_false (Ne.symm hTH)]⟩
  have gm9' : GM w0 T0 E9 (tbS sg hT fT N (N + 1) (hdP fT id (N + 1)) (extM N R (datF rr 0))) w9 := gm9.tell fun j g hg => by
    unfold tbS at hg
    unfold sgS
    by_cases e2 : j = hT
    · rw [if_pos e2] at hg ⊢
      cases hg
      exact ⟨_, rfl, id, fun h => (by cases h), Nat.le_refl _, fun _ _ _ r => r⟩
    · rw [if_neg e2] at hg
      rw [if_neg e2]
      by_cases e3 : isF fT j = true ∧ posF j < N
      · rw [if_pos e3]
        rw [if_pos ⟨e3.1, by omega⟩] at hg
        cases hg
        exact ⟨_, rfl, id, fun h => (by cases h), Nat.le_refl _, fun _ _ _ r => r⟩
      · rw [if_neg e3]
        rw [if_neg (fun h => e3 ⟨h.1, by omega⟩)] at hg
        exact ⟨g, hg, Wk.ext (Ext.refl _) g⟩
  refine wp_seq (wp_seq (wp_mono (gm9'.run (body_ok okNil mixed 1 _ off) (s14 fops N) AllT.nil (lS0 hT) (lS0_ok ids) rfl ⟨t6, sl_ro t9, trivial⟩ q1 q2 all0 all0) fun e a10 w10 hp => ?_))
  obtain ⟨rfl, q1, q2, gm10, hs10⟩ := hp
  have hM : MS w0 T0 E9 sg hT fT N (extM N R (datF rr 0)) w10 := ⟨id, _, ⟨fun p hp => hp, fun p q _ _ h => h⟩, fun p _ => rfl, gm10⟩
  have he9 : E9 he = none := by
    cases h : E9 he with
    | none => rfl
    | some x =>
      rcases hold9 he (by rw [h]; simp) with k | ⟨p, k⟩ | ⟨p, k⟩
      · exact absurd heN k
      · have := gid_ge fH p; omega
      · have := gid_ge fT p; omega
  have hnw9 : ∀ j, E9 j ≠ none → E j ≠ none ∨ nwI he fT fH fO j := fun j hj => by
    rcases hold9 j hj with h | h | h
    · exact .inl h
    · exact .inr (.inr (.inr (.inl h)))
    · exact .inr (.inr (.inl h))
  have toSg : ∀ {π : Nat → Nat} {Y : Nat → Int → Nat}, ∀ j g, sg j = some g → tbS sg hT fT N (N + 1) (hdP fT π (N + 1)) Y j = some g := fun j g hj => by
    have hne := gm.has hj
    unfold tbS
    rw [if_neg (fun e => hne (by rw [e]; exact hHN N)), if_neg (fun h => hne (by rw [(isF_iff hfT).1 h.1]; exact hTN _))]
    exact hj
  refine wp_block (wp_mono (klS ids hN8 he1.1 he9 hM hs10 q1 q2) fun e a11 w11 hp => ?_)
  obtain ⟨q1, q2, ⟨rfl, ⟨X', hsol, π, Y, hπ, hX, gm11⟩, ⟨t6, t9, _⟩⟩ | ⟨rfl, hsol, E', π, Y, k1, k2, gm11, ⟨t4, t5, _⟩⟩⟩ := hp
  rotate_left
  · refine ⟨q2, _, results2 sh_res, _, rfl, E', hE9.trans k1, fun j hj => ?_, _, 4, ?_, .inr (.inl ⟨hvalid, by unfold resS; rw [hsol], rfl, _, t4, gm11, empNot _ toSg⟩)⟩
    · by_cases e : j = he
      · exact .inr (.inl e)
      · rw [k2 j e] at hj; exact hnw9 j hj
    · have : a11.tmps.getD 5 undef = .int .i64 4 := t5
      rw [this]
  have hO9 : ∀ p, E9 (gid fO p) = none := fun p => by
    cases h : E9 (gid fO p) with
    | none => rfl
    | some x =>
      rcases hold9 _ (by rw [h]; simp) with k | ⟨q, k⟩ | ⟨q, k⟩
      · exact absurd (hON p) k
      · exact absurd k (gid_ne (Ne.symm hHO) hfO hfH)
      · exact absurd k (gid_ne (Ne.symm hTO) hfO hfT)
  have gO := gid_ge fO 0
  show (Code.seq (cL d8) (.seq (.seq (cL (cL d9)) (.block 12 (.loop tO))) (.seq (cL d10) (cR d10)))).wp Try.prog _ a11 w11
  refine wp_seq (wp_mono (gm11.newL (body_ok okNil mixed 1 _ off) (s37 fops N) AllT.nil (lS0 hT) (lS0_ok ids) rfl ⟨t6, t9, trivial⟩ q1 q2 all0 all0
    [(gid fO 0, 10)] [(gid fO 0, ⟨true, true, .rows 1 ((0 : Nat) : Int) (fr (zS fops N X'))⟩)] []
    (allC ⟨by simp only; omega, hO9 0, by simp, by simp, by simp [findS_cons]⟩ all0) (allC (allC (fun _ => rfl) all0) all0) (allC (by simp [lkN]) all0)
    (fun sg' hP => allC ⟨10, _, by simp [lkN], hP.1, rfl, fun E' E2 _ _ _ => Wk.nil⟩ all0) all0) fun e a12 w12 hp => ?_)
  obtain ⟨rfl, q1, q2, E12, hE12, hE12n, gm12, ⟨t6, t9, t18, _⟩⟩ := hp
  have hE12e : ∀ j, j ≠ gid fO 0 → E12 j = E9 j := fun j hj => hE12n j (by simp only [lkN, if_neg hj])
  have gm12' : GM w0 T0 E12 (ovO (tbS sg hT fT N (N + 1) (hdP fT π (N + 1)) Y) fO 0 (zS fops N X')) w12 := gm12.sub fun j g hg => by
    unfold rmS upS
    rw [if_neg (by simp), findS_cons, findS_nil]
    unfold ovO at hg
    by_cases e : j = gid fO 0
    · rw [if_pos e] at hg ⊢; exact hg
    · rw [if_neg e] at hg ⊢; exact hg
  have al12 : ∀ p ∈ lQ hT fO 0, p.1 < 10 ∧ p.1 < 900 ∧ 900 ≤ p.2 := allC ⟨by simp, by simp, ids.a⟩ (allC ⟨by simp, by simp, by simp only; omega⟩ all0)
  refine wp_seq (wp_seq (wp_mono (gm12'.run (body_ok okNil mixed 1 _ off) (s38 fops N) AllT.nil (lQ hT fO 0) al12 rfl ⟨t6, t9, t18, trivial⟩ q1 q2 all0 all0) fun e a13 w13 hp => ?_))
  obtain ⟨rfl, q1, q2, gm13, hs13⟩ := hp
  refine wp_block (wp_mono (olS (E := E9) ids hN8 hπ hX hfO (Ne.symm hTO) (fun p => gid_ne (Ne.symm hHO) hfO hfH) (fun p => hsgN _ (hON p)) hE12 (fun j hj => by
    by_cases e : j = gid fO 0
    · exact .inr ⟨0, e⟩
    · rw [hE12e j e] at hj; exact .inl hj) (fun p hp => by rw [hE12e _ (fun h => by have := gid_inj h; omega)]; exact hO9 p) gm13 hs13 q1 q2) fun e a14 w14 hp => ?_)
  obtain ⟨rfl, q1, q2, E14, hE14, hold14, gm14, hs14⟩ := hp
  have hnw : ∀ j, E14 j ≠ none → E j ≠ none ∨ nwI he fT fH fO j := fun j hj => by
    rcases hold14 j hj with h | h
    · exact hnw9 j h
    · exact .inr (.inr (.inr (.inr h)))
  have he14 : E14 he = none := by
    cases h : E14 he with
    | none => rfl
    | some x =>
      rcases hold14 he (by rw [h]; simp) with k | ⟨p, k⟩
      · exact absurd he9 k
      · have := gid_ge fO p; omega
  have gO' := gid_ge fO N
  have hgo : ovO (tbS sg hT fT N (N + 1) (hdP fT π (N + 1)) Y) fO N (zS fops N X') (gid fO N) = some ⟨true, true, .rows 1 N (fr (zS fops N X'))⟩ := by unfold ovO; rw [if_pos rfl]
  have al14 : ∀ p ∈ lQ hT fO N, p.1 < 10 ∧ p.1 < 900 ∧ 900 ≤ p.2 := allC ⟨by simp, by simp, ids.a⟩ (allC ⟨by simp, by simp, by simp only; omega⟩ all0)
  have hrd14 : ∀ p ∈ [((6 : Nat), roG (N : Int) (fr (zS fops N X')))], ∃ g s0, lkN (lQ hT fO N) p.1 = some g ∧ ovO (tbS sg hT fT N (N + 1) (hdP fT π (N + 1)) Y) fO N (zS fops N X') g = some s0 ∧ Wk E14 (alE E14 (lQ hT fO N)) s0 p.2 :=
    allC ⟨gid fO N, _, rfl, hgo, Wk.flat (fun h => by cases h) (fun h => by cases h) (fr_flat _)⟩ all0
  have hback : ∀ j g, sg j = some g → ovO (tbS sg hT fT N (N + 1) (hdP fT π (N + 1)) Y) fO N (zS fops N X') j = some g := fun j g hj => by
    have hne := gm.has hj
    unfold ovO
    rw [if_neg (fun e => hne (by rw [e]; exact hON N))]
    exact toSg j g hj
  have hshz : Shape SlFloat32.ts (fr (zS fops N X')) := SlFloat32.shape_row (fun _ => zS fops N X') (fun _ _ => 0)
  show (Code.seq (cL d10) (cR d10)).wp Try.prog _ a14 w14
  cases hfin : Fnr.finN isNum N (fr (zS fops N X')) with
  | false =>
    refine wp_seq (wp_mono (gm14.newL (body_ok okSp mixed 1 _ (on1 206 true)) (s42t fops isNum N (fr (zS fops N X'))) (AllT.cons (fr_flat _) (AllT.cons (pB_iff.2 ⟨rfl, by omega, by omega, hshz⟩) (AllT.cons (by rw [hfin]; rfl) (AllT.cons rfl AllT.nil)))) (lQ hT fO N) al14 rfl hs14 q1 q2 hrd14 (allC (allC (fun h => absurd rfl h) all0) all0)
      [(he, 68)] [(he, emp)] [] (allC ⟨he1.1, he14, by simp, by simp, by simp [findS_cons]⟩ all0) (allC (allC (fun _ => rfl) all0) all0) (allC (by simp [lkN]) all0)
      (fun sg' hP => allC ⟨68, _, by simp [lkN], hP.1, rfl, fun E' E2 _ _ _ => Wk.nil⟩ all0) (allC (fun h => by cases h) all0)) fun e a15 w15 hp => ?_)
    obtain ⟨rfl, q1, q2, E2, k1, k2, gm15, ⟨t4, t5, _⟩⟩ := hp
    refine ⟨q2, _, results2 sh_res, _, rfl, E2, (hE9.trans hE14).trans k1, fun j hj => ?_, _, 4, ?_, .inr (.inl ⟨hvalid, by unfold resS; rw [hsol]; simp only [hfin]; rfl, rfl, _, t4, gm15, empNot _ hback⟩)⟩
    · by_cases e : j = he
      · exact .inr (.inl e)
      · rw [k2 j (by simp only [lkN, if_neg e])] at hj; exact hnw j hj
    · have : a15.tmps.getD 5 undef = .int .i64 4 := t5
      rw [this]
  | true =>
    refine wp_seq (wp_mono (gm14.run (body_ok okSp mixed 1 _ (on1 206 false)) (s42f fops isNum N (fr (zS fops N X'))) (AllT.cons (fr_flat _) (AllT.cons (pB_iff.2 ⟨rfl, by omega, by omega, hshz⟩) (AllT.cons (by rw [hfin]; rfl) AllT.nil))) (lQ hT fO N) al14 rfl hs14 q1 q2 hrd14 (allC rfl all0)) fun e a15 w15 hp => ?_)
    obtain ⟨rfl, q1, q2, gm15, hs15⟩ := hp
    refine wp_mono (gm15.run (body_ok okNil mixed 1 _ off) (s44 fops N) (AllT.cons rfl AllT.nil) (lQ hT fO N) al14 rfl hs15 q1 q2 all0 all0) fun e a16 w16 hp => ?_
    obtain ⟨rfl, q1, q2, gm16, ⟨t4, t5, _⟩⟩ := hp
    refine ⟨q2, _, results2 sh_res, _, rfl, E14, hE9.trans hE14, hnw, _, 0, ?_, .inr (.inr ⟨hvalid, zS fops N X', by unfold resS; rw [hsol]; simp only [hfin]; rfl, rfl, t4, gm16.sub fun j g hj => ?_⟩)⟩
    · have : a16.tmps.getD 5 undef = .int .i64 0 := t5
      rw [this]
    · unfold upS at hj
      rw [findS_cons, findS_nil] at hj
      by_cases e : j = gid fO N
      · rw [if_pos e] at hj; rw [e, hgo]; exact hj
      · rw [if_neg e] at hj; exact hback j g hj
end
end
end Go.Proofs.Ytaoeigofmfpamaa
end

/- Facts of sums and products of floats. Nothing is assumed. -/
section
namespace Go.Proofs.Ytaoeigofmfpamaa
open Go

theorem bin_cn {op : BinOp} {k : FloatKind} {x y : Nat} : Cn k (fops.bin op k x y) := by
  show Cn k ((floatBits op k x y).getD (qnan k))
  cases h : floatBits op k x y with
  | some r => exact ⟨r, floatBits_lt h, can_of_not (floatBits_not_nan h)⟩
  | none => exact ⟨qnan k, by cases k <;> decide +kernel, by simp [can, qnan_nan]⟩
theorem word_false (f : Ieee.Format) (r : Nat) : f.word false r = r := rfl
/-- A word's own number is written as that word. -/
theorem nearest_units (k : FloatKind) (s : Bool) {r : Nat} (h : r < k.format.infRung) : k.format.nearest s (units k.format.binade r) k.format.leastPlace = k.format.word s r := by
  have hb : 0 < k.format.binade := binade_pos k
  have hbd : k.format.binade = 2 ^ k.format.fractionBits := rfl
  unfold Ieee.Format.nearest
  by_cases h0 : r = 0
  · subst h0
    have : units k.format.binade 0 = 0 := by unfold units; rw [if_pos hb]
    rw [this, if_pos rfl]
  · have hpos : 0 < units k.format.binade r := by
      have := units_lt (b := k.format.binade) hb (Nat.pos_of_ne_zero h0)
      have u0 : units k.format.binade 0 = 0 := by unfold units; rw [if_pos hb]
      rw [u0] at this; exact this
    rw [if_neg (by omega)]
    by_cases h1 : r < k.format.binade
    · have hu : units k.format.binade r = r := by unfold units; rw [if_pos h1]
      rw [hu]
      have hl : r.log2 < k.format.fractionBits := by rw [Nat.log2_lt h0]; exact h1
      have hm : max (k.format.leastPlace + (r.log2 : Int) - (k.format.fractionBits : Int)) k.format.leastPlace = k.format.leastPlace := by omega
      simp only [hm, Int.sub_self, Int.toNat_zero, Nat.zero_mul, Nat.zero_add, Nat.shiftLeft_zero, cut_zero]
      rw [Nat.min_eq_left (Nat.le_of_lt h)]
    · have hq : 1 ≤ r / k.format.binade := (Nat.one_le_div_iff hb).2 (by omega)
      have hu : units k.format.binade r = (k.format.binade + r % k.format.binade) * 2 ^ (r / k.format.binade - 1) := by unfold units; rw [if_neg h1]
      have hmod : r % k.format.binade < k.format.binade := Nat.mod_lt _ hb
      have hlog : (units k.format.binade r).log2 = k.format.fractionBits + (r / k.format.binade - 1) := by
        rw [Nat.log2_eq_iff (by omega), hu]
        constructor
        · rw [Nat.pow_add, ← hbd]
          exact Nat.mul_le_mul_right _ (Nat.le_add_right _ _)
        · rw [show k.format.fractionBits + (r / k.format.binade - 1) + 1 = (k.format.fractionBits + 1) + (r / k.format.binade - 1) by omega, Nat.pow_add, Nat.pow_succ, ← hbd]
          exact Nat.mul_lt_mul_of_pos_right (by omega) (Nat.two_pow_pos _)
      rw [hlog]
      have hm : max (k.format.leastPlace + ((k.format.fractionBits + (r / k.format.binade - 1) : Nat) : Int) - (k.format.fractionBits : Int)) k.format.leastPlace = k.format.leastPlace + ((r / k.format.binade - 1 : Nat) : Int) := by omega
      simp only [hm]
      have e1 : (k.format.leastPlace - (k.format.leastPlace + ((r / k.format.binade - 1 : Nat) : Int))).toNat = 0 := by omega
      have e2 : (k.format.leastPlace + ((r / k.format.binade - 1 : Nat) : Int) - k.format.leastPlace).toNat = r / k.format.binade - 1 := by omega
      rw [e1, e2, Nat.shiftLeft_zero]
      have hcut : Ieee.Toward.even.cut s (units k.format.binade r) (r / k.format.binade - 1) = k.format.binade + r % k.format.binade := by
        unfold Ieee.Toward.cut
        rw [hlog, Nat.min_eq_left (by omega), Nat.shiftLeft_eq, Nat.one_mul, hu]
        dsimp only
        rw [Nat.mul_div_cancel _ (Nat.two_pow_pos _), Nat.mul_mod_left]
        have : 0 < 2 ^ (r / k.format.binade - 1) := Nat.two_pow_pos _
        have h2 : (2 ^ (r / k.format.binade - 1) == 2 * 0) = false := by simp
        simp [h2]
      rw [hcut]
      have hr : (r / k.format.binade - 1) * k.format.binade + (k.format.binade + r % k.format.binade) = r := by
        have := Nat.div_add_mod r k.format.binade
        have e3 : (r / k.format.binade - 1) * k.format.binade + k.format.binade = r / k.format.binade * k.format.binade := by
          rw [← Nat.succ_mul, Nat.succ_eq_add_one, Nat.sub_add_cancel hq]
        rw [Nat.mul_comm] at this
        omega
      rw [hr, Nat.min_eq_left (Nat.le_of_lt h)]
theorem even_le {s : Bool} {n d t : Nat} (h : n ≤ t * 2 ^ d) : Ieee.Toward.even.cut s n d ≤ t := by
  unfold Ieee.Toward.cut
  dsimp only
  rw [Nat.shiftLeft_eq, Nat.one_mul]
  have hp : 0 < 2 ^ min d (n.log2 + 2) := Nat.two_pow_pos _
  generalize hg : 2 ^ min d (n.log2 + 2) = g at hp ⊢
  have hdm := Nat.div_add_mod n g
  have hrest : n % g < g := Nat.mod_lt _ hp
  -- where all digits are dropped the number is less than half a unit
  by_cases hd : d ≤ n.log2 + 2
  · have hgd : g = 2 ^ d := by rw [← hg, Nat.min_eq_left hd]
    rw [← hgd] at h
    have hlow : n / g ≤ t := by
      have := Nat.div_le_div_right (c := g) h
      rwa [Nat.mul_div_cancel _ hp] at this
    rcases Nat.lt_or_eq_of_le hlow with h1 | h1
    · have : ∀ b : Bool, b.toNat ≤ 1 := fun b => by cases b <;> decide
      have := this (decide (g < 2 * (n % g)) || (g == 2 * (n % g) && n / g % 2 == 1))
      omega
    · have h2 : n % g = 0 := by
        rw [h1, Nat.mul_comm] at hdm
        omega
      have h3 : (g == 2 * 0) = false := by
        cases hb : (g == 2 * 0)
        · rfl
        · have := of_decide_eq_true (p := g = 2 * 0) (by simpa using hb); omega
      rw [h2, h3, h1]
      simp
  · have hgd : g = 2 ^ (n.log2 + 2) := by rw [← hg, Nat.min_eq_right (by omega)]
    have hn : n < 2 ^ (n.log2 + 1) := Nat.lt_log2_self
    have h2 : 2 * n < g := by rw [hgd, Nat.pow_succ]; omega
    have hlt : n < g := by omega
    rw [Nat.div_eq_of_lt hlt, Nat.mod_eq_of_lt hlt]
    have h3 : decide (g < 2 * n) = false := by simp; omega
    have h4 : (g == 2 * n) = false := by simp; omega
    rw [h3, h4]
    simp
/-- No number that is at most a word's is written above it. -/
theorem nearest_le (k : FloatKind) (s : Bool) {m : Nat} {e : Int} {r : Nat} (h : m * 2 ^ (e - k.format.leastPlace).toNat ≤ units k.format.binade r * 2 ^ (k.format.leastPlace - e).toNat) : ∃ r', r' ≤ r ∧ r' ≤ k.format.infRung ∧ k.format.nearest s m e = k.format.word s r' := by
  have hb : 0 < k.format.binade := binade_pos k
  have hbd : k.format.binade = 2 ^ k.format.fractionBits := rfl
  unfold Ieee.Format.nearest
  by_cases h0 : m = 0
  · rw [if_pos h0]; exact ⟨0, Nat.zero_le _, Nat.zero_le _, rfl⟩
  rw [if_neg h0]
  refine ⟨_, ?_, Nat.min_le_right _ _, rfl⟩
  refine Nat.le_trans (Nat.min_le_left _ _) ?_
  -- the number in units, and its binade
  generalize hE : (e - k.format.leastPlace).toNat = E at h
  generalize hF : (k.format.leastPlace - e).toNat = F at h
  have hEe : e = k.format.leastPlace + (E : Int) - (F : Int) := by omega
  have hEF : E = 0 ∨ F = 0 := by omega
  have hml : 2 ^ m.log2 ≤ m := Nat.log2_self_le h0
  have hmu : m < 2 ^ (m.log2 + 1) := Nat.lt_log2_self
  by_cases hn : E + m.log2 ≤ k.format.fractionBits + F
  · -- the least binades: a step is a unit
    have hm : max (e + (m.log2 : Int) - (k.format.fractionBits : Int)) k.format.leastPlace = k.format.leastPlace := by omega
    simp only [hm]
    rw [hE, hF, Int.sub_self, Int.toNat_zero, Nat.zero_mul, Nat.zero_add, Nat.shiftLeft_eq]
    have hu : m * 2 ^ E ≤ (2 * k.format.binade) * 2 ^ F := by
      calc m * 2 ^ E ≤ 2 ^ (m.log2 + 1) * 2 ^ E := Nat.mul_le_mul_right _ (Nat.le_of_lt hmu)
        _ = 2 ^ (E + m.log2 + 1) := by rw [← Nat.pow_add]; congr 1; omega
        _ ≤ 2 ^ (k.format.fractionBits + 1 + F) := Nat.pow_le_pow_right (by omega) (by omega)
        _ = (2 * k.format.binade) * 2 ^ F := by rw [Nat.pow_add, Nat.pow_succ, hbd, Nat.mul_comm 2]
    by_cases hr2 : r < 2 * k.format.binade
    · have : units k.format.binade r = r := by
        unfold units
        split
        · rfl
        · rename_i h1
          have hq : r / k.format.binade = 1 := by
            refine Nat.le_antisymm ?_ ((Nat.one_le_div_iff hb).2 (by omega))
            exact Nat.le_of_lt_succ (Nat.div_lt_of_lt_mul (by omega))
          have := Nat.div_add_mod r k.format.binade
          rw [hq] at this ⊢
          simp; omega
      rw [this] at h; exact even_le h
    · exact Nat.le_trans (even_le hu) (by omega)
  · -- a number with all its digits
    have hm : max (e + (m.log2 : Int) - (k.format.fractionBits : Int)) k.format.leastPlace = k.format.leastPlace + ((E + m.log2 - k.format.fractionBits - F : Nat) : Int) := by omega
    simp only [hm]
    generalize hD : E + m.log2 - k.format.fractionBits - F = D
    have e1 : (k.format.leastPlace + (D : Int) - k.format.leastPlace).toNat = D := by omega
    rw [e1]
    -- what is kept is below t where the number is
    have kept : ∀ t, m * 2 ^ E ≤ t * 2 ^ D * 2 ^ F → Ieee.Toward.even.cut s (m <<< (e - (k.format.leastPlace + (D : Int))).toNat) (k.format.leastPlace + (D : Int) - e).toNat ≤ t := by
      intro t ht
      refine even_le ?_
      rw [Nat.shiftLeft_eq]
      rw [Nat.mul_assoc, ← Nat.pow_add] at ht
      by_cases hED : D + F ≤ E
      · have d1 : (e - (k.format.leastPlace + (D : Int))).toNat = E - (D + F) := by omega
        have d2 : (k.format.leastPlace + (D : Int) - e).toNat = 0 := by omega
        rw [d1, d2, Nat.pow_zero, Nat.mul_one]
        have : m * 2 ^ E = m * 2 ^ (E - (D + F)) * 2 ^ (D + F) := by rw [Nat.mul_assoc, ← Nat.pow_add, Nat.sub_add_cancel hED]
        rw [this] at ht
        exact Nat.le_of_mul_le_mul_right ht (Nat.two_pow_pos _)
      · have d1 : (e - (k.format.leastPlace + (D : Int))).toNat = 0 := by omega
        have d2 : (k.format.leastPlace + (D : Int) - e).toNat = D + F - E := by omega
        rw [d1, d2, Nat.pow_zero, Nat.mul_one]
        have : t * 2 ^ (D + F) = t * 2 ^ (D + F - E) * 2 ^ E := by rw [Nat.mul_assoc, ← Nat.pow_add, Nat.sub_add_cancel (by omega)]
        rw [this] at ht
        exact Nat.le_of_mul_le_mul_right ht (Nat.two_pow_pos _)
    have hlow : k.format.binade * 2 ^ D * 2 ^ F ≤ m * 2 ^ E := by
      calc k.format.binade * 2 ^ D * 2 ^ F = 2 ^ (E + m.log2) := by rw [hbd, ← Nat.pow_add, ← Nat.pow_add]; congr 1; omega
        _ = 2 ^ m.log2 * 2 ^ E := by rw [← Nat.pow_add]; congr 1; omega
        _ ≤ m * 2 ^ E := Nat.mul_le_mul_right _ hml
    have hup : m * 2 ^ E ≤ (2 * k.format.binade) * 2 ^ D * 2 ^ F := by
      calc m * 2 ^ E ≤ 2 ^ (m.log2 + 1) * 2 ^ E := Nat.mul_le_mul_right _ (Nat.le_of_lt hmu)
        _ = (2 * k.format.binade) * 2 ^ D * 2 ^ F := by
          rw [hbd, ← Nat.pow_add, ← Nat.pow_succ', ← Nat.pow_add, ← Nat.pow_add]; congr 1; omega
    by_cases hr2 : D * k.format.binade + 2 * k.format.binade ≤ r
    · exact Nat.le_trans (Nat.add_le_add_left (kept _ hup) _) hr2
    · -- the word is of that binade
      have hlow' : k.format.binade * 2 ^ D ≤ units k.format.binade r := Nat.le_of_mul_le_mul_right (Nat.le_trans hlow h) (Nat.two_pow_pos F)
      have hge : D * k.format.binade + k.format.binade ≤ r := by
        rcases Nat.lt_or_ge r (D * k.format.binade + k.format.binade) with hlt | hge
        · exfalso
          have h1 := units_lt (b := k.format.binade) hb hlt
          have h2 : units k.format.binade (D * k.format.binade + k.format.binade) = k.format.binade * 2 ^ D := by
            unfold units
            rw [if_neg (by omega)]
            have h3 : D * k.format.binade + k.format.binade = (D + 1) * k.format.binade := by rw [Nat.succ_mul]
            rw [h3, Nat.mul_mod_left, Nat.mul_div_cancel _ hb]
            simp
          rw [h2] at h1
          omega
        · exact hge
      have hq : r / k.format.binade = D + 1 := by
        refine Nat.le_antisymm (Nat.le_of_lt_succ (Nat.div_lt_of_lt_mul ?_)) ((Nat.le_div_iff_mul_le hb).2 ?_)
        · rw [Nat.mul_comm, show (D + 1).succ = D + 2 from rfl, Nat.add_mul]; omega
        · rw [Nat.add_mul]; omega
      have hu : units k.format.binade r = (r - D * k.format.binade) * 2 ^ D := by
        unfold units
        rw [if_neg (by omega), hq]
        have := Nat.div_add_mod r k.format.binade
        rw [hq, Nat.mul_comm, Nat.add_mul] at this
        congr 1
        omega
      rw [hu] at h
      have := kept _ h
      omega

/-! ### zero adds nothing -/
theorem read_zero : FloatKind.f32.format.read 0 = .number false 0 FloatKind.f32.format.leastPlace := by decide +kernel
theorem neg_small {x : Nat} (h : x < 2147483648) : negB .f32 x = false := by
  unfold negB
  rw [show FloatKind.f32.format.signWeight = 2147483648 by decide +kernel, Nat.div_eq_of_lt h]; rfl
theorem rung_small {x : Nat} (h : x < 2147483648) : rung .f32 x = x := by
  unfold rung
  rw [show FloatKind.f32.format.signWeight = 2147483648 by decide +kernel, Nat.mod_eq_of_lt h]
theorem add_def (x y : Nat) : fops.bin .add .f32 x y = (((FloatKind.f32.format.read x).sum (FloatKind.f32.format.read y)).map FloatKind.f32.format.write).getD (qnan .f32) := rfl
theorem nan_read {x : Nat} (h : nanb .f32 x = true) : ∃ s t, FloatKind.f32.format.read x = .nan s t := by
  unfold nanb FloatKind.decode at h
  cases hd : FloatKind.f32.format.read x <;> rw [hd] at h <;> simp [Ieee.Datum.isNaN] at h
  exact ⟨_, _, rfl⟩
theorem add_zero {x : Nat} (hx : Cn .f32 x) (h : x < 2147483648) : fops.bin .add .f32 x 0 = x ∧ fops.bin .add .f32 0 x = x := by
  rw [add_def, add_def, read_zero]
  cases hn : nanb .f32 x with
  | true =>
    obtain ⟨s, t, hd⟩ := nan_read hn
    have hq : x = qnan .f32 := by have := hx.nan; rw [hn] at this; exact beqN.1 this.symm
    rw [hd]
    exact ⟨hq.symm, hq.symm⟩
  | false =>
    rcases read_cases .f32 x hn with ⟨m, e, h1, h2, h3, h4⟩ | ⟨h1, h4⟩
    · rw [neg_small h] at h1
      rw [rung_small h] at h3 h4
      rw [h1]
      have b1 : min e FloatKind.f32.format.leastPlace = FloatKind.f32.format.leastPlace := by omega
      have b2 : min FloatKind.f32.format.leastPlace e = FloatKind.f32.format.leastPlace := by omega
      have s1 : Ieee.signed false m (e - FloatKind.f32.format.leastPlace).toNat = ((units FloatKind.f32.format.binade x : Nat) : Int) := by
        unfold Ieee.signed
        rw [if_neg (by simp), Nat.shiftLeft_eq, h3]
      have s2 : ∀ n, Ieee.signed false 0 n = 0 := fun n => by simp [Ieee.signed]
      simp only [Ieee.Datum.sum, b1, b2, s1, s2, Int.add_zero, Int.zero_add, Option.map_some, Option.getD_some, Ieee.Format.write, Int.natAbs_natCast]
      have hneg : ∀ n : Nat, (if (n : Int) = 0 then (false && false) else decide ((n : Int) < 0)) = false := fun n => by split <;> simp
      rw [hneg, nearest_units .f32 false h4, word_false]
      exact ⟨rfl, rfl⟩
    · rw [neg_small h] at h1
      rw [rung_small h] at h4
      rw [h1]
      simp only [Ieee.Datum.sum, Option.map_some, Option.getD_some, Ieee.Format.write, word_false, h4]
      exact ⟨trivial, trivial⟩
/-- A product of two that are not negative is not negative. -/
theorem mul_pos {x y : Nat} (hx : x < 2147483648) (hy : y < 2147483648) : fops.bin .mul .f32 x y < 2147483648 := by
  have hdef : fops.bin .mul .f32 x y = (((FloatKind.f32.format.read x).product (FloatKind.f32.format.read y)).map FloatKind.f32.format.write).getD (qnan .f32) := rfl
  have hi : FloatKind.f32.format.infRung = 2139095040 := by decide +kernel
  have sgn : ∀ {z : Nat}, z < 2147483648 → (FloatKind.f32.format.read z).neg = false := by
    intro z hz
    cases hn : nanb .f32 z with
    | true =>
      unfold Ieee.Format.read
      have : (z / FloatKind.f32.format.signWeight % 2 == 1) = false := neg_small hz
      dsimp only
      rw [this]
      split
      · rfl
      · split
        · rfl
        · split <;> rfl
    | false =>
      rcases read_cases .f32 z hn with ⟨m, e, h1, _⟩ | ⟨h1, _⟩ <;> rw [h1] <;> exact neg_small hz
  have wr : ∀ d : Ieee.Datum, d.neg = false → d.isNaN = false → FloatKind.f32.format.write d < 2147483648 := by
    intro d h1 h2
    cases d with
    | nan s t => cases h2
    | infinity s => cases h1; rw [Ieee.Format.write, word_false, hi]; decide
    | number s m e =>
      cases h1
      simp only [Ieee.Format.write, Ieee.Format.nearest]
      split
      · rw [word_false]; decide
      · rw [word_false]
        exact Nat.lt_of_le_of_lt (Nat.min_le_right _ _) (by rw [hi]; decide)
  rw [hdef]
  cases hp : (FloatKind.f32.format.read x).product (FloatKind.f32.format.read y) with
  | none => decide +kernel
  | some d =>
    refine wr d ?_ (product_not_nan hp)
    have g1 := sgn hx
    have g2 := sgn hy
    cases h1 : FloatKind.f32.format.read x <;> cases h2 : FloatKind.f32.format.read y <;> rw [h1] at hp g1 <;> rw [h2] at hp g2 <;> simp only [Ieee.Datum.neg] at g1 g2 <;> subst g1 <;> subst g2 <;> simp only [Ieee.Datum.product] at hp <;> first
      | (cases hp; done)
      | (cases hp; rfl)
      | (split at hp <;> cases hp; rfl)
end Go.Proofs.Ytaoeigofmfpamaa
end

/- Sums, differences and products of floats: their sizes. Nothing is assumed. -/
section
namespace Go.Proofs.Ytaoeigofmfpamaa
open Go

/-- The number of a word in units of the least place, with its sign. -/
def val (x : Nat) : Int := sgn (negB .f32 x) (units FloatKind.f32.format.binade (rung .f32 x))
/-- A word of a number. -/
def Fin (x : Nat) : Prop := nanb .f32 x = false ∧ rung .f32 x < 2139095040
theorem inf32 : FloatKind.f32.format.infRung = 2139095040 := by decide +kernel
theorem sw32 : FloatKind.f32.format.signWeight = 2147483648 := by decide +kernel
theorem fin_read {x : Nat} (h : Fin x) : ∃ m e, FloatKind.f32.format.read x = .number (negB .f32 x) m e ∧ FloatKind.f32.format.leastPlace ≤ e ∧ m * 2 ^ (e - FloatKind.f32.format.leastPlace).toNat = units FloatKind.f32.format.binade (rung .f32 x) := by
  rcases read_cases .f32 x h.1 with ⟨m, e, h1, h2, h3, _⟩ | ⟨_, h4⟩
  · exact ⟨m, e, h1, h2, h3⟩
  · have := h.2; rw [h4, inf32] at this; omega
theorem fin_small {x : Nat} (h : x < 2139095040) : Fin x := by
  refine ⟨?_, by rw [rung_small (by omega)]; exact h⟩
  unfold nanb FloatKind.decode
  rw [read_nan, sw32, inf32]
  simp; omega
theorem val_small {x : Nat} (h : x < 2147483648) : val x = (units FloatKind.f32.format.binade x : Nat) := by
  unfold val sgn
  rw [neg_small h, rung_small h]; rfl
theorem signed_val {x : Nat} {m : Nat} {e b : Int} (s : Bool) (h1 : FloatKind.f32.format.leastPlace ≤ b) (h2 : b ≤ e) (h3 : m * 2 ^ (e - FloatKind.f32.format.leastPlace).toNat = units FloatKind.f32.format.binade (rung .f32 x)) :
    Ieee.signed s m (e - b).toNat * (2 ^ (b - FloatKind.f32.format.leastPlace).toNat : Nat) = sgn s (units FloatKind.f32.format.binade (rung .f32 x)) := by
  rw [signed_mul, ← h3]
  have : (e - b).toNat + (b - FloatKind.f32.format.leastPlace).toNat = (e - FloatKind.f32.format.leastPlace).toNat := by omega
  rw [this]
  rfl
theorem sgn_not (s : Bool) (n : Nat) : sgn (!s) n = - sgn s n := by cases s <;> simp [sgn]
/-- A difference of two numbers, and what it may not pass. -/
theorem sub_le {x y r : Nat} (hx : Fin x) (hy : Fin y) (h : val y ≤ val x) (hr : val x - val y ≤ (units FloatKind.f32.format.binade r : Nat)) (hs : negB .f32 x = false ∨ negB .f32 y = true ∨ val y < val x) :
    ∃ r', r' ≤ r ∧ r' ≤ 2139095040 ∧ (fops.bin .sub .f32 x y = r' ∨ fops.bin .sub .f32 x y = 2147483648 ∧ val x = val y) := by
  obtain ⟨m, i, h1, h2, h3⟩ := fin_read hx
  obtain ⟨n, j, g1, g2, g3⟩ := fin_read hy
  have hdef : fops.bin .sub .f32 x y = (((FloatKind.f32.format.read x).sum (FloatKind.f32.format.read y).opposite).map FloatKind.f32.format.write).getD (qnan .f32) := rfl
  rw [hdef, h1, g1]
  simp only [Ieee.Datum.opposite, Ieee.Datum.sum, Option.map_some, Option.getD_some, Ieee.Format.write]
  have e1 := signed_val (x := x) (b := min i j) (negB .f32 x) (by omega) (by omega) h3
  have e2 := signed_val (x := y) (b := min i j) (!negB .f32 y) (by omega) (by omega) g3
  rw [sgn_not] at e2
  generalize hT : Ieee.signed (negB .f32 x) m (i - min i j).toNat + Ieee.signed (!negB .f32 y) n (j - min i j).toNat = T
  have hTv : T * (2 ^ (min i j - FloatKind.f32.format.leastPlace).toNat : Nat) = val x - val y := by
    rw [← hT, Int.add_mul, e1, e2]; unfold val; omega
  have hp : (0 : Int) < ((2 ^ (min i j - FloatKind.f32.format.leastPlace).toNat : Nat) : Int) := by exact_mod_cast Nat.two_pow_pos _
  have hT0 : 0 ≤ T := by
    rcases Int.lt_or_le T 0 with h' | h'
    · have := Int.mul_neg_of_neg_of_pos h' hp
      rw [hTv] at this; omega
    · exact h'
  have hle : T.natAbs * 2 ^ (min i j - FloatKind.f32.format.leastPlace).toNat ≤ units FloatKind.f32.format.binade r * 2 ^ (FloatKind.f32.format.leastPlace - min i j).toNat := by
    have z : (FloatKind.f32.format.leastPlace - min i j).toNat = 0 := by omega
    rw [z, Nat.pow_zero, Nat.mul_one]
    have : ((T.natAbs * 2 ^ (min i j - FloatKind.f32.format.leastPlace).toNat : Nat) : Int) ≤ (units FloatKind.f32.format.binade r : Nat) := by
      rw [Int.natCast_mul, Int.natAbs_of_nonneg hT0, hTv]; exact hr
    exact_mod_cast this
  obtain ⟨r', k1, k2, k3⟩ := nearest_le .f32 (if T = 0 then negB .f32 x && !negB .f32 y else decide (T < 0)) hle
  rw [inf32] at k2
  refine ⟨r', k1, k2, ?_⟩
  rw [k3]
  by_cases ht : T = 0
  · rw [if_pos ht]
    have hv : val x = val y := by rw [ht, Int.zero_mul] at hTv; omega
    have : (negB .f32 x && !negB .f32 y) = false := by
      rcases hs with h' | h' | h'
      · rw [h']; rfl
      · rw [h']; simp
      · omega
    rw [this]; exact .inl rfl
  · rw [if_neg ht]
    have : decide (T < 0) = false := by simp; exact hT0
    rw [this]; exact .inl rfl
/-- A product of two that are not negative, and what it may not pass. -/
theorem mul_le {x y r : Nat} (hx : x < 2139095040) (hy : y < 2139095040) (h : units FloatKind.f32.format.binade x * units FloatKind.f32.format.binade y ≤ units FloatKind.f32.format.binade r * 2 ^ 149) :
    fops.bin .mul .f32 x y ≤ r ∧ fops.bin .mul .f32 x y ≤ 2139095040 := by
  obtain ⟨m, i, h1, h2, h3⟩ := fin_read (fin_small hx)
  obtain ⟨n, j, g1, g2, g3⟩ := fin_read (fin_small hy)
  rw [neg_small (by omega)] at h1 g1
  rw [rung_small (by omega)] at h3 g3
  have hdef : fops.bin .mul .f32 x y = (((FloatKind.f32.format.read x).product (FloatKind.f32.format.read y)).map FloatKind.f32.format.write).getD (qnan .f32) := rfl
  rw [hdef, h1, g1]
  simp only [Ieee.Datum.product, Option.map_some, Option.getD_some, Ieee.Format.write, Bool.false_bne, bne_self_eq_false]
  have lp : FloatKind.f32.format.leastPlace = -149 := by decide +kernel
  have key : m * n * 2 ^ (i + j - FloatKind.f32.format.leastPlace).toNat ≤ units FloatKind.f32.format.binade r * 2 ^ (FloatKind.f32.format.leastPlace - (i + j)).toNat := by
    rw [← h3, ← g3] at h
    have e1 : m * 2 ^ (i - FloatKind.f32.format.leastPlace).toNat * (n * 2 ^ (j - FloatKind.f32.format.leastPlace).toNat) = m * n * 2 ^ ((i - FloatKind.f32.format.leastPlace).toNat + (j - FloatKind.f32.format.leastPlace).toNat) := by
      rw [Nat.pow_add]; simp only [Nat.mul_comm, Nat.mul_left_comm, Nat.mul_assoc]
    rw [e1] at h
    rw [lp] at h2 g2 h ⊢
    by_cases hij : -149 ≤ i + j
    · have z : (-149 - (i + j)).toNat = 0 := by omega
      rw [z, Nat.pow_zero, Nat.mul_one]
      have e2 : (i - -149).toNat + (j - -149).toNat = (i + j - -149).toNat + 149 := by omega
      rw [e2, Nat.pow_add, ← Nat.mul_assoc] at h
      exact Nat.le_of_mul_le_mul_right h (Nat.two_pow_pos 149)
    · have z : (i + j - -149).toNat = 0 := by omega
      rw [z, Nat.pow_zero, Nat.mul_one]
      have e2 : 149 = (-149 - (i + j)).toNat + ((i - -149).toNat + (j - -149).toNat) := by omega
      have h' : m * n * 2 ^ ((i - -149).toNat + (j - -149).toNat) ≤ units FloatKind.f32.format.binade r * 2 ^ (-149 - (i + j)).toNat * 2 ^ ((i - -149).toNat + (j - -149).toNat) := by
        rw [Nat.mul_assoc (units FloatKind.f32.format.binade r), ← Nat.pow_add, ← e2]; exact h
      exact Nat.le_of_mul_le_mul_right h' (Nat.two_pow_pos _)
  obtain ⟨r', k1, k2, k3⟩ := nearest_le .f32 (false ^^ false) key
  rw [inf32] at k2
  first
    | (rw [k3]; exact ⟨k1, k2⟩)
    | (have k3' : FloatKind.f32.format.nearest false (m * n) (i + j) = r' := k3
       rw [k3']; exact ⟨k1, k2⟩)
theorem less_eq {x y : Nat} (hx : x ≤ 2139095040) (hy : y ≤ 2139095040) : (bif fops.cmp .lss .f32 x y then x else y) = (bif fops.cmp .lss .f32 y x then y else x) := by
  have nn : ∀ {z : Nat}, z ≤ 2139095040 → nanb .f32 z = false := by
    intro z hz
    unfold nanb FloatKind.decode
    rw [read_nan, sw32, inf32]
    simp; omega
  have kk : ∀ {z : Nat}, z ≤ 2139095040 → key .f32 z = z := by
    intro z hz
    unfold key
    rw [neg_small (by omega), rung_small (by omega)]; rfl
  rw [cmp_lss, cmp_lss, nn hx, nn hy, kk hx, kk hy]
  rcases Nat.lt_trichotomy x y with h | rfl | h
  · have a1 : (x : Int) < y := by omega
    have a2 : ¬ (y : Int) < x := by omega
    simp [a1, a2]
  · simp
  · have a1 : (y : Int) < x := by omega
    have a2 : ¬ (x : Int) < y := by omega
    simp [a1, a2]
theorem product_comm (a b : Ieee.Datum) : a.product b = b.product a := by
  cases a <;> cases b <;> simp only [Ieee.Datum.product]
  · rename_i s m i t n j
    rw [Bool.xor_comm s t, Nat.mul_comm m n, Int.add_comm i j]
  · rename_i s t
    rw [Bool.xor_comm s t]
theorem mul_comm_f (k : FloatKind) (x y : Nat) : fops.bin .mul k x y = fops.bin .mul k y x := by
  show (((k.format.read x).product (k.format.read y)).map k.format.write).getD (qnan k) = (((k.format.read y).product (k.format.read x)).map k.format.write).getD (qnan k)
  rw [product_comm]
/-- A sum of two that are not negative is not negative. -/
theorem add_pos {x y : Nat} (hx : x < 2139095040) (hy : y ≤ 2139095040) : fops.bin .add .f32 x y ≤ 2139095040 := by
  have hdef : fops.bin .add .f32 x y = (((FloatKind.f32.format.read x).sum (FloatKind.f32.format.read y)).map FloatKind.f32.format.write).getD (qnan .f32) := rfl
  obtain ⟨m, i, h1, h2, h3⟩ := fin_read (fin_small hx)
  rw [neg_small (by omega)] at h1
  rcases Nat.lt_or_eq_of_le hy with hy' | hy'
  · obtain ⟨n, j, g1, g2, g3⟩ := fin_read (fin_small hy')
    rw [neg_small (by omega)] at g1
    rw [hdef, h1, g1]
    simp only [Ieee.Datum.sum, Option.map_some, Option.getD_some, Ieee.Format.write]
    have s1 : ∀ (a b : Nat), Ieee.signed false a b = ((a <<< b : Nat) : Int) := fun a b => by simp [Ieee.signed]
    rw [s1, s1]
    generalize m <<< (i - min i j).toNat = a
    generalize n <<< (j - min i j).toNat = b
    have hneg : (if (a : Int) + (b : Int) = 0 then (false && false) else decide ((a : Int) + (b : Int) < 0)) = false := by
      split
      · rfl
      · simp; omega
    rw [hneg]
    unfold Ieee.Format.nearest
    split
    · rw [word_false]; decide
    · rw [word_false, inf32]
      exact Nat.min_le_right _ _
  · subst hy'
    have hi : FloatKind.f32.format.read 2139095040 = .infinity false := by decide +kernel
    rw [hdef, h1, hi]
    simp only [Ieee.Datum.sum, Option.map_some, Option.getD_some, Ieee.Format.write, word_false, inf32]
    exact Nat.le_refl _
end Go.Proofs.Ytaoeigofmfpamaa
end

/- Sums, differences and products of floats: bounds. Nothing is assumed. -/
section
namespace Go.Proofs.Ytaoeigofmfpamaa
open Go

abbrev un (r : Nat) : Nat := units FloatKind.f32.format.binade r
theorem un_le {r r' : Nat} (h : r ≤ r') : un r ≤ un r' := units_le (binade_pos .f32) h
theorem nan_word (s : Bool) {r : Nat} (h : r ≤ 2139095040) : nanb .f32 (FloatKind.f32.format.word s r) = false ∧ negB .f32 (FloatKind.f32.format.word s r) = s ∧ rung .f32 (FloatKind.f32.format.word s r) = r := by
  have hr : r < FloatKind.f32.format.signWeight := by rw [sw32]; omega
  have h1 := rung_word FloatKind.f32.format s hr
  refine ⟨?_, ?_, h1⟩
  · unfold nanb FloatKind.decode
    rw [read_nan, h1, inf32]; simp; omega
  · unfold negB
    cases s
    · rw [word_false, Nat.div_eq_of_lt hr]; rfl
    · have : FloatKind.f32.format.word true r = FloatKind.f32.format.signWeight + r := by
        unfold Ieee.Format.word; simp
      rw [this, Nat.add_div_left _ (by rw [sw32]; decide), Nat.div_eq_of_lt hr]; rfl
/-- A sum of two numbers. -/
structure SumF (z : Nat) (v : Int) : Prop where
  nan : nanb .f32 z = false
  inf : rung .f32 z ≤ 2139095040
  neg : v < 0 → negB .f32 z = true
  pos : 0 < v → negB .f32 z = false
  le : ∀ r, v.natAbs ≤ un r → rung .f32 z ≤ r
theorem sum_form {x y : Nat} (sy : Bool) (hx : Fin x) (hy : Fin y) :
    ∀ z, (((FloatKind.f32.format.read x).sum (match sy with | true => (FloatKind.f32.format.read y).opposite | false => FloatKind.f32.format.read y)).map FloatKind.f32.format.write).getD (qnan .f32) = z →
      SumF z (val x + (bif sy then - val y else val y)) ∧ (negB .f32 x = false → (bif sy then true else negB .f32 y == false) = true → val x + (bif sy then - val y else val y) = 0 → negB .f32 z = false) := by
  intro z hz
  obtain ⟨m, i, h1, h2, h3⟩ := fin_read hx
  obtain ⟨n, j, g1, g2, g3⟩ := fin_read hy
  have hop : (match sy with | true => (FloatKind.f32.format.read y).opposite | false => FloatKind.f32.format.read y) = .number (sy ^^ negB .f32 y) n j := by
    cases sy
    · rw [g1]; simp
    · rw [g1]; simp [Ieee.Datum.opposite]
  rw [hop, h1] at hz
  simp only [Ieee.Datum.sum, Option.map_some, Option.getD_some, Ieee.Format.write] at hz
  have e1 := signed_val (x := x) (b := min i j) (negB .f32 x) (by omega) (by omega) h3
  have e2 := signed_val (x := y) (b := min i j) (sy ^^ negB .f32 y) (by omega) (by omega) g3
  have e2' : sgn (sy ^^ negB .f32 y) (units FloatKind.f32.format.binade (rung .f32 y)) = bif sy then - val y else val y := by
    cases sy
    · simp [val]
    · simp [val, sgn_not]
  rw [e2'] at e2
  generalize hT : Ieee.signed (negB .f32 x) m (i - min i j).toNat + Ieee.signed (sy ^^ negB .f32 y) n (j - min i j).toNat = T at hz
  generalize hV : val x + (bif sy then - val y else val y) = V
  have hTv : T * (2 ^ (min i j - FloatKind.f32.format.leastPlace).toNat : Nat) = V := by
    rw [← hT, Int.add_mul, e1, e2, ← hV]; rfl
  have hp : (0 : Int) < ((2 ^ (min i j - FloatKind.f32.format.leastPlace).toNat : Nat) : Int) := by exact_mod_cast Nat.two_pow_pos _
  have hle : ∀ r, V.natAbs ≤ un r → T.natAbs * 2 ^ (min i j - FloatKind.f32.format.leastPlace).toNat ≤ units FloatKind.f32.format.binade r * 2 ^ (FloatKind.f32.format.leastPlace - min i j).toNat := by
    intro r hr
    have z : (FloatKind.f32.format.leastPlace - min i j).toNat = 0 := by omega
    rw [z, Nat.pow_zero, Nat.mul_one]
    have : T.natAbs * 2 ^ (min i j - FloatKind.f32.format.leastPlace).toNat = V.natAbs := by
      rw [← hTv, Int.natAbs_mul, Int.natAbs_natCast]
    rw [this]; exact hr
  generalize hS : (if T = 0 then negB .f32 x && (sy ^^ negB .f32 y) else decide (T < 0)) = S at hz
  have hform : ∀ r, V.natAbs ≤ un r → ∃ r', r' ≤ r ∧ r' ≤ 2139095040 ∧ z = FloatKind.f32.format.word S r' := by
    intro r hr
    obtain ⟨r', k1, k2, k3⟩ := nearest_le .f32 S (hle r hr)
    rw [inf32] at k2
    exact ⟨r', k1, k2, hz.symm.trans k3⟩
  -- some bound there is
  have hbig : ∃ r, V.natAbs ≤ un r := by
    have grow : ∀ n, n ≤ un n := by
      intro n
      induction n with
      | zero => exact Nat.zero_le _
      | succ n ih => exact Nat.lt_of_le_of_lt ih (units_lt (binade_pos .f32) (Nat.lt_succ_self n))
    exact ⟨_, grow _⟩
  obtain ⟨R, hR⟩ := hbig
  obtain ⟨r0, _, q2, q3⟩ := hform R hR
  obtain ⟨w1, w2, w3⟩ := nan_word S q2
  have hT0 : T < 0 ↔ V < 0 := by
    rw [← hTv]
    constructor
    · intro h; exact Int.mul_neg_of_neg_of_pos h hp
    · intro h
      rcases Int.lt_or_le T 0 with h' | h'
      · exact h'
      · have := Int.mul_nonneg h' (Int.le_of_lt hp); omega
  have hT1 : T = 0 ↔ V = 0 := by
    rw [← hTv]
    constructor
    · intro h; rw [h, Int.zero_mul]
    · intro h
      rcases Int.mul_eq_zero.1 h with h' | h'
      · exact h'
      · omega
  refine ⟨⟨by rw [q3]; exact w1, by rw [q3, w3]; exact q2, fun hv => ?_, fun hv => ?_, fun r hr => ?_⟩, fun hx0 hy0 hv => ?_⟩
  · rw [q3, w2, ← hS, if_neg (fun h => by have := hT1.1 h; omega)]
    exact decide_eq_true (hT0.2 hv)
  · rw [q3, w2, ← hS, if_neg (fun h => by have := hT1.1 h; omega)]
    exact decide_eq_false (fun h => by have := hT0.1 h; omega)
  · obtain ⟨r1, k1, k2, k3⟩ := hform r hr
    rw [k3, (nan_word S k2).2.2]; exact k1
  · rw [q3, w2, ← hS, if_pos (hT1.2 hv), hx0]; rfl
theorem add_form {x y : Nat} (hx : Fin x) (hy : Fin y) : SumF (fops.bin .add .f32 x y) (val x + val y) ∧ (negB .f32 x = false → negB .f32 y = false → val x + val y = 0 → negB .f32 (fops.bin .add .f32 x y) = false) := by
  obtain ⟨h1, h2⟩ := sum_form false hx hy _ rfl
  exact ⟨h1, fun a b c => h2 a (by simp [b]) c⟩
theorem sub_form {x y : Nat} (hx : Fin x) (hy : Fin y) : SumF (fops.bin .sub .f32 x y) (val x - val y) ∧ (negB .f32 x = false → val x - val y = 0 → negB .f32 (fops.bin .sub .f32 x y) = false) := by
  obtain ⟨h1, h2⟩ := sum_form true hx hy _ rfl
  exact ⟨h1, fun a c => h2 a rfl c⟩
/-- A word below 'r', up to the sign. -/
def Bd (x r : Nat) : Prop := Fin x ∧ rung .f32 x ≤ r
theorem val_abs (x : Nat) : (val x).natAbs = un (rung .f32 x) := by
  unfold val sgn
  cases negB .f32 x <;> simp
theorem Bd.mono {x r r' : Nat} (h : Bd x r) (hr : r ≤ r') : Bd x r' := ⟨h.1, Nat.le_trans h.2 hr⟩
theorem bd_small {x r : Nat} (h : x ≤ r) (hr : r < 2139095040) : Bd x r := ⟨fin_small (by omega), by rw [rung_small (by omega)]; exact h⟩
theorem SumF.bd {z : Nat} {v : Int} (h : SumF z v) {r : Nat} (hr : r < 2139095040) (hv : v.natAbs ≤ un r) : Bd z r := ⟨⟨h.nan, Nat.lt_of_le_of_lt (h.le r hv) hr⟩, h.le r hv⟩
theorem Bd.add {x y a b r : Nat} (hx : Bd x a) (hy : Bd y b) (hr : r < 2139095040) (h : un a + un b ≤ un r) : Bd (fops.bin .add .f32 x y) r := by
  refine (add_form hx.1 hy.1).1.bd hr (Nat.le_trans (Int.natAbs_add_le _ _) ?_)
  rw [val_abs, val_abs]
  have := un_le hx.2
  have := un_le hy.2
  omega
theorem Bd.sub {x y a b r : Nat} (hx : Bd x a) (hy : Bd y b) (hr : r < 2139095040) (h : un a + un b ≤ un r) : Bd (fops.bin .sub .f32 x y) r := by
  refine (sub_form hx.1 hy.1).1.bd hr (Nat.le_trans (Int.natAbs_sub_le _ _) ?_)
  rw [val_abs, val_abs]
  have := un_le hx.2
  have := un_le hy.2
  omega
theorem Bd.mul {x y a b r : Nat} (hx : Bd x a) (hy : Bd y b) (hr : r < 2139095040) (h : un a * un b ≤ un r * 2 ^ 149) : Bd (fops.bin .mul .f32 x y) r := by
  obtain ⟨m, i, h1, h2, h3⟩ := fin_read hx.1
  obtain ⟨n, j, g1, g2, g3⟩ := fin_read hy.1
  have hdef : fops.bin .mul .f32 x y = (((FloatKind.f32.format.read x).product (FloatKind.f32.format.read y)).map FloatKind.f32.format.write).getD (qnan .f32) := rfl
  rw [hdef, h1, g1]
  simp only [Ieee.Datum.product, Option.map_some, Option.getD_some, Ieee.Format.write]
  have lp : FloatKind.f32.format.leastPlace = -149 := by decide +kernel
  have hab : units FloatKind.f32.format.binade (rung .f32 x) * units FloatKind.f32.format.binade (rung .f32 y) ≤ un r * 2 ^ 149 :=
    Nat.le_trans (Nat.mul_le_mul (un_le hx.2) (un_le hy.2)) h
  have key : m * n * 2 ^ (i + j - FloatKind.f32.format.leastPlace).toNat ≤ units FloatKind.f32.format.binade r * 2 ^ (FloatKind.f32.format.leastPlace - (i + j)).toNat := by
    rw [← h3, ← g3] at hab
    have e1 : m * 2 ^ (i - FloatKind.f32.format.leastPlace).toNat * (n * 2 ^ (j - FloatKind.f32.format.leastPlace).toNat) = m * n * 2 ^ ((i - FloatKind.f32.format.leastPlace).toNat + (j - FloatKind.f32.format.leastPlace).toNat) := by
      rw [Nat.pow_add]; simp only [Nat.mul_comm, Nat.mul_left_comm, Nat.mul_assoc]
    rw [e1] at hab
    rw [lp] at h2 g2 hab ⊢
    by_cases hij : -149 ≤ i + j
    · have z : (-149 - (i + j)).toNat = 0 := by omega
      rw [z, Nat.pow_zero, Nat.mul_one]
      have e2 : (i - -149).toNat + (j - -149).toNat = (i + j - -149).toNat + 149 := by omega
      rw [e2, Nat.pow_add, ← Nat.mul_assoc] at hab
      exact Nat.le_of_mul_le_mul_right hab (Nat.two_pow_pos 149)
    · have z : (i + j - -149).toNat = 0 := by omega
      rw [z, Nat.pow_zero, Nat.mul_one]
      have e2 : 149 = (-149 - (i + j)).toNat + ((i - -149).toNat + (j - -149).toNat) := by omega
      have h' : m * n * 2 ^ ((i - -149).toNat + (j - -149).toNat) ≤ units FloatKind.f32.format.binade r * 2 ^ (-149 - (i + j)).toNat * 2 ^ ((i - -149).toNat + (j - -149).toNat) := by
        rw [Nat.mul_assoc (units FloatKind.f32.format.binade r), ← Nat.pow_add, ← e2]; exact hab
      exact Nat.le_of_mul_le_mul_right h' (Nat.two_pow_pos _)
  obtain ⟨r', k1, k2, k3⟩ := nearest_le .f32 (negB .f32 x ^^ negB .f32 y) key
  rw [inf32] at k2
  have k4 := nan_word (negB .f32 x ^^ negB .f32 y) k2
  rw [← k3] at k4
  refine ⟨⟨k4.1, ?_⟩, ?_⟩
  · exact Nat.lt_of_le_of_lt (Nat.le_of_eq k4.2.2) (Nat.lt_of_le_of_lt k1 hr)
  · exact Nat.le_trans (Nat.le_of_eq k4.2.2) k1
theorem Fin.num {x : Nat} (h : Fin x) : isNum x = true := by
  obtain ⟨m, e, h1, _⟩ := fin_read h
  unfold isNum; rw [h1]
theorem Bd.num {x r : Nat} (h : Bd x r) : isNum x = true := h.1.num
theorem num_fin {x : Nat} (h : isNum x = true) : Fin x := by
  have hn := nan_num h
  rcases read_cases .f32 x hn with ⟨m, e, h1, _, _, h4⟩ | ⟨h1, _⟩
  · rw [inf32] at h4; exact ⟨hn, h4⟩
  · unfold isNum at h; rw [h1] at h; cases h
theorem num_bd {x : Nat} (h : isNum x = true) : Bd x 2139095039 := ⟨num_fin h, by have := (num_fin h).2; omega⟩
theorem write_inf (s : Bool) : isNum (FloatKind.f32.format.write (.infinity s)) = false := by cases s <;> decide +kernel
theorem mul_num {x y : Nat} (h : isNum (fops.bin .mul .f32 x y) = true) : isNum x = true ∧ isNum y = true := by
  have hdef : fops.bin .mul .f32 x y = (((FloatKind.f32.format.read x).product (FloatKind.f32.format.read y)).map FloatKind.f32.format.write).getD (qnan .f32) := rfl
  have hq : isNum (qnan .f32) = false := by decide +kernel
  rw [hdef] at h
  unfold isNum
  cases h1 : FloatKind.f32.format.read x <;> cases h2 : FloatKind.f32.format.read y <;> rw [h1, h2] at h <;> simp only [Ieee.Datum.product] at h <;> first
    | exact ⟨rfl, rfl⟩
    | (simp only [Option.map_none, Option.getD_none, hq] at h; cases h)
    | (simp only [Option.map_some, Option.getD_some, write_inf] at h; cases h)
    | (split at h <;> first
        | (simp only [Option.map_none, Option.getD_none, hq] at h; cases h)
        | (simp only [Option.map_some, Option.getD_some, write_inf] at h; cases h))
/-! ### of words that are not negative -/
theorem word_of {z r : Nat} (hc : Cn .f32 z) (hn : negB .f32 z = false) (hr : rung .f32 z ≤ r) : z ≤ r := by
  have hlt : z < 4294967296 := hc.lt
  unfold negB rung at *
  rw [sw32] at *
  simp at hn
  omega
theorem add_amt {x y a b r : Nat} (hx : x ≤ a) (hy : y ≤ b) (ha : a < 2139095040) (hb : b < 2139095040) (h : un a + un b ≤ un r) : fops.bin .add .f32 x y ≤ r := by
  have fx := bd_small hx ha
  have fy := bd_small hy hb
  obtain ⟨h1, h2⟩ := add_form fx.1 fy.1
  have nx := neg_small (x := x) (by omega)
  have ny := neg_small (x := y) (by omega)
  rw [val_small (x := x) (by omega), val_small (x := y) (by omega)] at h1 h2
  refine word_of bin_cn ?_ (h1.le r ?_)
  · rcases Int.lt_or_le 0 ((units FloatKind.f32.format.binade x : Nat) + (units FloatKind.f32.format.binade y : Nat) : Int) with h3 | h3
    · exact h1.pos h3
    · exact h2 nx ny (by omega)
  · have a1 : un x ≤ un a := un_le hx
    have a2 : un y ≤ un b := un_le hy
    unfold un at *
    omega
theorem sub_amt {x y : Nat} (hx : x < 2139095040) (h : y ≤ x) : fops.bin .sub .f32 x y ≤ x := by
  have fx := fin_small hx
  have fy := fin_small (x := y) (by omega)
  obtain ⟨h1, h2⟩ := sub_form fx fy
  rw [val_small (x := x) (by omega), val_small (x := y) (by omega)] at h1 h2
  have a1 : un y ≤ un x := un_le h
  unfold un at a1
  refine word_of bin_cn ?_ (h1.le x (by unfold un; omega))
  rcases Int.lt_or_le 0 ((units FloatKind.f32.format.binade x : Nat) - (units FloatKind.f32.format.binade y : Nat) : Int) with h3 | h3
  · exact h1.pos h3
  · exact h2 (neg_small (by omega)) (by omega)
theorem gtr_nan_l {x y : Nat} (h : nanb .f32 x = true) : fops.cmp .gtr .f32 x y = false := by rw [cmp_gtr, h]; rfl
theorem sub_inf' {x y : Nat} (h : x < 2139095040) (g2 : FloatKind.f32.format.read y = .infinity false) : fops.bin .sub .f32 x y = FloatKind.f32.format.write (.infinity true) := by
  obtain ⟨m, i, g1, _⟩ := fin_read (fin_small h)
  have hdef : fops.bin .sub .f32 x y = (((FloatKind.f32.format.read x).sum (FloatKind.f32.format.read y).opposite).map FloatKind.f32.format.write).getD (qnan .f32) := rfl
  rw [hdef, g1, g2]
  simp only [Ieee.Datum.opposite, Ieee.Datum.sum, Option.map_some, Option.getD_some, Bool.not_false]
theorem inf_not_gt {c : Nat} (hc : c < 2139095040) : fops.cmp .gtr .f32 (FloatKind.f32.format.write (.infinity true)) c = false := by
  have kc : key .f32 c = c := by unfold key; rw [neg_small (by omega), rung_small (by omega)]; rfl
  have k2 : key .f32 (FloatKind.f32.format.write (.infinity true)) = -2139095040 := by decide +kernel
  rw [cmp_gtr, kc, k2, decide_eq_false (by omega), Bool.and_false]
theorem gtr_of_key {z c : Nat} (hc : c < 2139095040) (h : key .f32 z ≤ c) : fops.cmp .gtr .f32 z c = false := by
  have kc : key .f32 c = c := by unfold key; rw [neg_small (by omega), rung_small (by omega)]; rfl
  rw [cmp_gtr, kc, decide_eq_false (by omega), Bool.and_false]
/-- A number less something that is not negative. -/
theorem sub_not_gt {x y c : Nat} (hx : x ≤ c) (hc : c < 2139095040) (hy : y < 2147483648) : fops.cmp .gtr .f32 (fops.bin .sub .f32 x y) c = false := by
  by_cases hn : nanb .f32 y = true
  · refine gtr_nan_l ?_
    obtain ⟨s, t, hd⟩ := nan_read hn
    have : fops.bin .sub .f32 x y = qnan .f32 := by
      show (((FloatKind.f32.format.read x).sum (FloatKind.f32.format.read y).opposite).map FloatKind.f32.format.write).getD (qnan .f32) = _
      rw [hd]
      cases FloatKind.f32.format.read x <;> rfl
    rw [this]; exact qnan_nan .f32
  · have hn' : nanb .f32 y = false := by simpa using hn
    by_cases hf : y < 2139095040
    · refine gtr_of_key hc ?_
      obtain ⟨h1, _⟩ := sub_form (fin_small (x := x) (by omega)) (fin_small hf)
      rw [val_small (x := x) (by omega), val_small (x := y) (by omega)] at h1
      generalize hu : units FloatKind.f32.format.binade x = a at h1
      generalize units FloatKind.f32.format.binade y = b at h1
      generalize fops.bin .sub .f32 x y = z at h1
      unfold key
      cases hs : negB .f32 z with
      | true => simp only [cond_true]; omega
      | false =>
        simp only [cond_false]
        have hpos : (0 : Int) ≤ (a : Int) - b := by
          rcases Int.lt_or_le ((a : Int) - b) 0 with h3 | h3
          · rw [h1.neg h3] at hs; cases hs
          · exact h3
        have := h1.le x (by show _ ≤ units _ _; rw [hu]; omega)
        omega
    · have hi : FloatKind.f32.format.read y = .infinity false := by
        rcases read_cases .f32 y hn' with ⟨_, _, _, _, _, h4⟩ | ⟨h3, h4⟩
        · rw [rung_small hy, inf32] at h4; exact absurd h4 hf
        · rw [neg_small hy] at h3; exact h3
      rw [sub_inf' (by omega) hi]
      exact inf_not_gt hc
/-- A quotient of two that are not negative is not negative. -/
theorem quo_pos {x y : Nat} (hx : x < 2147483648) (hy : y < 2147483648) : fops.bin .quo .f32 x y < 2147483648 := by
  have hdef : fops.bin .quo .f32 x y = (((FloatKind.f32.format.read x).quotient (FloatKind.f32.format.fractionBits + 2) (FloatKind.f32.format.read y)).map FloatKind.f32.format.write).getD (qnan .f32) := rfl
  have sgn : ∀ {z : Nat}, z < 2147483648 → (FloatKind.f32.format.read z).neg = false := by
    intro z hz
    cases hn : nanb .f32 z with
    | true =>
      unfold Ieee.Format.read
      have : (z / FloatKind.f32.format.signWeight % 2 == 1) = false := neg_small hz
      dsimp only
      rw [this]
      split
      · rfl
      · split
        · rfl
        · split <;> rfl
    | false =>
      rcases read_cases .f32 z hn with ⟨m, e, h1, _⟩ | ⟨h1, _⟩ <;> rw [h1] <;> exact neg_small hz
  have wr : ∀ d : Ieee.Datum, d.neg = false → d.isNaN = false → FloatKind.f32.format.write d < 2147483648 := by
    intro d h1 h2
    cases d with
    | nan s t => cases h2
    | infinity s => cases h1; rw [Ieee.Format.write, word_false, inf32]; decide
    | number s m e =>
      cases h1
      simp only [Ieee.Format.write, Ieee.Format.nearest]
      split
      · rw [word_false]; decide
      · rw [word_false]
        exact Nat.lt_of_le_of_lt (Nat.min_le_right _ _) (by rw [inf32]; decide)
  rw [hdef]
  cases hp : (FloatKind.f32.format.read x).quotient (FloatKind.f32.format.fractionBits + 2) (FloatKind.f32.format.read y) with
  | none => decide +kernel
  | some d =>
    refine wr d ?_ (quotient_not_nan hp)
    have g1 := sgn hx
    have g2 := sgn hy
    cases h1 : FloatKind.f32.format.read x <;> cases h2 : FloatKind.f32.format.read y <;> rw [h1] at hp g1 <;> rw [h2] at hp g2 <;> simp only [Ieee.Datum.neg] at g1 g2 <;> subst g1 <;> subst g2 <;> simp only [Ieee.Datum.quotient] at hp <;> first
      | (cases hp; done)
      | (cases hp; rfl)
      | (split at hp <;> first | (cases hp; done) | (cases hp; rfl) | (split at hp <;> first | (cases hp; done) | (cases hp; rfl)))
end Go.Proofs.Ytaoeigofmfpamaa
end

/- Sizes of floats, told in two ways. Nothing is assumed. -/
section
namespace Go.Proofs.Ytaoeigofmfpamaa
open Go
noncomputable section
theorem read_opp {r : Nat} (h : r < 2147483648) : (FloatKind.f32.format.read (2147483648 + r)).opposite = FloatKind.f32.format.read r := by
  have h1 : (2147483648 + r) % FloatKind.f32.format.signWeight = r := by rw [sw32]; omega
  have h2 : ((2147483648 + r) / FloatKind.f32.format.signWeight % 2 == 1) = true := by rw [sw32]; simp; omega
  have h3 : r % FloatKind.f32.format.signWeight = r := by rw [sw32]; omega
  have h4 : (r / FloatKind.f32.format.signWeight % 2 == 1) = false := by rw [sw32]; simp; omega
  unfold Ieee.Format.read
  simp only [h1, h2, h3, h4]
  by_cases a : r < FloatKind.f32.format.binade
  · rw [if_pos a, if_pos a]; rfl
  · rw [if_neg a, if_neg a]
    by_cases b : r < FloatKind.f32.format.infRung
    · rw [if_pos b, if_pos b]; rfl
    · rw [if_neg b, if_neg b]
      by_cases c : r = FloatKind.f32.format.infRung
      · rw [if_pos c, if_pos c]; rfl
      · rw [if_neg c, if_neg c]; rfl
theorem key0 : key .f32 0 = 0 := by decide +kernel
theorem nan0 : nanb .f32 0 = false := by decide +kernel
theorem negB_bit (x : Nat) : negB .f32 x = x.testBit 31 := by
  unfold negB
  rw [sw32, Nat.testBit_eq_decide_div_mod_eq]
  show (x / 2147483648 % 2 == 1) = decide (x / 2 ^ 31 % 2 = 1)
  rw [show (2 ^ 31 : Nat) = 2147483648 from rfl]
  rw [Bool.eq_iff_iff]; simp
theorem neg_facts {x : Nat} (hn : nanb .f32 x = false) : nanb .f32 (fops.neg .f32 x) = false ∧ rung .f32 (fops.neg .f32 x) = rung .f32 x ∧ negB .f32 (fops.neg .f32 x) = !negB .f32 x := by
  have h1 : nanb .f32 (Op.negFloat .f32 x) = false := by unfold nanb at *; rw [neg_nan]; exact hn
  have h2 : fops.neg .f32 x = Op.negFloat .f32 x := can_of_nanb h1
  rw [h2]
  refine ⟨h1, ?_, ?_⟩
  · unfold rung Op.negFloat Ieee.Format.signWeight
    rw [Nat.xor_mod_two_pow]; simp
  · rw [negB_bit, negB_bit]
    unfold Op.negFloat
    rw [Nat.testBit_xor]
    have : (2 ^ (FloatKind.f32.format.exponentBits + FloatKind.f32.format.fractionBits) : Nat).testBit 31 = true := by decide +kernel
    rw [this]; cases x.testBit 31 <;> rfl
theorem key_of (x : Nat) : key .f32 x = bif negB .f32 x then -(rung .f32 x : Int) else rung .f32 x := rfl
theorem szI_key {x : Nat} (hn : nanb .f32 x = false) : nanb .f32 (szI fops x) = false ∧ key .f32 (szI fops x) = rung .f32 x := by
  unfold szI
  rw [cmp_lss, hn, nan0, key0]
  obtain ⟨n1, n2, n3⟩ := neg_facts hn
  by_cases h : key .f32 x < 0
  · rw [decide_eq_true h]
    refine ⟨n1, ?_⟩
    show key .f32 (fops.neg .f32 x) = _
    rw [key_of] at h
    rw [key_of, n2, n3]
    cases hb : negB .f32 x
    · rw [hb] at h; simp only [cond_false] at h; omega
    · rfl
  · rw [decide_eq_false h]
    refine ⟨hn, ?_⟩
    show key .f32 x = _
    rw [key_of] at h ⊢
    cases hb : negB .f32 x
    · rfl
    · rw [hb] at h; simp only [cond_true] at h ⊢; omega
theorem szI_nan {x : Nat} (hn : nanb .f32 x = true) : szI fops x = x := by
  unfold szI; rw [cmp_lss, hn]; rfl
theorem aI_nan {x : Nat} (hn : nanb .f32 x = true) : aI fops x = x := by
  unfold aI; rw [cmp_leq, hn]; rfl
theorem sub0_zero : fops.bin .sub .f32 0 0 = 0 := by
  show (((FloatKind.f32.format.read 0).sum (FloatKind.f32.format.read 0).opposite).map FloatKind.f32.format.write).getD (qnan .f32) = 0
  decide +kernel
theorem aI_key {x : Nat} (hx : x < 4294967296) (hn : nanb .f32 x = false) : nanb .f32 (aI fops x) = false ∧ key .f32 (aI fops x) = rung .f32 x := by
  unfold aI
  rw [cmp_leq, hn, nan0, key0]
  by_cases h : key .f32 x ≤ 0
  · rw [decide_eq_true h]
    show nanb .f32 (fops.bin .sub .f32 0 x) = false ∧ key .f32 (fops.bin .sub .f32 0 x) = _
    rw [key_of] at h
    by_cases hb : negB .f32 x = true
    · -- a minus
      have hd : x / 2147483648 % 2 = 1 := by
        have : (x / FloatKind.f32.format.signWeight % 2 == 1) = true := hb
        rw [sw32] at this; simpa using this
      obtain ⟨r, rfl, hr⟩ : ∃ r, x = 2147483648 + r ∧ r < 2147483648 := ⟨x - 2147483648, by omega, by omega⟩
      have hrr : rung .f32 (2147483648 + r) = r := by unfold rung; rw [sw32]; omega
      have hnr : nanb .f32 r = false := by
        have h1 := hn
        unfold nanb FloatKind.decode at h1 ⊢
        rw [read_nan, sw32] at h1 ⊢
        rw [show (2147483648 + r) % 2147483648 = r % 2147483648 by omega] at h1
        exact h1
      have hcn : Cn .f32 r := ⟨r, by rw [show FloatKind.f32.format.width = 32 from rfl]; omega, can_of_nanb hnr⟩
      have e : fops.bin .sub .f32 0 (2147483648 + r) = r := by
        show (((FloatKind.f32.format.read 0).sum (FloatKind.f32.format.read (2147483648 + r)).opposite).map FloatKind.f32.format.write).getD (qnan .f32) = r
        rw [read_opp hr]
        exact (add_zero hcn hr).2
      rw [e, hrr]
      refine ⟨hnr, ?_⟩
      rw [key_of, neg_small hr, rung_small hr]; rfl
    · have hb' : negB .f32 x = false := by simpa using hb
      rw [hb'] at h
      simp only [cond_false] at h
      have hr0 : rung .f32 x = 0 := by omega
      have : x = 0 := by
        have h1 : (x / FloatKind.f32.format.signWeight % 2 == 1) = false := hb'
        have h2 : x % FloatKind.f32.format.signWeight = 0 := hr0
        rw [sw32] at h1 h2
        simp at h1
        omega
      subst this
      rw [sub0_zero]
      exact ⟨nan0, by rw [key0, hr0]; rfl⟩
  · rw [decide_eq_false h]
    refine ⟨hn, ?_⟩
    show key .f32 x = _
    rw [key_of] at h ⊢
    cases hb : negB .f32 x
    · rfl
    · rw [hb] at h; simp only [cond_true] at h ⊢; omega
/-- Which is greater: told alike. -/
theorem gt_same {x y : Nat} (hx : x < 4294967296) (hy : y < 4294967296) : fops.cmp .gtr .f32 (szI fops x) (szI fops y) = fops.cmp .gtr .f32 (aI fops x) (aI fops y) := by
  rw [cmp_gtr, cmp_gtr]
  cases hnx : nanb .f32 x with
  | true => rw [szI_nan hnx, aI_nan hnx, hnx]; rfl
  | false =>
    obtain ⟨a1, a2⟩ := szI_key hnx
    obtain ⟨b1, b2⟩ := aI_key hx hnx
    rw [a1, a2, b1, b2]
    cases hny : nanb .f32 y with
    | true => rw [szI_nan hny, aI_nan hny, hny]
    | false =>
      obtain ⟨c1, c2⟩ := szI_key hny
      obtain ⟨d1, d2⟩ := aI_key hy hny
      rw [c1, c2, d1, d2]
theorem gt_irr (x : Nat) : fops.cmp .gtr .f32 x x = false := by
  rw [cmp_gtr, decide_eq_false (Int.lt_irrefl _), Bool.and_false]
/-- A pivot that is nothing. -/
theorem piv0 {x : Nat} (hx : x < 4294967296) (hn : nanb .f32 x = false) : fops.cmp .eql .f32 x 0 = !fops.cmp .gtr .f32 (aI fops x) 0 := by
  obtain ⟨b1, b2⟩ := aI_key hx hn
  rw [cmp_eql, cmp_gtr, hn, nan0, b1, b2, key0]
  simp only [Bool.not_false, Bool.true_and]
  rw [key_of]
  by_cases h : rung .f32 x = 0
  · rw [h]
    cases negB .f32 x <;> rfl
  · rw [decide_eq_true (by omega : (0 : Int) < (rung .f32 x : Int))]
    refine decide_eq_false ?_
    cases negB .f32 x
    · show ¬ (rung .f32 x : Int) = 0; omega
    · show ¬ -(rung .f32 x : Int) = 0; omega
theorem pivN {x : Nat} (hn : nanb .f32 x = true) : fops.cmp .eql .f32 x 0 = false ∧ fops.cmp .gtr .f32 (aI fops x) 0 = false := by
  rw [cmp_eql, aI_nan hn, cmp_gtr, hn]; exact ⟨rfl, rfl⟩
theorem quoN {a x : Nat} (hn : nanb .f32 x = true) : isNum (fops.bin .quo .f32 a x) = false := by
  show isNum ((floatBits .quo .f32 a x).getD (qnan .f32)) = false
  rw [floatBits_nan_r .quo .f32 a hn]
  decide +kernel
end
end Go.Proofs.Ytaoeigofmfpamaa
end

/- SolveHeats: both compute the same. Nothing is assumed. -/
section
namespace Go.Proofs.Ytaoeigofmfpamaa
open Go
noncomputable section
/-- The reference's table holds the right side in its last column. -/
structure RelT (N : Nat) (X : Nat → Int → Nat) (r : Int → Nat) (M : Nat → Int → Nat) : Prop where
  eq : ∀ p, p < N → ∀ c : Int, 0 ≤ c → c < N → M p c = X p c
  rt : ∀ p, p < N → M p N = r p
  lt : ∀ p, p < N → ∀ c : Int, 0 ≤ c → c < N → X p c < 4294967296
theorem bin_lt {op : BinOp} {x y : Nat} : fops.bin op .f32 x y < 4294967296 := by
  have := (bin_cn (op := op) (k := .f32) (x := x) (y := y)).lt
  rw [show FloatKind.f32.format.width = 32 from rfl] at this
  exact this
theorem RelT.col {N : Nat} {X M : Nat → Int → Nat} {r : Int → Nat} (h : RelT N X r M) {p k : Nat} (hp : p < N) (hk : k < N) : M p k = X p k := h.eq p hp k (by omega) (by omega)
theorem piv_same {N : Nat} {X M : Nat → Int → Nat} {r : Int → Nat} (h : RelT N X r M) {k : Nat} (hk : k < N) : ∀ m i b, i + m = N → b < N → pvSL fops M k m i b = pivL fops X k m i b
  | 0, _, _, _, _ => rfl
  | m + 1, i, b, hm, hb => by
    show pvSL fops M k m (i + 1) _ = pivL fops X k m (i + 1) _
    have e : fops.cmp .gtr .f32 (aI fops (M i k)) (aI fops (M b k)) = fops.cmp .gtr .f32 (szI fops (X i k)) (szI fops (X b k)) := by
      rw [h.col (by omega) hk, h.col hb hk, gt_same (h.lt i (by omega) k (by omega) (by omega)) (h.lt b hb k (by omega) (by omega))]
    rw [e]
    refine piv_same h hk m (i + 1) _ (by omega) ?_
    cases fops.cmp .gtr .f32 (szI fops (X i k)) (szI fops (X b k))
    · exact hb
    · show i < N; omega
theorem piv_eq {N : Nat} {X M : Nat → Int → Nat} {r : Int → Nat} (h : RelT N X r M) {k : Nat} (hk : k < N) : pvSL fops M k (N - (k + 1)) (k + 1) k = pivL fops X k (N - k) k k := by
  have e : pivL fops X k (N - k) k k = pivL fops X k (N - (k + 1)) (k + 1) k := by
    rw [show N - k = (N - (k + 1)) + 1 by omega]
    show pivL fops X k (N - (k + 1)) (k + 1) (bif fops.cmp .gtr .f32 (szI fops (X k k)) (szI fops (X k k)) then k else k) = _
    rw [Bool.cond_self]
  rw [e]
  exact piv_same h hk _ _ _ (by omega) hk
theorem pivL_ge (O : FOps) (X : Nat → Int → Nat) (k : Nat) : ∀ m i b, k ≤ i → k ≤ b → k ≤ pivL O X k m i b
  | 0, _, _, _, h => h
  | m + 1, i, b, hi, hb => pivL_ge O X k m (i + 1) _ (by omega) (by
      cases O.cmp .gtr .f32 (szI O (X i k)) (szI O (X b k))
      · exact hb
      · exact hi)
theorem RelT.sw {N : Nat} {X M : Nat → Int → Nat} {r : Int → Nat} (h : RelT N X r M) {k b : Nat} (hk : k < N) (hb : b < N) : RelT N (Proofs.Ytaoeigofmfpamaa.sw X k b) (swI r k b) (Proofs.Ytaoeigofmfpamaa.sw M k b) := by
  refine ⟨fun p hp c h0 h1 => ?_, fun p hp => ?_, fun p hp c h0 h1 => ?_⟩
  · unfold Proofs.Ytaoeigofmfpamaa.sw
    split
    · exact h.eq k hk c h0 h1
    · split
      · exact h.eq b hb c h0 h1
      · exact h.eq p hp c h0 h1
  · unfold Proofs.Ytaoeigofmfpamaa.sw swI
    by_cases e : p = b
    · subst e
      rw [if_pos rfl, decide_eq_true rfl]; exact h.rt k hk
    · rw [if_neg e, decide_eq_false (by omega : ¬ (p : Int) = (b : Int))]
      by_cases e' : p = k
      · subst e'
        rw [if_pos rfl, decide_eq_true rfl]; exact h.rt b hb
      · rw [if_neg e', decide_eq_false (by omega : ¬ (p : Int) = (k : Int))]; exact h.rt p hp
  · unfold Proofs.Ytaoeigofmfpamaa.sw
    split
    · exact h.lt k hk c h0 h1
    · split
      · exact h.lt b hb c h0 h1
      · exact h.lt p hp c h0 h1
theorem RelT.el {N : Nat} {X M : Nat → Int → Nat} {r : Int → Nat} (h : RelT N X r M) {k : Nat} (hk : k < N) : RelT N (elX fops N k X N) (elR fops k X r N) (elS fops N k M N) := by
  have hq : ∀ p, p < N → quoK fops M k p = quoK fops X k p := fun p hp => by
    unfold quoK; rw [h.col hp hk, h.col hk hk]
  refine ⟨fun p hp c h0 h1 => ?_, fun p hp => ?_, fun p hp c h0 h1 => ?_⟩
  · unfold elS elX
    by_cases e : p < N ∧ p ≠ k
    · rw [if_pos e, if_pos e, hq p hp]
      unfold elRow
      by_cases e' : (k : Int) ≤ c ∧ c < (N : Int)
      · rw [if_pos (by omega), if_pos e', h.eq p hp c h0 h1, h.eq k hk c h0 h1]
      · rw [if_neg (by omega), if_neg e', h.eq p hp c h0 h1]
    · rw [if_neg e, if_neg e]; exact h.eq p hp c h0 h1
  · unfold elS elR
    by_cases e : p ≠ k
    · rw [if_pos ⟨hp, e⟩, if_pos (by omega), hq p hp]
      unfold elRow
      rw [if_pos (by omega), h.rt p hp, h.rt k hk]; rfl
    · rw [if_neg (fun h => e h.2), if_neg (by omega)]; exact h.rt p hp
  · unfold elX
    by_cases e : p < N ∧ p ≠ k
    · rw [if_pos e]
      unfold elRow
      by_cases e' : (k : Int) ≤ c ∧ c < (N : Int)
      · rw [if_pos e']; exact bin_lt
      · rw [if_neg e']; exact h.lt p hp c h0 h1
    · rw [if_neg e]; exact h.lt p hp c h0 h1
/-- A pivot that is no number stays where it is. -/
theorem stay {N : Nat} {j : Nat} (hj : j < N) : ∀ m k X r X' r', k + m = N → j < k → solveI fops N m k X r = some (X', r') → X' j j = X j j
  | 0, k, X, r, X', r', _, _, h => by cases h; rfl
  | m + 1, k, X, r, X', r', hm, hjk, h => by
    unfold solveI at h
    cases hs : stepK fops N k X r with
    | none => rw [hs] at h; cases h
    | some p =>
      rw [hs] at h
      have h1 := stay hj m (k + 1) p.1 p.2 X' r' (by omega) (by omega) h
      rw [h1]
      unfold stepK at hs
      generalize hb : pivL fops X k (N - k) k k = b at hs
      have hge : k ≤ b := by rw [← hb]; exact pivL_ge fops X k _ _ _ (Nat.le_refl _) (Nat.le_refl _)
      cases hz : fops.cmp .eql .f32 (X b k) 0 with
      | true => rw [hz] at hs; cases hs
      | false =>
        rw [hz] at hs
        cases hs
        show elX fops N k (sw X k b) N j j = X j j
        have e1 : sw X k b j = X j := by unfold sw; rw [if_neg (by omega), if_neg (by omega)]
        unfold elX
        rw [if_pos (by omega)]
        unfold elRow
        rw [if_neg (by omega), e1]
theorem finN_no {N : Nat} {z : Int → Nat} {j : Nat} (hj : j < N) (h : isNum (z j) = false) : Fnr.finN isNum N (fr z) = false := by
  unfold Fnr.finN
  cases hq : eqFrom (fun k => isNum (datF (fr z) 0 k)) 0 (Int.toNat (N : Int)) with
  | false => rfl
  | true =>
    have := eqFrom_at hq (j : Int) (by omega) (by omega)
    have h2 : isNum (z j) = true := this
    rw [h] at h2; cases h2
/-- Both come to the same. -/
def SameR (N : Nat) (a b : Option (Int → Nat)) : Prop :=
  (a = none ∧ b = none) ∨ ∃ z z', a = some z ∧ b = some z' ∧ ∀ c : Int, 0 ≤ c → c < N → z c = z' c
theorem finN_congr {N : Nat} {z z' : Int → Nat} (h : ∀ c : Int, 0 ≤ c → c < N → z c = z' c) : Fnr.finN isNum N (fr z) = Fnr.finN isNum N (fr z') := by
  unfold Fnr.finN
  rw [eqFrom_congr (q := fun k => isNum (datF (fr z) 0 k)) (q' := fun k => isNum (datF (fr z') 0 k)) _ _ fun j h0 h1 => by
    show isNum (z j) = isNum (z' j)
    rw [h j h0 (by omega)]]
theorem solve_same {N : Nat} : ∀ m k X r M, k + m = N → RelT N X r M →
    SameR N (match solveI fops N m k X r with | none => none | some p => bif Fnr.finN isNum N (fr (zf fops p.1 p.2)) then some (zf fops p.1 p.2) else none)
      (match solveS fops N m k M with | none => none | some p => bif Fnr.finN isNum N (fr (zS fops N p)) then some (zS fops N p) else none)
  | 0, k, X, r, M, hm, h => by
    have e : ∀ c : Int, 0 ≤ c → c < N → zf fops X r c = zS fops N M c := fun c h0 h1 => by
      unfold zf zS
      have hc : c.toNat < N := by omega
      rw [h.rt c.toNat hc, h.eq c.toNat hc c h0 h1, Int.toNat_of_nonneg h0]
    show SameR N (bif Fnr.finN isNum N (fr (zf fops X r)) then some (zf fops X r) else none) (bif Fnr.finN isNum N (fr (zS fops N M)) then some (zS fops N M) else none)
    rw [finN_congr e]
    cases Fnr.finN isNum N (fr (zS fops N M))
    · exact .inl ⟨rfl, rfl⟩
    · exact .inr ⟨_, _, rfl, rfl, e⟩
  | m + 1, k, X, r, M, hm, h => by
    have hk : k < N := by omega
    have hb := piv_eq h hk
    have hbN : pivL fops X k (N - k) k k < N := pivL_lt fops X k N (N - k) k k (by omega) hk
    unfold solveI solveS stepK stepS
    rw [hb]
    generalize hbe : pivL fops X k (N - k) k k = b at hbN ⊢
    have hsw := h.sw hk hbN
    have e1 : Proofs.Ytaoeigofmfpamaa.sw M k b k k = X b k := by
      have h1 := hsw.col hk hk
      rw [h1]
      unfold sw
      split
      · rename_i h2; rw [h2]
      · rw [if_pos rfl]
    rw [e1]
    have hlt := h.lt b hbN k (by omega) (by omega)
    cases hn : nanb .f32 (X b k) with
    | false =>
      have hp := piv0 hlt hn
      cases hz : fops.cmp .gtr .f32 (aI fops (X b k)) 0 with
      | false =>
        rw [hz] at hp
        rw [hp]
        exact .inl ⟨rfl, rfl⟩
      | true =>
        rw [hz] at hp
        rw [hp]
        exact solve_same m (k + 1) _ _ _ (by omega) (hsw.el hk)
    | true =>
      obtain ⟨p1, p2⟩ := pivN hn
      rw [p1, p2]
      refine .inl ⟨?_, rfl⟩
      show (match solveI fops N m (k + 1) (elX fops N k (sw X k b) N) (elR fops k (sw X k b) (swI r k b) N) with | none => none | some p => bif Fnr.finN isNum N (fr (zf fops p.1 p.2)) then some (zf fops p.1 p.2) else none) = none
      cases hs : solveI fops N m (k + 1) (elX fops N k (sw X k b) N) (elR fops k (sw X k b) (swI r k b) N) with
      | none => rfl
      | some p =>
        have h1 := stay hk m (k + 1) _ _ p.1 p.2 (by omega) (by omega) hs
        have h2 : elX fops N k (sw X k b) N k k = X b k := by
          have : sw X k b k k = X b k := by
            unfold sw
            split
            · rename_i h2; rw [h2]
            · rw [if_pos rfl]
          unfold elX
          rw [if_neg (by omega)]; exact this
        rw [h2] at h1
        have h3 : isNum (zf fops p.1 p.2 k) = false := by
          unfold zf
          rw [Int.toNat_natCast, h1]
          exact quoN hn
        show (bif Fnr.finN isNum N (fr (zf fops p.1 p.2)) then some (zf fops p.1 p.2) else none) = none
        rw [finN_no hk h3]; rfl
theorem res_same {N : Nat} {R : Nat → Int → List SC} {y : Int → Nat} (hlt : ∀ p, p < N → ∀ c : Int, 0 ≤ c → c < N → datF (R p) 0 c < 4294967296) :
    SameR N (resI fops isNum N (fun p => datF (R p) 0) y) (resS fops isNum N (extM N R y)) := by
  refine solve_same N 0 _ _ _ (by omega) ⟨fun p hp c h0 h1 => ?_, fun p hp => ?_, hlt⟩
  · unfold extM extR
    rw [decide_eq_true (by omega : c < (N : Int))]; rfl
  · unfold extM extR
    rw [decide_eq_false (by omega : ¬ (N : Int) < (N : Int))]; rfl
end
end Go.Proofs.Ytaoeigofmfpamaa
end

/- The law's pieces. Nothing is assumed. -/
section
namespace Go.Proofs.Ytaoeigofmfpamaa
open Go
noncomputable section
noncomputable abbrev lwF : Func := Try.f7
noncomputable def lwB : Code := bodyC lwF
noncomputable def cT : Code → Code
  | .cond _ x _ => x
  | c => c
/-- The code from its 'n'th part on. -/
noncomputable def sfx : Nat → Code
  | 0 => lwB
  | n + 1 => cR (sfx n)
noncomputable def LLq (O : FOps) : List (Nat × CS) := [(22, SlFloat32.toC O), (24, SlFloat32.eqC O), (26, SlFloat32.maC O), (27, SlFloat32.heC O)]
theorem okLq : AllOK Try.prog (LLq fops) := ⟨SlFloat32.cToC, SlFloat32.cEqC, SlFloat32.cMaC, SlFloat32.cHeC, trivial⟩
set_option maxRecDepth 100000 in
theorem lw_n : lwF.ntmps = 117 := by kernel_rfl
set_option maxRecDepth 100000 in
theorem lw_shape : lwF.body = some (.seq (cL (sfx 0)) (.seq (cL (sfx 1)) (.seq (cL (sfx 2)) (.seq (cL (sfx 3)) (.seq (cL (sfx 4)) (.seq (cL (sfx 5)) (.seq (cL (sfx 6)) (.seq (cL (sfx 7)) (.seq (cL (sfx 8)) (.seq (cL (sfx 9)) (.seq (.seq (cL (cL (sfx 10))) (.cond (.tmp 56) (cT (cR (cL (sfx 10)))) .skip)) (.seq (cL (sfx 11)) (.seq (cL (sfx 12)) (.seq (cL (sfx 13)) (.seq (cL (sfx 14)) (.seq (cL (sfx 15)) (.seq (cL (sfx 16)) (.seq (cL (sfx 17)) (.seq (cL (sfx 18)) (.seq (cL (sfx 19)) (.seq (cL (sfx 20)) (.seq (cL (sfx 21)) (.seq (cL (sfx 22)) (sfx 23)))))))))))))))))))))))) := by kernel_rfl
abbrev sL (i : Nat) (len : SI) : SV := .c (.sl i 0 1 len true)
set_option maxRecDepth 100000 in
theorem L0 (O : FOps) (f : Bool) (n m : Int) : runV (cxA O []) lwF.ntmps ⟨off, fun _ => none⟩ (cL (sfx 0)) [(0, sI 2 n), (1, .c (.sl 3 0 1 (.s m) f))] [] 10 0 [0, 1] [] =
    some (none, [sI 2 n, .c (.sl 3 0 1 (.s m) f)], [], []) := by kernel_rfl
set_option maxRecDepth 100000 in
theorem L1t (O : FOps) (f : Bool) (n m : Int) : runV (cxA O []) lwF.ntmps ⟨on1 19 true, fun _ => none⟩ (cL (sfx 1)) [(0, sI 2 n), (1, .c (.sl 3 0 1 (.s m) f))] [] 10 0 [4] [] =
    some (some .ret, [.c (.bool .t)], [], [decide (1048576 < m), true]) := by kernel_rfl
set_option maxRecDepth 100000 in
theorem L1f (O : FOps) (f : Bool) (n m : Int) : runV (cxA O []) lwF.ntmps ⟨on1 19 false, fun _ => none⟩ (cL (sfx 1)) [(0, sI 2 n), (1, .c (.sl 3 0 1 (.s m) f))] [] 10 0 [0, 1] [] =
    some (none, [sI 2 n, .c (.sl 3 0 1 (.s m) f)], [], [!decide (1048576 < m)]) := by kernel_rfl
set_option maxRecDepth 100000 in
theorem L3 (O : FOps) (f : Bool) (n m : Int) : runV (cxA O []) lwF.ntmps ⟨off, fun _ => none⟩ (cL (sfx 2)) [(0, sI 2 n), (1, .c (.sl 3 0 1 (.s m) f))] [] 10 0 [0, 1, 5] [] =
    some (none, [sI 2 n, .c (.sl 3 0 1 (.s m) f), .c (.int .i64 (.c 1048576))], [], []) := by kernel_rfl
set_option maxRecDepth 100000 in
theorem L5t (O : FOps) (f : Bool) (n m u : Int) : runV (cxA O []) lwF.ntmps ⟨on1 24 true, fun _ => none⟩ (cL (sfx 4)) [(0, sI 2 n), (1, .c (.sl 3 0 1 (.s m) f)), (5, iI u)] [] 10 0 [4] [] =
    some (some .ret, [.c (.bool .t)], [], [decide (u < 0), true]) := by kernel_rfl
set_option maxRecDepth 100000 in
theorem L5f (O : FOps) (f : Bool) (n m u : Int) : runV (cxA O []) lwF.ntmps ⟨on1 24 false, fun _ => none⟩ (cL (sfx 4)) [(0, sI 2 n), (1, .c (.sl 3 0 1 (.s m) f)), (5, iI u)] [] 10 0 [0, 1] [] =
    some (none, [sI 2 n, .c (.sl 3 0 1 (.s m) f)], [], [!decide (u < 0)]) := by kernel_rfl
set_option maxRecDepth 100000 in
theorem L9 (O : FOps) (n m c : Int) (len : SI) (row : Int → List SC) : runV (cxA O (LLq O)) lwF.ntmps ⟨off, fun _ => none⟩ (cL (sfx 7)) [(0, sI 2 n), (1, sI 3 m), (6, sL 7 len), (7, iI c), (8, sF 4 n)] [(3, roG m row)] 10 0 [0, 1, 6, 7, 8, 9] [10] =
    some (none, [sI 2 n, sI 3 m, sL 7 len, iI c, sF 4 n, sF 10 m], [some ⟨true, true, .rows 1 m (cpR m row)⟩], [flatR row, flatR (cpR m row), SlFloat32.okN m m row]) := by kernel_rfl
noncomputable abbrev vL (n m c : Int) (len : SI) : List (Nat × SV) := [(0, sI 2 n), (1, sI 3 m), (6, sL 7 len), (7, iI c), (8, sF 4 n), (9, sF 5 m), (10, sL 6 len), (11, iI c)]
noncomputable abbrev oL (n m c : Int) (len : SI) : List SV := [sI 2 n, sI 3 m, sL 7 len, iI c, sF 4 n, sF 5 m, sL 6 len, iI c]
noncomputable abbrev tL : List Nat := [0, 1, 6, 7, 8, 9, 10, 11]
set_option maxRecDepth 100000 in
theorem L11n (O : FOps) (n m c : Int) : runV (cxA O (LLq O)) lwF.ntmps ⟨on1 51 false, fun _ => none⟩ (cL (sfx 9)) (vL n m c (.c 0)) [] 10 0 tL [] =
    some (none, oL n m c (.c 0), [], [!(!decide (c = c))]) := by kernel_rfl
set_option maxRecDepth 100000 in
theorem L11s (O : FOps) (n m c N : Int) (row row' : Int → List SC) : runV (cxA O (LLq O)) lwF.ntmps ⟨on1 51 false, fun _ => none⟩ (cL (sfx 9)) (vL n m c (.s N)) [(6, roG N row), (7, roG N row')] 10 0 tL [] =
    some (none, oL n m c (.s N), [], [flatR row', flatR row, SlFloat32.okE' N N row N N row', !(bif !SlFloat32.eqR O N N row row' then true else !decide (c = c))]) := by kernel_rfl
set_option maxRecDepth 100000 in
theorem L15 (O : FOps) (n m c : Int) (len : SI) (row row' : Int → List SC) : runV (cxA O (LLq O)) lwF.ntmps ⟨on1 61 false, fun _ => none⟩ (cL (sfx 11)) (vL n m c len) [(3, roG m row), (5, roG m row')] 10 0 tL [] =
    some (none, oL n m c len, [], [flatR row, flatR (cpR m row), SlFloat32.okN m m row, flatR (cpR m row), flatR row', SlFloat32.okE' m m row' m m (cpR m row), !(!SlFloat32.eqR O m m row' (cpR m row))]) := by kernel_rfl
set_option maxRecDepth 100000 in
theorem L17 (O : FOps) (n m c : Int) (len : SI) : runV (cxA O []) lwF.ntmps ⟨off, fun _ => none⟩ (cL (sfx 12)) (vL n m c len) [] 10 0 (tL ++ [12]) [] =
    some (none, oL n m c len ++ [.c (.int .i64 (.c 1))], [], []) := by kernel_rfl
set_option maxRecDepth 100000 in
theorem L19 (O : FOps) (n m c u : Int) (len : SI) (row : Int → List SC) : runV (cxA O (LLq O)) lwF.ntmps ⟨off, fun _ => none⟩ (cL (sfx 14)) (vL n m c len ++ [(12, iI u)]) [(5, ⟨true, false, .rows 1 m row⟩)] 10 0 (tL ++ [12]) [5] =
    some (none, oL n m c len ++ [iI (u + 1 * m)], [some ⟨true, false, .rows 1 m (SlFloat32.mkR O u m row)⟩], [flatR row, flatR (SlFloat32.mkR O u m row), SlFloat32.okM' m u m row]) := by kernel_rfl
set_option maxRecDepth 100000 in
theorem L20n (O : FOps) (n m c u : Int) : runV (cxA O (LLq O)) lwF.ntmps ⟨on1 80 false, fun _ => none⟩ (cL (sfx 15)) (vL n m c (.c 0) ++ [(12, iI u)]) [] 10 0 tL [] =
    some (none, oL n m c (.c 0), [], [!(bif decide (u < 0) then true else !decide (c = c))]) := by kernel_rfl
set_option maxRecDepth 100000 in
theorem L20s (O : FOps) (n m c u N : Int) (row row' : Int → List SC) : runV (cxA O (LLq O)) lwF.ntmps ⟨on1 80 false, fun _ => none⟩ (cL (sfx 15)) (vL n m c (.s N) ++ [(12, iI u)]) [(6, roG N row), (7, roG N row')] 10 0 tL [] =
    some (none, oL n m c (.s N), [], [bif decide (u < 0) then true else flatR row', bif decide (u < 0) then true else flatR row, bif decide (u < 0) then true else SlFloat32.okE' N N row N N row', !(bif decide (u < 0) then true else (bif !SlFloat32.eqR O N N row row' then true else !decide (c = c)))]) := by kernel_rfl
set_option maxRecDepth 100000 in
theorem L22 (O : FOps) (n m c : Int) (len : SI) : runV (cxA O []) lwF.ntmps ⟨off, fun _ => none⟩ (cL (sfx 16)) (vL n m c len) [] 10 0 (tL ++ [13]) [] =
    some (none, oL n m c len ++ [.c (.int .i64 (.c 1))], [], []) := by kernel_rfl
set_option maxRecDepth 100000 in
theorem L23n (O : FOps) (n m c : Int) : runV (cxA O (LLq O)) lwF.ntmps ⟨off, fun _ => none⟩ (cL (sfx 17)) (vL n m c (.c 0) ++ [(13, iI 1)]) [] 10 0 (tL ++ [13]) [] =
    some (none, oL n m c (.c 0) ++ [iI 1], [], []) := by kernel_rfl
set_option maxRecDepth 100000 in
theorem L23s (O : FOps) (n m c N : Int) (row : Int → List SC) : runV (cxA O (LLq O)) lwF.ntmps ⟨off, fun _ => none⟩ (cL (sfx 17)) (vL n m c (.s N) ++ [(13, iI 1)]) [(6, ⟨true, false, .rows 1 N row⟩)] 10 0 (tL ++ [13]) [6] =
    some (none, oL n m c (.s N) ++ [iI (1 + 1 * N)], [some ⟨true, false, .rows 1 N (SlFloat32.mkR O 1 N row)⟩], [flatR row, flatR (SlFloat32.mkR O 1 N row), SlFloat32.okM' N 1 N row]) := by kernel_rfl
set_option maxRecDepth 100000 in
theorem L24 (O : FOps) (n m c u : Int) (len : SI) : runV (cxA O []) lwF.ntmps ⟨off, fun _ => none⟩ (cL (sfx 18)) (vL n m c len ++ [(13, iI u)]) [] 10 0 (tL ++ [13, 14]) [] =
    some (none, oL n m c len ++ [iI u, .c (.int .i64 (.c 1))], [], []) := by kernel_rfl
set_option maxRecDepth 100000 in
theorem L25n (O : FOps) (n m c u : Int) : runV (cxA O (LLq O)) lwF.ntmps ⟨off, fun _ => none⟩ (cL (sfx 19)) (vL n m c (.c 0) ++ [(13, iI u), (14, iI 1)]) [] 10 0 (tL ++ [13, 14]) [] =
    some (none, oL n m c (.c 0) ++ [iI u, iI 1], [], []) := by kernel_rfl
set_option maxRecDepth 100000 in
theorem L25s (O : FOps) (n m c N u : Int) (row : Int → List SC) : runV (cxA O (LLq O)) lwF.ntmps ⟨off, fun _ => none⟩ (cL (sfx 19)) (vL n m c (.s N) ++ [(13, iI u), (14, iI 1)]) [(6, roG N row)] 10 0 (tL ++ [13, 14]) [] =
    some (none, oL n m c (.s N) ++ [iI u, iI (1 + 1 * N)], [], [flatR row, SlFloat32.okH' N 1 N row]) := by kernel_rfl
set_option maxRecDepth 100000 in
theorem L26 (O : FOps) (n m c u v : Int) (len : SI) : runV (cxA O []) lwF.ntmps ⟨on1 88 false, fun _ => none⟩ (cL (sfx 20)) (vL n m c len ++ [(13, iI u), (14, iI v)]) [] 10 0 (tL ++ [13, 14]) [] =
    some (none, oL n m c len ++ [iI u, iI v], [], [!decide (v < 0)]) := by kernel_rfl
set_option maxRecDepth 100000 in
theorem L28 (O : FOps) (n m c u v : Int) (len : SI) : runV (cxA O []) lwF.ntmps ⟨on1 91 false, fun _ => none⟩ (cL (sfx 21)) (vL n m c len ++ [(13, iI u), (14, iI v)]) [] 10 0 (tL ++ [13]) [] =
    some (none, oL n m c len ++ [iI u], [], [!(!decide (v = u))]) := by kernel_rfl
noncomputable abbrev on4 (s : Nat) : Option Bool := on2 108 false 113 false s |>.orElse fun _ => on1 116 false s
set_option maxRecDepth 100000 in
theorem L31n (O : FOps) (c u : Int) : runV (cxA O (LLq O)) lwF.ntmps ⟨on4, fun _ => none⟩ (sfx 23) [(6, sL 7 (.c 0)), (7, iI c), (10, sL 6 (.c 0)), (13, iI u), (15, sL 8 (.c 0)), (16, iI c)] [] 10 0 [4] [] =
    some (some .ret, [.c (.bool .t)], [], [!(!decide (c = c)), !(!decide ((1 : Int) = u)), true]) := by kernel_rfl
set_option maxRecDepth 100000 in
theorem L31s (O : FOps) (c N u : Int) (row row' row'' : Int → List SC) : runV (cxA O (LLq O)) lwF.ntmps ⟨on4, fun _ => none⟩ (sfx 23) [(6, sL 7 (.s N)), (7, iI c), (10, sL 6 (.s N)), (13, iI u), (15, sL 8 (.s N)), (16, iI c)] [(6, roG N row), (7, roG N row'), (8, roG N row'')] 10 0 [4] [] =
    some (some .ret, [.c (.bool .t)], [], [flatR row', flatR row'', SlFloat32.okE' N N row'' N N row', !(bif !SlFloat32.eqR O N N row'' row' then true else !decide (c = c)), flatR row, SlFloat32.okH' N 1 N row, !decide (1 + 1 * N < 0), !(!decide (1 + 1 * N = u)), true]) := by kernel_rfl
theorem lw_res : lwF.results.toList = [.tmp 4] := by kernel_rfl
end
end Go.Proofs.Ytaoeigofmfpamaa
end

/- The law: calls by hand. Nothing is assumed. -/
section
namespace Go.Proofs.Ytaoeigofmfpamaa
open Go
noncomputable section
def opsOf : Code → Array Oper
  | .region _ ops _ => ops
  | _ => #[]
def opAt (c : Code) (i : Nat) : Option (Op × Option Tmp × Option (Nat × Bool)) := (opsOf c)[i]?.map fun o => (o.op, o.dst, o.guard)
section
variable {P : Program} {c : Code} {Q : Exit → Act → World → Prop} {rest : List Nat} {i : Nat} {a : Act} {w : World}
theorem reg_wp {id n : Nat} (hc : c = .region id (opsOf c) false) (hn : (opsOf c).size = n) (h : wpOps P (opsOf c) Q (List.range n) a w) : c.wp P Q a w := by
  rw [hc]
  refine wp_region ?_
  have : (opsOf (.region id (opsOf c) false)) = opsOf c := rfl
  rw [hn]; exact h
theorem opAt_some {x : Op × Option Tmp × Option (Nat × Bool)} (h : opAt c i = some x) : ∃ o, (opsOf c)[i]? = some o ∧ o.op = x.1 ∧ o.dst = x.2.1 ∧ o.guard = x.2.2 := by
  unfold opAt at h
  cases ho : (opsOf c)[i]? with
  | none => rw [ho] at h; cases h
  | some o => rw [ho] at h; cases h; exact ⟨o, rfl, rfl, rfl, rfl⟩
theorem st_op {op : Op} {d : Nat} (h : opAt c i = some (op, some d, none)) {post : Value → World → Prop} (hr : ∀ o : Oper, o.op = op → NextOK P ((execOp a.eval o).run P w) post)
    (hK : ∀ v w', post v w' → wpOps P (opsOf c) Q rest (a.put (some d) v) w') : wpOps P (opsOf c) Q (i :: rest) a w := by
  obtain ⟨o, ho, h1, h2, h3⟩ := opAt_some h
  rw [wpOps_cons]
  unfold wpOp
  rw [ho]
  have hw : Region.wanted o (yielded (opsOf c) a.tmps) = true := by unfold Region.wanted; rw [h3]
  simp only [hw, if_true]
  left
  exact wp_of_next (hr o h1) fun v w' hp => by rw [h2]; exact hK v w' hp
theorem st_mv {x : Operand} {d : Nat} (h : opAt c i = some (.move x, some d, none)) (hK : wpOps P (opsOf c) Q rest (a.put (some d) (a.eval x)) w) : wpOps P (opsOf c) Q (i :: rest) a w :=
  st_op h (post := fun v w' => v = a.eval x ∧ w' = w) (fun o ho => by obtain ⟨dst, op, type, pos, after, guard⟩ := o; subst ho; exact ⟨rfl, rfl⟩) fun v w' ⟨h1, h2⟩ => by subst h1; subst h2; exact hK
theorem st_as {x : Operand} {d : Nat} (h : opAt c i = some (.assign x, some d, none)) (hK : wpOps P (opsOf c) Q rest (a.put (some d) (a.eval x)) w) : wpOps P (opsOf c) Q (i :: rest) a w :=
  st_op h (post := fun v w' => v = a.eval x ∧ w' = w) (fun o ho => by obtain ⟨dst, op, type, pos, after, guard⟩ := o; subst ho; exact ⟨rfl, rfl⟩) fun v w' ⟨h1, h2⟩ => by subst h1; subst h2; exact hK
theorem st_call {f : FuncId} {args : Array Operand} {ts : Array TypeId} {d : Nat} (h : opAt c i = some (.call ⟨.value (.func f), args, ts⟩, some d, none)) {post : Value → World → Prop} (hr : NextOK P ((callFunc f (args.map a.eval)).run P w) post)
    (hK : ∀ v w', post v w' → wpOps P (opsOf c) Q rest (a.put (some d) v) w') : wpOps P (opsOf c) Q (i :: rest) a w :=
  st_op h (fun o ho => by
    obtain ⟨dst, op, type, pos, after, guard⟩ := o
    subst ho
    have hrun : (execOp a.eval ⟨dst, .call ⟨.value (.func f), args, ts⟩, type, pos, after, guard⟩).run P w = (callFunc f (args.map a.eval)).run P w := by
      simp [execOp, resolve, Deferred.ofValue, Act.eval, invoke]
    rw [hrun]; exact hr) hK
theorem st_not {x : Operand} {t : TypeId} {d : Nat} {b : Bool} (h : opAt c i = some (.unOp .not t x, some d, none)) (hx : a.eval x = .bool b) (hK : wpOps P (opsOf c) Q rest (a.put (some d) (.bool (!b))) w) : wpOps P (opsOf c) Q (i :: rest) a w :=
  st_op h (post := fun v w' => v = .bool (!b) ∧ w' = w) (fun o ho => by
    obtain ⟨dst, op, type, pos, after, guard⟩ := o
    subst ho
    have hrun : (execOp a.eval ⟨dst, .unOp .not t x, type, pos, after, guard⟩).run P w = .ok (.value (.bool (!b))) w := by
      simp [execOp, hx, Op.unary]
    rw [hrun]; exact ⟨rfl, rfl⟩) fun v w' ⟨h1, h2⟩ => by subst h1; subst h2; exact hK
theorem st_ext {x : Operand} {k : Nat} {d : Nat} {vs : Array Value} {u : Value} (h : opAt c i = some (.extract x k, some d, none)) (hx : a.eval x = .tuple vs) (hu : vs[k]? = some u) (hK : wpOps P (opsOf c) Q rest (a.put (some d) u) w) : wpOps P (opsOf c) Q (i :: rest) a w :=
  st_op h (post := fun v w' => v = u ∧ w' = w) (fun o ho => by
    obtain ⟨dst, op, type, pos, after, guard⟩ := o
    subst ho
    have hrun : (execOp a.eval ⟨dst, .extract x k, type, pos, after, guard⟩).run P w = .ok (.value u) w := by
      simp [execOp, hx, Instr.extract, hu]
    rw [hrun]; exact ⟨rfl, rfl⟩) fun v w' ⟨h1, h2⟩ => by subst h1; subst h2; exact hK
end
theorem get_put {a : Act} {N d : Nat} (hs : a.tmps.size = N) (hd : d < N) (v : Value) (t : Nat) : (a.put (some d) v).tmps.getD t undef = if t = d then v else a.tmps.getD t undef := by
  have := put_getD a (some d) v hs (by show Nat.ble (d + 1) N = true; rw [Nat.ble_eq]; omega) t
  rw [this]
  by_cases e : t = d
  · rw [if_pos e, if_pos (by rw [e])]
  · rw [if_neg e, if_neg (fun h => e (Option.some.inj h).symm)]
section
variable {w0 w : World} {T0 : Nat → Nat → Prop} {E : EM} {sg : Nat → Option Seg} {rw o : Bool} {j hn : Nat} {m : Int} {rr : Int → List SC}
set_option maxRecDepth 100000 in
theorem toC_run (m : Int) (row : Int → List SC) : SlFloat32.toC fops 2 [.c (.sl 1 0 1 (.s m) false)] [(1, ⟨false, false, .rows 1 m row⟩)] =
    some ⟨.c (.sl 2 0 1 (.s m) true), [(2, some ⟨true, true, .rows 1 m (cpR m row)⟩)], 60, [flatR row, flatR (cpR m row), SlFloat32.okN m m row]⟩ := by kernel_rfl
theorem toS_call (gm : GM w0 T0 E sg w) (hg : sg j = some ⟨rw, o, .rows 1 m rr⟩) (hm0 : 0 ≤ m) (hm : m ≤ 1048576) (hsh : Shape SlFloat32.ts rr) (hn1 : 900 ≤ hn) (hN : E hn = none) {v : Value} (hv : RelC E (.sl j 0 1 (.s m) false) v) :
    NextOK Try.prog ((callFunc 22 #[v]).run Try.prog w) fun r w' => ∃ E2, Ext E E2 ∧ (∀ k, k ≠ hn → E2 k = E k) ∧ RelC E2 (.sl hn 0 1 (.s m) true) r ∧ GM w0 T0 E2 (upS sg [(hn, ⟨true, true, .rows 1 m (cpR m rr)⟩)]) w' := by
  have hj := gm.sn j _ hg
  let l : List (Nat × Nat) := [(1, j)]
  let rd : List (Nat × Seg) := [(1, roG m rr)]
  let σ : Nat → Nat := fun i => if i = 1 then j else i
  have hfind : ∀ i g, findS i rd = some g → i = 1 ∧ g = roG m rr := fun i g h => by
    have := findS_in h
    simp only [rd, List.mem_singleton] at this
    cases this; exact ⟨rfl, rfl⟩
  have hE1 : alE E l 1 = E j := by simp [alE, l, lkN]
  have hf := gm.mem.focus σ (Ep := alE E l) (rd := rd) (fun i g h => by
    obtain ⟨rfl, rfl⟩ := hfind i g h
    exact ⟨_, by show sg (if 1 = 1 then j else 1) = _; rw [if_pos rfl]; exact hg, by show alE E l 1 = E (if 1 = 1 then j else 1); rw [if_pos rfl]; exact hE1, Wk.flat (fun h => by cases h) (fun h => by cases h) (SlFloat32.shape_flat hsh)⟩) (fun i i' g g' hg hg' hne _ => by
    obtain ⟨rfl, _⟩ := hfind i g hg
    obtain ⟨rfl, _⟩ := hfind i' g' hg'
    exact absurd rfl hne)
  refine (SlFloat32.cToC (alE E l) 2 [.c (.sl 1 0 1 (.s m) false)] #[v] rd w _ (toC_run m rr) (AllT.cons (SlFloat32.shape_flat hsh) (AllT.cons (SlFloat32.shape_flat (cpR_shape _ _)) (AllT.cons (pB_iff.2 ⟨rfl, hm0, hm, hsh⟩) AllT.nil))) ⟨sl_in hv (by omega) (by omega) (by simp [l, lkN]), trivial⟩ (by omega) (by simp) (fun i h1 h2 => ?_) hf).mono fun r w' hp => ?_
  · simp only at h2
    unfold alE
    rw [if_pos (by omega)]
    have : i ≠ 1 := by omega
    simp [l, lkN, this]
  obtain ⟨E', k1, k2, k3, k4⟩ := hp
  have hbig : ∀ i, 900 ≤ i → E' i = E i := fun i hi => by
    cases hx : E i with
    | some y => exact k1 i y (by unfold alE; rw [if_neg (by omega)]; exact hx)
    | none =>
      cases hx' : E' i with
      | none => rfl
      | some y =>
        rcases k2 i (by rw [hx']; simp) with h | h
        · exact absurd (by unfold alE; rw [if_neg (by omega)]; exact hx) h
        · have := h.2; simp only at this; omega
  have u1 : upE E E' [(hn, 2)] hn = E' 2 := by simp [upE, lkN]
  have u2 : ∀ i, i ≠ hn → upE E E' [(hn, 2)] i = E i := fun i hi => by
    simp only [upE, lkN, if_neg hi]
    split
    · rename_i h; exact (gm.en i h).symm
    · rfl
  have hext : Ext E (upE E E' [(hn, 2)]) := fun i y hy => by
    by_cases e : i = hn
    · subst e; rw [hN] at hy; cases hy
    · rw [u2 i e]; exact hy
  refine ⟨upE E E' [(hn, 2)], hext, u2, sl_as k3 (fun y hy => by rw [u1]; exact hy) (by omega) _ id, ?_, fun i g hi => ?_, fun i hi => ?_⟩
  · refine gm.mem.back (σ := σ) (rd := rd) (E' := E') (Ep := alE E l) (fun i => if i = hn then some 2 else none) (fun i g h => ?_) k1 k4 (fun i k g2 h1 h2 => ?_) (fun i g2 h1 h2 => ?_) (fun i i' k g g' h1 h1' h2 h2' => ?_)
    · obtain ⟨rfl, rfl⟩ := hfind i g h
      refine ⟨by show alE E l 1 = E (if 1 = 1 then j else 1); rw [if_pos rfl]; exact hE1, _, by show sg (if 1 = 1 then j else 1) = _; rw [if_pos rfl]; exact hg, fun h => by cases h⟩
    · by_cases e : i = hn
      · subst e
        rw [if_pos rfl] at h2
        cases h2
        unfold upS at h1
        rw [findS_cons, if_pos rfl] at h1
        cases h1
        exact ⟨_, rfl, u1, Wk.flat id id (SlFloat32.shape_flat (cpR_shape _ _)), .inr ⟨by simp [alE, l, lkN], rfl⟩⟩
      · rw [if_neg e] at h2; cases h2
    · by_cases e : i = hn
      · rw [if_pos e] at h2; cases h2
      · unfold upS at h1
        rw [findS_cons, if_neg e, findS_nil] at h1
        refine ⟨g2, h1, u2 i e, Wk.ext hext g2, fun k gr hk hr => ?_⟩
        obtain ⟨_, rfl⟩ := hfind k gr hk
        cases hr
    · by_cases e : i = hn <;> by_cases e' : i' = hn
      · rw [e, e']
      · rw [if_neg e'] at h2'; cases h2'
      · rw [if_neg e] at h2; cases h2
      · rw [if_neg e] at h2; cases h2
  · unfold upS at hi
    rw [findS_cons, findS_nil] at hi
    by_cases e : i = hn
    · omega
    · rw [if_neg e] at hi; exact gm.sn i g hi
  · rw [u2 i (by omega)]; exact gm.en i hi
end
end
end Go.Proofs.Ytaoeigofmfpamaa
end

/- The law: the operations of the regions with calls. Nothing is assumed. -/
section
namespace Go.Proofs.Ytaoeigofmfpamaa
open Go
noncomputable section
section
variable {P : Program} {c : Code} {Q : Exit → Act → World → Prop} {rest : List Nat} {i : Nat} {a : Act} {w : World}
theorem st_call1 {f : FuncId} {x : Nat} {ts : Array TypeId} {d : Nat} (h : opAt c i = some (.call ⟨.value (.func f), #[.tmp x], ts⟩, some d, none)) {v : Value} (hx : a.tmps.getD x undef = v) {post : Value → World → Prop} (hr : NextOK P ((callFunc f #[v]).run P w) post)
    (hK : ∀ v w', post v w' → wpOps P (opsOf c) Q rest (a.put (some d) v) w') : wpOps P (opsOf c) Q (i :: rest) a w :=
  st_call h (by have e : (#[Operand.tmp x] : Array Operand).map a.eval = #[v] := by simp [Act.eval, ← hx, Array.getD_eq_getD_getElem?]
                rw [e]; exact hr) hK
theorem st_call2 {f : FuncId} {x y : Nat} {ts : Array TypeId} {d : Nat} (h : opAt c i = some (.call ⟨.value (.func f), #[.tmp x, .tmp y], ts⟩, some d, none)) {v u : Value} (hx : a.tmps.getD x undef = v) (hy : a.tmps.getD y undef = u) {post : Value → World → Prop} (hr : NextOK P ((callFunc f #[v, u]).run P w) post)
    (hK : ∀ v w', post v w' → wpOps P (opsOf c) Q rest (a.put (some d) v) w') : wpOps P (opsOf c) Q (i :: rest) a w :=
  st_call h (by have e : (#[Operand.tmp x, Operand.tmp y] : Array Operand).map a.eval = #[v, u] := by simp [Act.eval, ← hx, ← hy, Array.getD_eq_getD_getElem?]
                rw [e]; exact hr) hK
/-- What a frame of 'N' places holds, after writes: the last of each. -/
structure Ta (N : Nat) (a b : Act) (m : List (Nat × Value)) : Prop where
  size : b.tmps.size = N
  dfr : b.defers = []
  get : ∀ t, b.tmps.getD t undef = (m.lookup t).getD (a.tmps.getD t undef)
theorem Ta.start {N : Nat} {a : Act} (h1 : a.tmps.size = N) (h2 : a.defers = []) : Ta N a a [] := ⟨h1, h2, fun _ => rfl⟩
theorem Ta.put {N : Nat} {a b : Act} {m : List (Nat × Value)} (h : Ta N a b m) {d : Nat} (hd : Nat.blt d N = true) (v : Value) : Ta N a (b.put (some d) v) ((d, v) :: m) := by
  refine ⟨by rw [put_size]; exact h.size, h.dfr, fun t => ?_⟩
  rw [get_put h.size (by simpa using hd), h.get]
  rw [List.lookup_cons]
  by_cases e : t = d
  · rw [if_pos e, e, beq_self_eq_true]; rfl
  · rw [if_neg e, beq_false_of_ne e]
variable {N : Nat} {a0 : Act} {mp : List (Nat × Value)}
def look (a0 : Act) (mp : List (Nat × Value)) (t : Nat) : Value := (mp.lookup t).getD (a0.tmps.getD t undef)
theorem ta_mv (T : Ta N a0 a mp) {x d : Nat} (h : opAt c i = some (.move (.tmp x), some d, none)) (hd : Nat.blt d N = true) {v : Value} (hx : look a0 mp x = v) (hK : ∀ a', Ta N a0 a' ((d, v) :: mp) → wpOps P (opsOf c) Q rest a' w) : wpOps P (opsOf c) Q (i :: rest) a w :=
  st_mv h (by have e : a.eval (.tmp x) = v := (T.get x).trans hx
              rw [e]; exact hK _ (T.put hd v))
theorem ta_as (T : Ta N a0 a mp) {x d : Nat} (h : opAt c i = some (.assign (.tmp x), some d, none)) (hd : Nat.blt d N = true) {v : Value} (hx : look a0 mp x = v) (hK : ∀ a', Ta N a0 a' ((d, v) :: mp) → wpOps P (opsOf c) Q rest a' w) : wpOps P (opsOf c) Q (i :: rest) a w :=
  st_as h (by have e : a.eval (.tmp x) = v := (T.get x).trans hx
              rw [e]; exact hK _ (T.put hd v))
theorem ta_ext (T : Ta N a0 a mp) {x k d : Nat} {vs : Array Value} {u : Value} (h : opAt c i = some (.extract (.tmp x) k, some d, none)) (hd : Nat.blt d N = true) (hx : look a0 mp x = .tuple vs) (hu : vs[k]? = some u) (hK : ∀ a', Ta N a0 a' ((d, u) :: mp) → wpOps P (opsOf c) Q rest a' w) : wpOps P (opsOf c) Q (i :: rest) a w :=
  st_ext h ((T.get x).trans hx) hu (hK _ (T.put hd u))
theorem ta_not (T : Ta N a0 a mp) {x : Nat} {t : TypeId} {d : Nat} {b : Bool} (h : opAt c i = some (.unOp .not t (.tmp x), some d, none)) (hd : Nat.blt d N = true) (hx : look a0 mp x = .bool b) (hK : ∀ a', Ta N a0 a' ((d, .bool (!b)) :: mp) → wpOps P (opsOf c) Q rest a' w) : wpOps P (opsOf c) Q (i :: rest) a w :=
  st_not h ((T.get x).trans hx) (hK _ (T.put hd _))
theorem ta_call1 (T : Ta N a0 a mp) {f : FuncId} {x : Nat} {ts : Array TypeId} {d : Nat} (h : opAt c i = some (.call ⟨.value (.func f), #[.tmp x], ts⟩, some d, none)) (hd : Nat.blt d N = true) {v : Value} (hx : look a0 mp x = v) {post : Value → World → Prop} (hr : NextOK P ((callFunc f #[v]).run P w) post)
    (hK : ∀ v w', post v w' → ∀ a', Ta N a0 a' ((d, v) :: mp) → wpOps P (opsOf c) Q rest a' w') : wpOps P (opsOf c) Q (i :: rest) a w :=
  st_call1 h ((T.get x).trans hx) hr fun v w' hp => hK v w' hp _ (T.put hd v)
theorem ta_call2 (T : Ta N a0 a mp) {f : FuncId} {x y : Nat} {ts : Array TypeId} {d : Nat} (h : opAt c i = some (.call ⟨.value (.func f), #[.tmp x, .tmp y], ts⟩, some d, none)) (hd : Nat.blt d N = true) {v u : Value} (hx : look a0 mp x = v) (hy : look a0 mp y = u) {post : Value → World → Prop} (hr : NextOK P ((callFunc f #[v, u]).run P w) post)
    (hK : ∀ v w', post v w' → ∀ a', Ta N a0 a' ((d, v) :: mp) → wpOps P (opsOf c) Q rest a' w') : wpOps P (opsOf c) Q (i :: rest) a w :=
  st_call2 h ((T.get x).trans hx) ((T.get y).trans hy) hr fun v w' hp => hK v w' hp _ (T.put hd v)
theorem ta_end {Q' : Exit → Act → World → Prop} (T : Ta N a0 a mp) (h : ∀ a', Ta N a0 a' mp → Q' .normal a' w) : wpOps P (opsOf c) Q' [] a w := h a T
end
set_option maxRecDepth 100000 in
theorem g4 : cL (sfx 3) = .region 4 (opsOf (cL (sfx 3))) false := by kernel_rfl
set_option maxRecDepth 100000 in
theorem n4 : (opsOf (cL (sfx 3))).size = 4 := by kernel_rfl
set_option maxRecDepth 100000 in
theorem o4_0 : opAt (cL (sfx 3)) 0 = some (.move (.tmp 0), some 20, none) := by kernel_rfl
set_option maxRecDepth 100000 in
theorem o4_1 : opAt (cL (sfx 3)) 1 = some (.move (.tmp 5), some 21, none) := by kernel_rfl
set_option maxRecDepth 100000 in
theorem o4_2 : opAt (cL (sfx 3)) 2 = some (.call ⟨.value (.func 28), #[.tmp 20, .tmp 21], #[54, 3]⟩, some 22, none) := by kernel_rfl
set_option maxRecDepth 100000 in
theorem o4_3 : opAt (cL (sfx 3)) 3 = some (.assign (.tmp 22), some 5, none) := by kernel_rfl
set_option maxRecDepth 100000 in
theorem g7 : cL (sfx 5) = .region 7 (opsOf (cL (sfx 5))) false := by kernel_rfl
set_option maxRecDepth 100000 in
theorem n7 : (opsOf (cL (sfx 5))).size = 10 := by kernel_rfl
set_option maxRecDepth 100000 in
theorem o7_0 : opAt (cL (sfx 5)) 0 = some (.move (.tmp 0), some 26, none) := by kernel_rfl
set_option maxRecDepth 100000 in
theorem o7_1 : opAt (cL (sfx 5)) 1 = some (.call ⟨.value (.func 30), #[.tmp 26], #[54]⟩, some 27, none) := by kernel_rfl
set_option maxRecDepth 100000 in
theorem o7_2 : opAt (cL (sfx 5)) 2 = some (.move (.tmp 1), some 28, none) := by kernel_rfl
set_option maxRecDepth 100000 in
theorem o7_3 : opAt (cL (sfx 5)) 3 = some (.call ⟨.value (.func 22), #[.tmp 28], #[22]⟩, some 29, none) := by kernel_rfl
set_option maxRecDepth 100000 in
theorem o7_4 : opAt (cL (sfx 5)) 4 = some (.call ⟨.value (.func 29), #[.tmp 27, .tmp 29], #[54, 22]⟩, some 30, none) := by kernel_rfl
set_option maxRecDepth 100000 in
theorem o7_5 : opAt (cL (sfx 5)) 5 = some (.move (.tmp 30), some 25, none) := by kernel_rfl
set_option maxRecDepth 100000 in
theorem o7_6 : opAt (cL (sfx 5)) 6 = some (.extract (.tmp 25) 0, some 31, none) := by kernel_rfl
set_option maxRecDepth 100000 in
theorem o7_7 : opAt (cL (sfx 5)) 7 = some (.extract (.tmp 25) 1, some 32, none) := by kernel_rfl
set_option maxRecDepth 100000 in
theorem o7_8 : opAt (cL (sfx 5)) 8 = some (.assign (.tmp 31), some 6, none) := by kernel_rfl
set_option maxRecDepth 100000 in
theorem o7_9 : opAt (cL (sfx 5)) 9 = some (.assign (.tmp 32), some 7, none) := by kernel_rfl
set_option maxRecDepth 100000 in
theorem g8 : cL (sfx 6) = .region 8 (opsOf (cL (sfx 6))) false := by kernel_rfl
set_option maxRecDepth 100000 in
theorem n8 : (opsOf (cL (sfx 6))).size = 3 := by kernel_rfl
set_option maxRecDepth 100000 in
theorem o8_0 : opAt (cL (sfx 6)) 0 = some (.move (.tmp 0), some 33, none) := by kernel_rfl
set_option maxRecDepth 100000 in
theorem o8_1 : opAt (cL (sfx 6)) 1 = some (.call ⟨.value (.func 30), #[.tmp 33], #[54]⟩, some 34, none) := by kernel_rfl
set_option maxRecDepth 100000 in
theorem o8_2 : opAt (cL (sfx 6)) 2 = some (.assign (.tmp 34), some 8, none) := by kernel_rfl
set_option maxRecDepth 100000 in
theorem g10 : cL (sfx 8) = .region 10 (opsOf (cL (sfx 8))) false := by kernel_rfl
set_option maxRecDepth 100000 in
theorem n10 : (opsOf (cL (sfx 8))).size = 8 := by kernel_rfl
set_option maxRecDepth 100000 in
theorem o10_0 : opAt (cL (sfx 8)) 0 = some (.move (.tmp 8), some 38, none) := by kernel_rfl
set_option maxRecDepth 100000 in
theorem o10_1 : opAt (cL (sfx 8)) 1 = some (.move (.tmp 9), some 39, none) := by kernel_rfl
set_option maxRecDepth 100000 in
theorem o10_2 : opAt (cL (sfx 8)) 2 = some (.call ⟨.value (.func 31), #[.tmp 38, .tmp 39], #[54, 22]⟩, some 40, none) := by kernel_rfl
set_option maxRecDepth 100000 in
theorem o10_3 : opAt (cL (sfx 8)) 3 = some (.move (.tmp 40), some 37, none) := by kernel_rfl
set_option maxRecDepth 100000 in
theorem o10_4 : opAt (cL (sfx 8)) 4 = some (.extract (.tmp 37) 0, some 41, none) := by kernel_rfl
set_option maxRecDepth 100000 in
theorem o10_5 : opAt (cL (sfx 8)) 5 = some (.extract (.tmp 37) 1, some 42, none) := by kernel_rfl
set_option maxRecDepth 100000 in
theorem o10_6 : opAt (cL (sfx 8)) 6 = some (.assign (.tmp 41), some 10, none) := by kernel_rfl
set_option maxRecDepth 100000 in
theorem o10_7 : opAt (cL (sfx 8)) 7 = some (.assign (.tmp 42), some 11, none) := by kernel_rfl
set_option maxRecDepth 100000 in
theorem g13 : cL (cL (sfx 10)) = .region 13 (opsOf (cL (cL (sfx 10)))) false := by kernel_rfl
set_option maxRecDepth 100000 in
theorem n13 : (opsOf (cL (cL (sfx 10)))).size = 5 := by kernel_rfl
set_option maxRecDepth 100000 in
theorem o13_0 : opAt (cL (cL (sfx 10))) 0 = some (.move (.tmp 8), some 52, none) := by kernel_rfl
set_option maxRecDepth 100000 in
theorem o13_1 : opAt (cL (cL (sfx 10))) 1 = some (.move (.tmp 0), some 53, none) := by kernel_rfl
set_option maxRecDepth 100000 in
theorem o13_2 : opAt (cL (cL (sfx 10))) 2 = some (.call ⟨.value (.func 30), #[.tmp 53], #[54]⟩, some 54, none) := by kernel_rfl
set_option maxRecDepth 100000 in
theorem o13_3 : opAt (cL (cL (sfx 10))) 3 = some (.call ⟨.value (.func 32), #[.tmp 52, .tmp 54], #[54, 54]⟩, some 55, none) := by kernel_rfl
set_option maxRecDepth 100000 in
theorem o13_4 : opAt (cL (cL (sfx 10))) 4 = some (.unOp .not 4 (.tmp 55), some 56, none) := by kernel_rfl
set_option maxRecDepth 100000 in
theorem g18 : cL (sfx 13) = .region 18 (opsOf (cL (sfx 13))) false := by kernel_rfl
set_option maxRecDepth 100000 in
theorem n18 : (opsOf (cL (sfx 13))).size = 4 := by kernel_rfl
set_option maxRecDepth 100000 in
theorem o18_0 : opAt (cL (sfx 13)) 0 = some (.move (.tmp 8), some 62, none) := by kernel_rfl
set_option maxRecDepth 100000 in
theorem o18_1 : opAt (cL (sfx 13)) 1 = some (.move (.tmp 12), some 63, none) := by kernel_rfl
set_option maxRecDepth 100000 in
theorem o18_2 : opAt (cL (sfx 13)) 2 = some (.call ⟨.value (.func 33), #[.tmp 62, .tmp 63], #[54, 3]⟩, some 64, none) := by kernel_rfl
set_option maxRecDepth 100000 in
theorem o18_3 : opAt (cL (sfx 13)) 3 = some (.assign (.tmp 64), some 12, none) := by kernel_rfl
set_option maxRecDepth 100000 in
theorem g30 : cL (sfx 22) = .region 30 (opsOf (cL (sfx 22))) false := by kernel_rfl
set_option maxRecDepth 100000 in
theorem n30 : (opsOf (cL (sfx 22))).size = 10 := by kernel_rfl
set_option maxRecDepth 100000 in
theorem o30_0 : opAt (cL (sfx 22)) 0 = some (.move (.tmp 0), some 93, none) := by kernel_rfl
set_option maxRecDepth 100000 in
theorem o30_1 : opAt (cL (sfx 22)) 1 = some (.call ⟨.value (.func 30), #[.tmp 93], #[54]⟩, some 94, none) := by kernel_rfl
set_option maxRecDepth 100000 in
theorem o30_2 : opAt (cL (sfx 22)) 2 = some (.move (.tmp 1), some 95, none) := by kernel_rfl
set_option maxRecDepth 100000 in
theorem o30_3 : opAt (cL (sfx 22)) 3 = some (.call ⟨.value (.func 22), #[.tmp 95], #[22]⟩, some 96, none) := by kernel_rfl
set_option maxRecDepth 100000 in
theorem o30_4 : opAt (cL (sfx 22)) 4 = some (.call ⟨.value (.func 31), #[.tmp 94, .tmp 96], #[54, 22]⟩, some 97, none) := by kernel_rfl
set_option maxRecDepth 100000 in
theorem o30_5 : opAt (cL (sfx 22)) 5 = some (.move (.tmp 97), some 92, none) := by kernel_rfl
set_option maxRecDepth 100000 in
theorem o30_6 : opAt (cL (sfx 22)) 6 = some (.extract (.tmp 92) 0, some 98, none) := by kernel_rfl
set_option maxRecDepth 100000 in
theorem o30_7 : opAt (cL (sfx 22)) 7 = some (.extract (.tmp 92) 1, some 99, none) := by kernel_rfl
set_option maxRecDepth 100000 in
theorem o30_8 : opAt (cL (sfx 22)) 8 = some (.assign (.tmp 98), some 15, none) := by kernel_rfl
set_option maxRecDepth 100000 in
theorem o30_9 : opAt (cL (sfx 22)) 9 = some (.assign (.tmp 99), some 16, none) := by kernel_rfl
end
end Go.Proofs.Ytaoeigofmfpamaa
end
