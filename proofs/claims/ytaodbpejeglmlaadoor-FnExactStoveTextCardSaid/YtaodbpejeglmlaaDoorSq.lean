/- Code. Nothing is assumed. -/
import Derived.Test.YtaodbpejeglmlaaDoorSp
import Derived.LoopN
import Derived.Scope
namespace Go.Proofs.YtaodbpejeglmlaaDoor
open Go

/-- The way that is gone: the first whose test holds. -/
def sel : List (SB × XK × Top) → Option Top → Option (Option XK × Top)
  | [], some T => some (none, T)
  | [], none => none
  | (c, k, T) :: l, n => if c.val then some (some k, T) else sel l n
def exitOf : Option XK → Exit
  | none => .normal
  | some .ret => .ret
  | some (.exit id) => .exit id
def Post (N : Nat) (Lim : Rg) (w0 : World) (T0 : Nat → Nat → Prop) (E : EM) (R : List Ly) (k : Option XK) (T : Top) : Exit → Act → World → Prop := fun e a w =>
  e = exitOf k ∧ ∃ E', Ext E E' ∧ SRel N Lim w0 T0 E' (getT (T.ly :: R)) (getS (T.ly :: R)) T.next a w
/-- What 'f' says of 'c'. -/
def CodeOK (P : Program) (N : Nat) (c : Code) (f : List Ly → Top → Option Outs) : Prop := ∀ R T o, f R T = some o → AllT o.obs →
  ∃ k T', sel o.abr o.nrm = some (k, T') ∧ T.next ≤ T'.next ∧ ∀ (Lim : Rg) (w0 : World) (T0 : Nat → Nat → Prop) (E : EM) (a : Act) (w : World),
    SRel N Lim w0 T0 E (getT (T.ly :: R)) (getS (T.ly :: R)) T.next a w → T'.next ≤ Lim.lim → c.wp P (Post N Lim w0 T0 E R k T') a w
theorem SB.and_val (b c : SB) : (b.and c).val = (b.val && c.val) := by cases b <;> cases c <;> simp [SB.and, SB.val]

/-! ### which way -/
theorem sel_app {l m : List (SB × XK × Top)} {n n' : Option Top} : ∀ {k : Option XK} {T : Top}, sel l n = some (k, T) → (k.isSome = true → sel (l ++ m) n' = some (k, T)) ∧ (k = none → n = some T ∧ sel (l ++ m) n' = sel m n') := by
  induction l with
  | nil =>
    intro k T h
    cases n with
    | none => cases h
    | some T1 => cases h; exact ⟨fun h => (by cases h), fun _ => ⟨rfl, rfl⟩⟩
  | cons p l ih =>
    obtain ⟨c, j, T1⟩ := p
    intro k T h
    simp only [sel, List.cons_append] at h ⊢
    by_cases hc : c.val = true
    · rw [if_pos hc] at h ⊢
      cases h
      exact ⟨fun _ => rfl, fun h => by cases h⟩
    · rw [if_neg hc] at h ⊢
      exact ih h
theorem sel_none {l : List (SB × XK × Top)} {n : Option Top} {T : Top} (h : sel l n = some (none, T)) : n = some T ∧ ∀ b, orAny l b = b := by
  induction l with
  | nil =>
    cases n with
    | none => cases h
    | some T1 => cases h; exact ⟨rfl, fun _ => rfl⟩
  | cons p l ih =>
    obtain ⟨c, j, T1⟩ := p
    simp only [sel] at h
    by_cases hc : c.val = true
    · rw [if_pos hc] at h; cases h
    · rw [if_neg hc] at h
      obtain ⟨h1, h2⟩ := ih h
      refine ⟨h1, fun b => ?_⟩
      show (c.val || orAny l b) = b
      rw [h2]; cases hv : c.val
      · rfl
      · exact absurd hv hc
theorem guard_ok {l : List (SB × XK × Top)} {n : Option Top} {T : Top} {ob : List Bool} (h : sel l n = some (none, T)) (hob : AllT (guardObs l ob)) : AllT ob := by
  cases l with
  | nil => exact hob
  | cons p l =>
    intro b hb
    have := hob (orAny (p :: l) b) (List.mem_map.2 ⟨b, hb, rfl⟩)
    rwa [(sel_none h).2] at this
theorem sel_lift_t {b : SB} (hb : b.val = true) (T : Top) {n n' : Option Top} {m : List (SB × XK × Top)} : ∀ {l : List (SB × XK × Top)} {k : Option XK} {T' : Top}, sel l n = some (k, T') →
    (∀ j, k = some j → sel (lift T b l ++ m) n' = some (some j, commit T T')) ∧ (k = none → n = some T' ∧ sel (lift T b l ++ m) n' = sel m n')
  | [], k, T', h => by
    cases n with
    | none => cases h
    | some T1 => cases h; exact ⟨fun _ h => (by cases h), fun _ => ⟨rfl, rfl⟩⟩
  | (c, i, T1) :: l, k, T', h => by
    have ih := sel_lift_t hb T (n := n) (n' := n') (m := m) (l := l) (k := k) (T' := T')
    simp only [sel, lift, List.cons_append, SB.and_val, hb, Bool.true_and] at h ⊢
    by_cases hc : c.val = true
    · rw [if_pos hc] at h ⊢
      cases h
      exact ⟨fun j hj => (by cases hj; rfl), fun h => by cases h⟩
    · rw [if_neg hc] at h ⊢
      exact ih h
theorem sel_lift_f {b : SB} (hb : b.val = false) (T : Top) {n : Option Top} {m : List (SB × XK × Top)} : ∀ {l : List (SB × XK × Top)}, sel (lift T b l ++ m) n = sel m n
  | [] => rfl
  | (c, i, T1) :: l => by
    simp only [lift, List.cons_append, sel, SB.and_val, hb, Bool.false_and, Bool.false_eq_true, if_false]
    exact sel_lift_f hb T
theorem sel_andNot_t {c : SB} (hc : c.val = true) {n : Option Top} : ∀ {l : List (SB × XK × Top)}, sel (andNot c l) n = sel [] n
  | [] => rfl
  | (d, k, T) :: l => by
    simp only [andNot]
    rw [sel]
    simp only [SB.and_val, SB.not_val, hc, Bool.not_true, Bool.false_and, Bool.false_eq_true, if_false]
    exact sel_andNot_t hc
theorem sel_andNot_f {c : SB} (hc : c.val = false) {n : Option Top} : ∀ {l : List (SB × XK × Top)}, sel (andNot c l) n = sel l n
  | [] => rfl
  | (d, k, T) :: l => by
    simp only [andNot, sel, SB.and_val, SB.not_val, hc, Bool.not_false, Bool.true_and]
    rw [sel_andNot_f hc]
theorem sel_norm {l : List (SB × XK × Top)} {n n' : Option Top} {k : XK} {T : Top} (h : sel l n = some (some k, T)) : sel l n' = some (some k, T) := by
  induction l with
  | nil => cases n <;> cases h
  | cons p l ih =>
    obtain ⟨c, j, T1⟩ := p
    simp only [sel] at h ⊢
    by_cases hc : c.val = true
    · rw [if_pos hc] at h ⊢; exact h
    · rw [if_neg hc] at h ⊢; exact ih h
theorem sel_norm0 {l : List (SB × XK × Top)} {n : Option Top} {T T' : Top} (h : sel l n = some (none, T)) : sel l (some T') = some (none, T') := by
  induction l with
  | nil => rfl
  | cons p l ih =>
    obtain ⟨c, j, T1⟩ := p
    simp only [sel] at h ⊢
    by_cases hc : c.val = true
    · rw [if_pos hc] at h; cases h
    · rw [if_neg hc] at h ⊢; exact ih h
def outK (id : Nat) : Option XK → Option XK
  | some (.exit j) => if j = id then none else some (.exit j)
  | k => k
def LeT (R : List Ly) (T T' : Top) : Prop := Le (getT (T.ly :: R)) (getS (T.ly :: R)) (getT (T'.ly :: R)) (getS (T'.ly :: R)) ∧ T.next ≤ T'.next
theorem LeT.refl (R : List Ly) (T : Top) : LeT R T T := ⟨Le.refl _ _, Nat.le_refl _⟩
theorem isX_iff {id : Nat} {k : XK} : (isX id k = true → outK id (some k) = none) ∧ (isX id k = false → outK id (some k) = some k) := by
  cases k with
  | ret => exact ⟨fun h => (by cases h), fun _ => rfl⟩
  | exit j =>
    refine ⟨fun h => ?_, fun h => ?_⟩
    · show (if j = id then none else some (XK.exit j)) = none
      rw [if_pos (beqN.1 h)]
    · show (if j = id then none else some (XK.exit j)) = some (.exit j)
      rw [if_neg fun e => by rw [show isX id (.exit j) = true from beqN.2 e] at h; cases h]
theorem joinX_ok (R : List Ly) (id : Nat) : ∀ {l : List (SB × XK × Top)} {n : Option Top} {k : Option XK} {T : Top}, sel l n = some (k, T) → ∃ T', sel (joinX R id l n).1 (joinX R id l n).2 = some (outK id k, T') ∧ LeT R T T'
  | [], n, k, T, h => by
    cases n with
    | none => cases h
    | some T1 => cases h; exact ⟨T, rfl, LeT.refl R T⟩
  | (c, j, T1) :: l, n, k, T, h => by
    have ih : sel l n = some (k, T) → _ := fun h => joinX_ok R id (l := l) (n := n) (k := k) (T := T) h
    simp only [joinX]
    rcases hj : joinX R id l n with ⟨l', n'⟩
    rw [hj] at ih
    simp only [sel] at h
    cases hx : isX id j with
    | false =>
      simp only [sel]
      by_cases hc : c.val = true
      · rw [if_pos hc] at h ⊢
        cases h
        exact ⟨T1, by rw [isX_iff.2 hx], LeT.refl R T1⟩
      · rw [if_neg hc] at h ⊢
        exact ih h
    | true =>
      cases n' with
      | none =>
        cases c with
        | t =>
          rw [if_pos (show SB.val _ = true from rfl)] at h
          cases h
          exact ⟨T1, by simp only [sel]; rw [isX_iff.1 hx], LeT.refl R T1⟩
        | f =>
          rw [if_neg (by simp [SB.val])] at h
          obtain ⟨T', h1, h2⟩ := ih h
          refine ⟨T', ?_, h2⟩
          simp only
          rw [sel_andNot_f rfl]
          cases hk : outK id k with
          | none =>
            rw [hk] at h1
            have := (sel_none h1).1
            cases this
          | some q => rw [hk] at h1; exact sel_norm h1
        | s b =>
          cases b with
          | true =>
            rw [if_pos (show SB.val _ = true from rfl)] at h
            cases h
            refine ⟨T1, ?_, LeT.refl R T1⟩
            simp only
            rw [sel_andNot_t rfl, isX_iff.1 hx]; rfl
          | false =>
            rw [if_neg (by simp [SB.val])] at h
            obtain ⟨T', h1, h2⟩ := ih h
            refine ⟨T', ?_, h2⟩
            simp only
            rw [sel_andNot_f rfl]
            cases hk : outK id k with
            | none =>
              rw [hk] at h1
              have := (sel_none h1).1
              cases this
            | some q => rw [hk] at h1; exact sel_norm h1
      | some T2 =>
        cases c with
        | t =>
          rw [if_pos (show SB.val _ = true from rfl)] at h
          cases h
          exact ⟨T1, by simp only [sel]; rw [isX_iff.1 hx], LeT.refl R T1⟩
        | f =>
          rw [if_neg (by simp [SB.val])] at h
          exact ih h
        | s b =>
          cases b with
          | true =>
            rw [if_pos (show SB.val _ = true from rfl)] at h
            cases h
            refine ⟨mergeTop true R T1 T2, ?_, mergeTop_le1 R T1 T2 rfl, by rw [mergeTop_next]; exact Nat.le_max_left _ _⟩
            simp only
            rw [sel_andNot_t rfl, isX_iff.1 hx]; rfl
          | false =>
            rw [if_neg (by simp [SB.val])] at h
            obtain ⟨T', h1, h2⟩ := ih h
            simp only
            rw [sel_andNot_f rfl]
            cases hk : outK id k with
            | none =>
              rw [hk] at h1
              have e := (sel_none h1).1
              cases e
              refine ⟨mergeTop false R T1 T2, sel_norm0 h1, h2.1.trans (mergeTop_le2 R T1 T2 rfl), Nat.le_trans h2.2 (by rw [mergeTop_next]; exact Nat.le_max_right _ _)⟩
            | some q =>
              rw [hk] at h1
              exact ⟨T', sel_norm h1, h2⟩
theorem sel_commit (T : Top) : ∀ {l : List (SB × XK × Top)} {n : Option Top} {k : Option XK} {T' : Top}, sel l n = some (k, T') → sel (commitAll T l) (commitO T n) = some (k, commit T T')
  | [], n, k, T', h => by
    cases n with
    | none => cases h
    | some T1 => cases h; rfl
  | (c, j, T1) :: l, n, k, T', h => by
    simp only [commitAll, sel] at h ⊢
    by_cases hc : c.val = true
    · rw [if_pos hc] at h ⊢; cases h; rfl
    · rw [if_neg hc] at h ⊢; exact sel_commit T h

theorem Post.le {N : Nat} {Lim : Rg} {w0 : World} {T0 : Nat → Nat → Prop} {E : EM} {R R' : List Ly} {k : Option XK} {T T' : Top} {e : Exit} {a : Act} {w : World} (h : Post N Lim w0 T0 E R k T e a w)
    (l : Le (getT (T.ly :: R)) (getS (T.ly :: R)) (getT (T'.ly :: R')) (getS (T'.ly :: R'))) (hn : T.next ≤ T'.next) : Post N Lim w0 T0 E R' k T' e a w := by
  obtain ⟨h1, E', h2, h3⟩ := h
  exact ⟨h1, E', h2, h3.le l hn⟩
theorem SRel.over {N : Nat} {Lim : Rg} {w0 : World} {T0 : Nat → Nat → Prop} {E : EM} {T : Top} {R : List Ly} {a : Act} {w : World} (h : SRel N Lim w0 T0 E (getT (T.ly :: R)) (getS (T.ly :: R)) T.next a w) :
    SRel N Lim w0 T0 E (getT ((Top.empty T.next).ly :: T.ly :: R)) (getS ((Top.empty T.next).ly :: T.ly :: R)) (Top.empty T.next).next a w := by
  rw [getT_empty, getS_empty]; exact h

/-! ### the ways to go on -/
theorem seq_ok {P : Program} {N : Nat} {x y : Code} {f g : List Ly → Top → Option Outs} (hx : CodeOK P N x f) (hy : CodeOK P N y g) : CodeOK P N (.seq x y) (fun R T => sSeq R T f g) := by
  intro R T o h hob
  simp only [sSeq] at h
  split at h <;> try (cases h; done)
  rename_i oa ha
  cases hn : oa.nrm with
  | none =>
    rw [hn] at h; cases h
    obtain ⟨k, T', h1, h2, h3⟩ := hx R T o ha hob
    refine ⟨k, T', h1, h2, fun Lim w0 T0 E a w hr hl => wp_seq (wp_mono (h3 Lim w0 T0 E a w hr hl) fun e a' w' hp => ?_)⟩
    cases k with
    | none => rw [hn] at h1; exact absurd (sel_none h1).1 (by simp)
    | some k => cases k <;> (obtain ⟨rfl, hp⟩ := hp; exact ⟨rfl, hp⟩)
  | some T1 =>
    rw [hn] at h
    (try simp only at h)
    split at h <;> cases h
    rename_i ob hb
    obtain ⟨hoa, hob2⟩ := AllT.append (show AllT (oa.obs ++ guardObs oa.abr ob.obs) from hob)
    obtain ⟨k, T', h1, h2, h3⟩ := hx R T oa ha hoa
    cases k with
    | some k =>
      refine ⟨some k, T', (sel_app h1).1 rfl, h2, fun Lim w0 T0 E a w hr hl => wp_seq (wp_mono (h3 Lim w0 T0 E a w hr hl) fun e a' w' hp => ?_)⟩
      cases k <;> (obtain ⟨rfl, hp⟩ := hp; exact ⟨rfl, hp⟩)
    | none =>
      have e1 := (sel_none h1).1
      rw [hn] at e1
      cases e1
      obtain ⟨k, T2, g1, g2, g3⟩ := hy R T1 ob hb (guard_ok h1 hob2)
      refine ⟨k, T2, ((sel_app h1).2 rfl).2.trans g1, Nat.le_trans h2 g2, fun Lim w0 T0 E a w hr hl => wp_seq (wp_mono (h3 Lim w0 T0 E a w hr (Nat.le_trans g2 hl)) fun e a' w' hp => ?_)⟩
      obtain ⟨rfl, E', he, hr'⟩ := hp
      refine wp_mono (g3 Lim w0 T0 E' a' w' hr' hl) fun e a'' w'' hp => ?_
      obtain ⟨p1, E'', p2, p3⟩ := hp
      exact ⟨p1, E'', he.trans p2, p3⟩
theorem block_ok {P : Program} {N : Nat} {x : Code} {f : List Ly → Top → Option Outs} (hx : CodeOK P N x f) (id : Nat) : CodeOK P N (.block id x) (fun R T => sBlock id R T f) := by
  intro R T o h hob
  simp only [sBlock] at h
  split at h <;> try (cases h; done)
  rename_i ob hb
  cases h
  obtain ⟨k, T', h1, h2, h3⟩ := hx _ _ ob hb hob
  obtain ⟨T2, j1, j2, j3⟩ := joinX_ok (T.ly :: R) id h1
  refine ⟨outK id k, commit T T2, sel_commit T j1, by rw [commit_next]; exact Nat.le_trans h2 j3, fun Lim w0 T0 E a w hr hl => wp_block (wp_mono (h3 Lim w0 T0 E a w hr.over (Nat.le_trans j3 (by rw [commit_next] at hl; exact hl))) fun e a' w' hp => ?_)⟩
  have hp' : Post N Lim w0 T0 E R k (commit T T2) e a' w' := hp.le (j2.trans (commit_le T T2 R)) (by rw [commit_next]; exact j3)
  obtain ⟨rfl, hp'⟩ := hp'
  cases k with
  | none => exact ⟨rfl, hp'⟩
  | some k =>
    cases k with
    | ret => exact ⟨rfl, hp'⟩
    | exit j =>
      show (if j = id then Post N Lim w0 T0 E R (outK id (some (.exit j))) (commit T T2) .normal a' w' else Post N Lim w0 T0 E R (outK id (some (.exit j))) (commit T T2) (.exit j) a' w')
      by_cases e : j = id
      · rw [if_pos e]; exact ⟨by simp [outK, e, exitOf], hp'⟩
      · rw [if_neg e]; exact ⟨by simp [outK, e, exitOf], hp'⟩
theorem scope_ok {P : Program} {N : Nat} {x : Code} {f : List Ly → Top → Option Outs} (hx : CodeOK P N x f) : CodeOK P N (.scope x) f := by
  intro R T o h hob
  obtain ⟨k, T', h1, h2, h3⟩ := hx R T o h hob
  refine ⟨k, T', h1, h2, fun Lim w0 T0 E a w hr hl => wp_scope_straight (wp_mono (h3 Lim w0 T0 E a w hr hl) fun e a' w' hp => ?_)⟩
  obtain ⟨rfl, hp⟩ := hp
  cases k with
  | none => exact ⟨rfl, hp⟩
  | some k => cases k <;> exact ⟨rfl, hp⟩
theorem rounds_ok {P : Program} {N : Nat} {x : Code} {f : List Ly → Top → Option Outs} (hx : CodeOK P N x f) : ∀ (n : Nat) (R : List Ly) (T : Top) (o : Outs), iter f R n T = some o → AllT o.obs →
    ∃ k T', sel o.abr o.nrm = some (k, T') ∧ T.next ≤ T'.next ∧ ∀ (Lim : Rg) (w0 : World) (T0 : Nat → Nat → Prop) (E : EM) (a : Act) (w : World), SRel N Lim w0 T0 E (getT (T.ly :: R)) (getS (T.ly :: R)) T.next a w → T'.next ≤ Lim.lim → Code.rounds P x (Post N Lim w0 T0 E R k T') n a w := by
  intro n
  induction n with
  | zero => intro R T o h; cases h
  | succ n ih =>
    intro R T o h hob
    replace h : (match f R T with
      | none => none
      | some oa => match oa.nrm with
        | none => some oa
        | some T1 => match iter f R n T1 with
          | some ob => some (seqO oa ob)
          | none => none) = some o := h
    split at h <;> try (cases h; done)
    rename_i oa ha
    cases hn : oa.nrm with
    | none =>
      rw [hn] at h; cases h
      obtain ⟨k, T', h1, h2, h3⟩ := hx R T o ha hob
      refine ⟨k, T', h1, h2, fun Lim w0 T0 E a w hr hl => ?_⟩
      rw [rounds_succ]
      refine wp_mono (h3 Lim w0 T0 E a w hr hl) fun e a' w' hp => ?_
      cases k with
      | none => rw [hn] at h1; exact absurd (sel_none h1).1 (by simp)
      | some k => cases k <;> (obtain ⟨rfl, hp⟩ := hp; exact ⟨rfl, hp⟩)
    | some T1 =>
      rw [hn] at h
      (try simp only at h)
      split at h <;> cases h
      rename_i ob hb
      obtain ⟨hoa, hob2⟩ := AllT.append (show AllT (oa.obs ++ guardObs oa.abr ob.obs) from hob)
      obtain ⟨k, T', h1, h2, h3⟩ := hx R T oa ha hoa
      cases k with
      | some k =>
        refine ⟨some k, T', (sel_app h1).1 rfl, h2, fun Lim w0 T0 E a w hr hl => ?_⟩
        rw [rounds_succ]
        refine wp_mono (h3 Lim w0 T0 E a w hr hl) fun e a' w' hp => ?_
        cases k <;> (obtain ⟨rfl, hp⟩ := hp; exact ⟨rfl, hp⟩)
      | none =>
        have e1 := (sel_none h1).1
        rw [hn] at e1
        cases e1
        obtain ⟨k, T2, g1, g2, g3⟩ := ih R T1 ob hb (guard_ok h1 hob2)
        refine ⟨k, T2, ((sel_app h1).2 rfl).2.trans g1, Nat.le_trans h2 g2, fun Lim w0 T0 E a w hr hl => ?_⟩
        rw [rounds_succ]
        refine wp_mono (h3 Lim w0 T0 E a w hr (Nat.le_trans g2 hl)) fun e a' w' hp => ?_
        obtain ⟨rfl, E', he, hr'⟩ := hp
        show Code.rounds P x (Post N Lim w0 T0 E R k T2) n a' w'
        have hmono : ∀ (n : Nat) (a : Act) (w : World), Code.rounds P x (Post N Lim w0 T0 E' R k T2) n a w → Code.rounds P x (Post N Lim w0 T0 E R k T2) n a w := by
          intro n
          induction n with
          | zero => intro a w h; exact h
          | succ n ihn =>
            intro a w h
            rw [rounds_succ] at h ⊢
            refine wp_mono h fun e a'' w'' hp => ?_
            cases e with
            | normal => exact ihn _ _ hp
            | _ => obtain ⟨p1, E'', p2, p3⟩ := hp; exact ⟨p1, E'', he.trans p2, p3⟩
        exact hmono n a' w' (g3 Lim w0 T0 E' a' w' hr' hl)
theorem loop_ok {P : Program} {N : Nat} {x : Code} {f : List Ly → Top → Option Outs} (hx : CodeOK P N x f) (n : Nat) : CodeOK P N (.loop x) (fun R T => iter f R n T) := by
  intro R T o h hob
  obtain ⟨k, T', h1, h2, h3⟩ := rounds_ok hx n R T o h hob
  exact ⟨k, T', h1, h2, fun Lim w0 T0 E a w hr hl => wp_loop_rounds n (h3 Lim w0 T0 E a w hr hl)⟩
theorem evC_eval {E : EM} {gt : Nat → SV} {a : Act} (hT : ∀ t, RelV E (gt t) (a.tmps.getD t undef)) {c : Operand} {x : SC} (h : evC gt c = some x) : RelC E x (a.eval c) := by
  unfold evC at h
  split at h <;> cases h
  rename_i hv
  exact ev_ok hT hv
theorem cond_ok {P : Program} {N : Nat} {h : Hn} {x y : Code} {f g : List Ly → Top → Option Outs} (hx : CodeOK P N x f) (hy : CodeOK P N y g) (c : Operand) : CodeOK P N (.cond c x y) (fun R T => sCond h T R c f g) := by
  intro R T o ho hob
  simp only [sCond] at ho
  split at ho <;> try (cases ho; done)
  · rename_i hv
    obtain ⟨k, T', h1, h2, h3⟩ := hx R T o ho hob
    exact ⟨k, T', h1, h2, fun Lim w0 T0 E a w hr hl => wp_cond_true (evC_eval hr.tm hv) (h3 Lim w0 T0 E a w hr hl)⟩
  · rename_i hv
    obtain ⟨k, T', h1, h2, h3⟩ := hy R T o ho hob
    exact ⟨k, T', h1, h2, fun Lim w0 T0 E a w hr hl => wp_cond_false (evC_eval hr.tm hv) (h3 Lim w0 T0 E a w hr hl)⟩
  · rename_i b hv
    split at ho
    · split at ho <;> cases ho
      rename_i o1 h1
      have hb : b = true := AllT.head hob
      obtain ⟨k, T', h1, h2, h3⟩ := hx R T o1 h1 (AllT.tail hob)
      refine ⟨k, T', h1, h2, fun Lim w0 T0 E a w hr hl => wp_cond_true ?_ (h3 Lim w0 T0 E a w hr hl)⟩
      have := evC_eval hr.tm hv
      rw [hb] at this; exact this
    · split at ho <;> cases ho
      rename_i o1 h1
      have hb : (!b) = true := AllT.head hob
      obtain ⟨k, T', h1, h2, h3⟩ := hy R T o1 h1 (AllT.tail hob)
      refine ⟨k, T', h1, h2, fun Lim w0 T0 E a w hr hl => wp_cond_false ?_ (h3 Lim w0 T0 E a w hr hl)⟩
      have := evC_eval hr.tm hv
      rw [show b = false by cases b <;> simp_all] at this; exact this
    · split at ho <;> cases ho
      rename_i ox oy h1 h2
      obtain ⟨hob1, hob2⟩ := AllT.append hob
      cases hb : b with
      | true =>
        have hoX : AllT ox.obs := fun q hq => by
          have := hob1 (!b || q) (List.mem_map.2 ⟨q, hq, rfl⟩)
          rw [hb] at this; exact this
        obtain ⟨k, T', k1, k2, k3⟩ := hx _ _ ox h1 hoX
        have hsel := sel_lift_t (b := .s true) rfl T (n' := mergeN true R T ox.nrm oy.nrm) (m := lift T (.s (!true)) oy.abr) k1
        cases k with
        | some j =>
          refine ⟨some j, commit T T', hsel.1 j rfl, by rw [commit_next]; exact k2, fun Lim w0 T0 E a w hr hl => wp_cond_true ?_ (wp_mono (k3 Lim w0 T0 E a w hr.over (by rw [commit_next] at hl; exact hl)) fun e a' w' hp => hp.le (commit_le T T' R) (by rw [commit_next]; exact Nat.le_refl _))⟩
          have := evC_eval hr.tm hv
          rw [hb] at this; exact this
        | none =>
          obtain ⟨hn, hs⟩ := hsel.2 rfl
          have hs2 : sel (lift T (.s (!true)) oy.abr) (mergeN true R T ox.nrm oy.nrm) = sel [] (mergeN true R T ox.nrm oy.nrm) := by
            have := sel_lift_f (b := .s (!true)) rfl T (n := mergeN true R T ox.nrm oy.nrm) (m := []) (l := oy.abr)
            rwa [List.append_nil] at this
          have key : ∃ T'', mergeN true R T ox.nrm oy.nrm = some T'' ∧ Le (getT (T'.ly :: T.ly :: R)) (getS (T'.ly :: T.ly :: R)) (getT (T''.ly :: R)) (getS (T''.ly :: R)) ∧ T'.next ≤ T''.next := by
            rw [hn]
            cases oy.nrm with
            | none => exact ⟨commit T T', rfl, commit_le T T' R, by rw [commit_next]; exact Nat.le_refl _⟩
            | some T2 => exact ⟨_, rfl, (mergeTop_le1 (T.ly :: R) T' T2 rfl).trans (commit_le T _ R), by rw [commit_next, mergeTop_next]; exact Nat.le_max_left _ _⟩
          obtain ⟨T'', e1, e2, e3⟩ := key
          refine ⟨none, T'', (hs.trans hs2).trans (by rw [e1]; rfl), Nat.le_trans k2 e3, fun Lim w0 T0 E a w hr hl => wp_cond_true ?_ (wp_mono (k3 Lim w0 T0 E a w hr.over (Nat.le_trans e3 hl)) fun e a' w' hp => hp.le e2 e3)⟩
          have := evC_eval hr.tm hv
          rw [hb] at this; exact this
      | false =>
        have hoY : AllT oy.obs := fun q hq => by
          have := hob2 (b || q) (List.mem_map.2 ⟨q, hq, rfl⟩)
          rw [hb] at this; exact this
        obtain ⟨k, T', k1, k2, k3⟩ := hy _ _ oy h2 hoY
        have hf := sel_lift_f (b := .s false) rfl T (n := mergeN false R T ox.nrm oy.nrm) (m := lift T (.s (!false)) oy.abr) (l := ox.abr)
        have hsel := sel_lift_t (b := .s (!false)) rfl T (n' := mergeN false R T ox.nrm oy.nrm) (m := []) k1
        rw [List.append_nil] at hsel
        cases k with
        | some j =>
          refine ⟨some j, commit T T', hf.trans (hsel.1 j rfl), by rw [commit_next]; exact k2, fun Lim w0 T0 E a w hr hl => wp_cond_false ?_ (wp_mono (k3 Lim w0 T0 E a w hr.over (by rw [commit_next] at hl; exact hl)) fun e a' w' hp => hp.le (commit_le T T' R) (by rw [commit_next]; exact Nat.le_refl _))⟩
          have := evC_eval hr.tm hv
          rw [hb] at this; exact this
        | none =>
          obtain ⟨hn, hs⟩ := hsel.2 rfl
          have key : ∃ T'', mergeN false R T ox.nrm oy.nrm = some T'' ∧ Le (getT (T'.ly :: T.ly :: R)) (getS (T'.ly :: T.ly :: R)) (getT (T''.ly :: R)) (getS (T''.ly :: R)) ∧ T'.next ≤ T''.next := by
            rw [hn]
            cases ox.nrm with
            | none => exact ⟨commit T T', rfl, commit_le T T' R, by rw [commit_next]; exact Nat.le_refl _⟩
            | some T2 => exact ⟨_, rfl, (mergeTop_le2 (T.ly :: R) T2 T' rfl).trans (commit_le T _ R), by rw [commit_next, mergeTop_next]; exact Nat.le_max_right _ _⟩
          obtain ⟨T'', e1, e2, e3⟩ := key
          refine ⟨none, T'', (hf.trans hs).trans (by rw [e1]; rfl), Nat.le_trans k2 e3, fun Lim w0 T0 E a w hr hl => wp_cond_false ?_ (wp_mono (k3 Lim w0 T0 E a w hr.over (Nat.le_trans e3 hl)) fun e a' w' hp => hp.le e2 e3)⟩
          have := evC_eval hr.tm hv
          rw [hb] at this; exact this

/-- The bodies of the loops. -/
def loopsIn : Code → List Code
  | .seq a b => loopsIn a ++ loopsIn b
  | .cond _ a b => loopsIn a ++ loopsIn b
  | .block _ b => loopsIn b
  | .loop b => b :: loopsIn b
  | .scope b => loopsIn b
  | _ => []

section
variable {cx : Cx} (hO : cx.O = fops) (hC : ∀ f S, cx.orc f = some S → CallOK cx.P f S) (hmx : cx.P.follows .mixedOrders = true)
include hO hC hmx
theorem reg_ok {N : Nat} (id : Nat) (ops : Array Oper) (draw : Bool) : CodeOK cx.P N (.region id ops draw) (fun R T => sReg cx N ops draw R T) := by
  intro R T o h hob
  simp only [sReg] at h
  split at h <;> try (cases h; done)
  rename_i hst
  split at h <;> cases h
  rename_i T' ob hs
  obtain ⟨es, s1, s2, s3, s4⟩ := srg_path hs hob
  refine ⟨none, T', rfl, Nat.le_trans (Steps.mono s1) s4, fun Lim w0 T0 E a w hr hl => ?_⟩
  have hQ : ∀ E' a' w', Ext E E' → SRel N Lim w0 T0 E' (stT ops.toList es (getT (T.ly :: R))) (stS es (getS (T.ly :: R))) (stN es T.next) a' w' → Post N Lim w0 T0 E R none T' .normal a' w' :=
    fun E' a' w' he hr' => ⟨rfl, E', he, hr'.le s3 s4⟩
  cases draw with
  | true => exact wp_draw hO hC hmx hst s1 (s2 rfl) hr (Nat.le_trans s4 hl) hQ
  | false =>
    refine wp_region ?_
    have := steps_seq hO hC (Q := Post N Lim w0 T0 E R none T') s1 (k := 0) (fun j => by rw [Nat.zero_add, Array.getElem?_toList]) hr (Nat.le_trans s4 hl) hQ
    rwa [Array.length_toList, ← List.range_eq_range'] at this
theorem sx_ok {N : Nat} {h : Hn} : ∀ (c : Code), (∀ b ∈ loopsIn c, ∀ L, h.loops (regId b) = some L → CodeOK cx.P N (.loop b) L) → CodeOK cx.P N c (sx cx N h c)
  | .skip, _ => fun R T o ho _ => by
    cases (show (some (⟨[], some T, []⟩ : Outs)) = some o from ho)
    exact ⟨none, T, rfl, Nat.le_refl _, fun Lim w0 T0 E a w hr _ => wp_skip ⟨rfl, E, Ext.refl E, hr⟩⟩
  | .region id ops draw, _ => reg_ok hO hC hmx id ops draw
  | .seq a b, hl => seq_ok (sx_ok a fun x hx => hl x (by simp [loopsIn, hx])) (sx_ok b fun x hx => hl x (by simp [loopsIn, hx]))
  | .cond c a b, hl => cond_ok (sx_ok a fun x hx => hl x (by simp [loopsIn, hx])) (sx_ok b fun x hx => hl x (by simp [loopsIn, hx])) c
  | .block id b, hl => block_ok (sx_ok b fun x hx => hl x (by simp [loopsIn, hx])) id
  | .loop b, hl => by
    have ih := sx_ok b fun x hx => hl x (by simp [loopsIn, hx])
    show CodeOK cx.P N (.loop b) (fun R T => sLoop h (regId b) (sx cx N h b) R T)
    unfold sLoop
    cases hL : h.loops (regId b) with
    | none => exact loop_ok ih 60
    | some L => exact hl b (by simp [loopsIn]) L hL
  | .rangeFunc .., _ => fun R T o ho _ => by cases ho
  | .exit id, _ => fun R T o ho _ => by
    cases (show (some (⟨[(.t, .exit id, T)], none, []⟩ : Outs)) = some o from ho)
    exact ⟨some (.exit id), T, rfl, Nat.le_refl _, fun Lim w0 T0 E a w hr _ => wp_exit ⟨rfl, E, Ext.refl E, hr⟩⟩
  | .scope b, hl => scope_ok (sx_ok b fun x hx => hl x (by simp [loopsIn, hx]))
  | .label _, _ => fun R T o ho _ => by cases ho
  | .goto _, _ => fun R T o ho _ => by cases ho
  | .ret, _ => fun R T o ho _ => by
    cases (show (some (⟨[(.t, .ret, T)], none, []⟩ : Outs)) = some o from ho)
    exact ⟨some .ret, T, rfl, Nat.le_refl _, fun Lim w0 T0 E a w hr _ => wp_ret ⟨rfl, E, Ext.refl E, hr⟩⟩
  | .refuse _, _ => fun R T o ho _ => by cases ho
end

end Go.Proofs.YtaodbpejeglmlaaDoor
