/- A loop of any number of rounds: the rule. Nothing is assumed. -/
import Derived.Test.YtaodbpejeglmlaaDoorLp
namespace Go.Proofs.YtaodbpejeglmlaaDoor
open Go
noncomputable section

theorem anysK_eq {β : Type} : ∀ (N : Nat) (T : Top) (f : Top → β), anysK N T f = f (anys N T)
  | 0, T, f => rfl
  | n + 1, T, f => by
    show T.setTK n .any (fun T' => anysK n T' f) = f (anys n (T.setT n .any))
    have : ∀ T', anysK n T' f = f (anys n T') := fun T' => anysK_eq n T' f
    simp only [this]
    show Tr.setK (SV.any) T.ly.t n _ = _
    rw [Tr.setK_eq]; rfl
theorem setTsK_eq {β : Type} : ∀ (l : List (Nat × SV)) (T : Top) (f : Top → β), setTsK l T f = f (setTs l T)
  | [], T, f => rfl
  | p :: l, T, f => by
    show T.setTK p.1 p.2 (fun T' => setTsK l T' f) = f (setTs l (T.setT p.1 p.2))
    have : ∀ T', setTsK l T' f = f (setTs l T') := fun T' => setTsK_eq l T' f
    simp only [this]
    show Tr.setK p.2 T.ly.t p.1 _ = _
    rw [Tr.setK_eq]; rfl
def onT (N : Nat) (kt ks : List Nat) (nx : Nat) (a : List (Nat × SV)) (b : List (Nat × Option Seg)) : Top :=
  ((setTs a (setTs (kt.map fun t => (t, .any)) (anys N (Top.empty nx)))).setSs (ks.map fun i => (i, none))).setSs b
theorem onK_some {β : Type} {N : Nat} {kt ks : List Nat} {sk : Sk} {nx : Nat} {p : List LD} {f : Top → Option β} {r : β} (h : onK N kt ks sk nx p f = some r) :
    ∃ a b p', bTs sk.tms p = some (a, p') ∧ bSs sk.segs p' = some (b, []) ∧ f (onT N kt ks nx a b) = some r := by
  unfold onK at h
  obtain ⟨a, ha, h⟩ := bindO_some h
  obtain ⟨b, hb, h⟩ := bindO_some h
  split at h <;> try (cases h; done)
  rename_i hb2
  rw [anysK_eq, setTsK_eq, setTsK_eq, setSsK_eq, setSsK_eq] at h
  exact ⟨a.1, b.1, a.2, ha, by rw [hb, ← hb2], h⟩
theorem setSs_next : ∀ (l : List (Nat × Option Seg)) (T : Top), (T.setSs l).next = T.next
  | [], _ => rfl
  | p :: l, T => setSs_next l (T.setS p.1 p.2)
theorem setTs_next : ∀ (l : List (Nat × SV)) (T : Top), (setTs l T).next = T.next
  | [], _ => rfl
  | p :: l, T => setTs_next l (T.setT p.1 p.2)
theorem anys_next : ∀ (n : Nat) (T : Top), (anys n T).next = T.next
  | 0, _ => rfl
  | n + 1, T => anys_next n (T.setT n .any)
theorem onT_next (N : Nat) (kt ks : List Nat) (nx : Nat) (a : List (Nat × SV)) (b : List (Nat × Option Seg)) : (onT N kt ks nx a b).next = nx := by
  unfold onT; rw [setSs_next, setSs_next, setTs_next, setTs_next, anys_next]; rfl
theorem setTs_good {Q : Nat → SV → Prop} (R : List Ly) : ∀ (l : List (Nat × SV)) (T : Top), (∀ t x, (t, x) ∈ l → Q t x) → (∀ t, Q t (getT (T.ly :: R) t)) → ∀ t, Q t (getT ((setTs l T).ly :: R) t)
  | [], T, _, h => h
  | p :: l, T, h1, h => setTs_good R l (T.setT p.1 p.2) (fun t x hx => h1 t x (List.mem_cons.2 (.inr hx))) fun t => by
    rw [getT_setT]
    by_cases e : t = p.1
    · subst e; rw [upd_same]; exact h1 _ _ (List.mem_cons.2 (.inl rfl))
    · rw [upd_other _ _ e]; exact h t
theorem setTs_S (R : List Ly) : ∀ (l : List (Nat × SV)) (T : Top), getS ((setTs l T).ly :: R) = getS (T.ly :: R)
  | [], T => rfl
  | p :: l, T => (setTs_S R l (T.setT p.1 p.2)).trans (getS_setT T p.1 p.2 R)
theorem anys_S (R : List Ly) : ∀ (n : Nat) (T : Top), getS ((anys n T).ly :: R) = getS (T.ly :: R)
  | 0, T => rfl
  | n + 1, T => (anys_S R n (T.setT n .any)).trans (getS_setT T n .any R)
theorem anys_T (R : List Ly) : ∀ (n : Nat) (T : Top) (t : Nat), getT ((anys n T).ly :: R) t = if t < n then .any else getT (T.ly :: R) t
  | 0, T, t => by rw [if_neg (Nat.not_lt_zero t)]; rfl
  | n + 1, T, t => by
    show getT ((anys n (T.setT n .any)).ly :: R) t = _
    rw [anys_T R n, getT_setT]
    by_cases e : t = n
    · subst e; simp [upd_same]
    · rw [upd_other _ _ e]
      by_cases h : t < n
      · simp [h, Nat.lt_succ_of_lt h]
      · have : ¬ t < n + 1 := by omega
        simp [h, this]
theorem cover_T (R : List Ly) (N : Nat) (kt : List Nat) (nx : Nat) (hk : ∀ t, t ∉ kt → getT R t = .undef) (t : Nat) :
    getT ((setTs (kt.map fun t => (t, .any)) (anys N (Top.empty nx))).ly :: R) t = .any ∨ (N ≤ t ∧ getT ((setTs (kt.map fun t => (t, .any)) (anys N (Top.empty nx))).ly :: R) t = .undef) := by
  have gen : ∀ (kt : List Nat) (T : Top), getT ((setTs (kt.map fun t => (t, .any)) T).ly :: R) t = if t ∈ kt then .any else getT (T.ly :: R) t := by
    intro kt
    induction kt with
    | nil => intro T; simp [setTs]
    | cons k kt ih =>
      intro T
      show getT ((setTs (kt.map fun t => (t, .any)) (T.setT k .any)).ly :: R) t = _
      rw [ih, getT_setT]
      by_cases e : t = k
      · subst e; simp [upd_same]
      · rw [upd_other _ _ e]; simp [e]
  rw [gen]
  split
  · exact .inl rfl
  · rename_i h
    rw [anys_T]
    split
    · exact .inl rfl
    · rename_i h2
      rw [getT_empty]
      exact .inr ⟨by omega, hk t h⟩
theorem onT_S {R : List Ly} {N : Nat} {kt ks : List Nat} {nx : Nat} {a : List (Nat × SV)} {b : List (Nat × Option Seg)} (hk : ∀ i, i ∉ ks → getS R i = none) {j : Nat} {g : Seg} (h : getS ((onT N kt ks nx a b).ly :: R) j = some g) : (j, some g) ∈ b := by
  unfold onT at h
  rw [getS_setSs, getS_setSs, setTs_S, setTs_S, anys_S, getS_empty] at h
  rcases updSs_cases (updSs (getS R) (ks.map fun i => (i, none))) (fun _ => none) b j with ⟨v, h1, _, h3⟩ | ⟨h1, _, _⟩
  · rw [h1] at h; subst h; exact h3
  · rw [h1] at h
    rcases updSs_cases (getS R) (fun _ => none) (ks.map fun i => (i, (none : Option Seg))) j with ⟨v, h4, _, h6⟩ | ⟨h4, _, h6⟩
    · rw [h4] at h; subst h
      simp at h6
    · rw [h4] at h
      have : j ∉ ks := fun hm => h6 none (List.mem_map.2 ⟨j, hm, rfl⟩)
      rw [hk j this] at h; cases h
theorem frOf_ne {ρ : List (Nat × Nat)} {nx0 : Nat} (h : rnOk nx0 ρ = true) {j : Nat} (hj : frOf ρ j ≠ j) : nx0 ≤ j := by
  induction ρ with
  | nil => exact absurd rfl hj
  | cons p ρ ih =>
    obtain ⟨i, k⟩ := p
    have h' : (Nat.ble nx0 k && rnOk nx0 ρ) = true := h
    simp only [Bool.and_eq_true, Nat.ble_eq] at h'
    unfold frOf at hj
    split at hj
    · rename_i hb; rw [← beqN.1 hb]; exact h'.1
    · exact ih h'.2 hj

/-- From a state that has the shape to the state of that shape. -/
theorem on_srel {N : Nat} {Lim : Rg} {w0 w : World} {T0 : Nat → Nat → Prop} {E E0 : EM} {tm : Nat → SV} {sg : Nat → Option Seg} {next nx0 nx : Nat} {a : Act} {ρ : List (Nat × Nat)} {sk : Sk} {p : List LD} {ob : List Bool} {R : List Ly} {kt ks : List Nat}
    (hr : SRel N Lim w0 T0 E tm sg next a w) (he : Ext E0 E) (hm : mAll ρ sk tm sg = some (p, ob)) (hob : AllT ob) (hρ : rnOk nx0 ρ = true) (h1 : nx0 ≤ sk.next) (h2 : sk.next ≤ nx) (h7 : sk.next ≤ Lim.lim) (h3 : next ≤ Lim.lim) (h4 : ∀ i, nx0 ≤ i → i < Lim.lim → E0 i = none) (h5 : Lim.base ≤ nx0) (h6 : 1 ≤ nx0)
    (hkt : ∀ t, t ∉ kt → getT R t = .undef) (hks : ∀ i, i ∉ ks → getS R i = none) :
    ∃ va vb p', bTs sk.tms p = some (va, p') ∧ bSs sk.segs p' = some (vb, []) ∧ ∃ E'', Ext E0 E'' ∧ SRel N Lim w0 T0 E'' (getT ((onT N kt ks nx va vb).ly :: R)) (getS ((onT N kt ks nx va vb).ly :: R)) nx a w := by
  unfold mAll at hm
  split at hm <;> try (cases hm; done)
  rename_i hap
  obtain ⟨la, hla, hm⟩ := bindO_some hm
  obtain ⟨lb, hlb, hm⟩ := bindO_some hm
  cases hm
  obtain ⟨va, g1, g2⟩ := mTs_ok (lim := Lim.lim) hla
  obtain ⟨vb, g3, g4⟩ := mSs_ok (lim := Lim.lim) hlb hob
  refine ⟨va, vb, lb.1, g1 lb.1, by have := g3 []; rwa [List.append_nil] at this, reE ρ sk.next Lim.lim E, ?_, ?_⟩
  · intro i x hx
    unfold reE
    by_cases hi : nx0 ≤ i
    · have : Lim.lim ≤ i := Nat.le_of_not_lt fun hl => by rw [h4 i hi hl] at hx; cases hx
      by_cases hn : i < sk.next
      · rw [if_pos hn]
        omega
      · rw [if_neg hn, if_pos this]; exact he i x hx
    · have hn : i < sk.next := by omega
      rw [if_pos hn]
      have hf : frOf ρ i = i := Classical.byContradiction fun hne => hi (frOf_ne hρ hne)
      rw [hf]; exact he i x hx
  · have hsz := hr.size
    refine ⟨?_, hr.size, hr.dfr, ?_, ?_, hr.old, by omega, by omega⟩
    · have hT : ∀ t, RelV (reE ρ sk.next Lim.lim E) (getT ((setTs va (setTs (kt.map fun t => (t, .any)) (anys N (Top.empty nx)))).ly :: R) t) (a.tmps.getD t undef) := by
        refine setTs_good (Q := fun t x => RelV (reE ρ sk.next Lim.lim E) x (a.tmps.getD t undef)) R va _ (fun t x hx => g2 t x hx E _ (hr.tm t)) fun t => ?_
        rcases cover_T R N kt nx hkt t with h | ⟨hN, h⟩
        · rw [h]; trivial
        · rw [h]
          show a.tmps.getD t undef = undef
          rw [Array.getD_eq_getD_getElem?, Array.getElem?_eq_none (by omega)]; rfl
      intro t
      unfold onT
      rw [getT_setSs, getT_setSs]
      exact hT t
    · have hin : ∀ j g', getS ((onT N kt ks nx va vb).ly :: R) j = some g' → j ∈ fstsN sk.segs ∧ j < sk.next ∧ ∃ g, sg (frOf ρ j) = some g ∧ SegRe ρ sk.next Lim.lim g g' := by
        intro j g' hj
        obtain ⟨q1, q2, g, g'', q3, q4, q5⟩ := g4 j _ (onT_S hks hj)
        cases q4
        exact ⟨q1, q2, g, q3, q5⟩
      have hE : ∀ j, j < sk.next → reE ρ sk.next Lim.lim E j = E (frOf ρ j) := fun j hj => if_pos hj
      refine ⟨fun j g' hj => ?_, fun i j g k b o z b' o' z' hij hi hj hrw hEi hEj => ?_, fun j g' b o z hj hrw hEj => ?_, hr.mem.fr, hr.mem.tab⟩
      · obtain ⟨_, q2, g, q3, q5⟩ := hin j g' hj
        obtain ⟨b, o, z, cs, T, fr, e, s⟩ := hr.mem.segs _ g q3
        refine ⟨b, o, z, cs, T, fr, (hE j q2).trans e, s.heap, by rw [q5.len]; exact s.le, s.fit, fun h => s.own (q5.own h), fun h => s.fz (q5.rw h), fun k hk => ?_⟩
        rw [q5.len] at hk
        obtain ⟨v, c1, c2⟩ := s.cell k hk
        exact ⟨v, c1, q5.at_ E k v hk c2⟩
      · obtain ⟨a1, a2, ga, a3, a5⟩ := hin i g hi
        obtain ⟨b1, b2, gb, b3, b5⟩ := hin j k hj
        rw [hE i a2] at hEi
        rw [hE j b2] at hEj
        exact hr.mem.disj _ _ ga gb b o z b' o' z' (apartR_ok hap a1 b1 hij) a3 b3 (hrw.imp a5.rw b5.rw) hEi hEj
      · obtain ⟨_, q2, g, q3, q5⟩ := hin j g' hj
        rw [hE j q2] at hEj
        exact hr.mem.tch _ g b o z q3 (q5.rw hrw) hEj
    · intro i hi
      unfold reE at hi
      split at hi
      · rename_i hn
        by_cases hf : frOf ρ i = i
        · rw [hf] at hi
          exact (hr.news i hi).imp id fun h => ⟨h.1, by omega⟩
        · exact .inr ⟨Nat.le_trans h5 (frOf_ne hρ hf), by omega⟩
      · split at hi
        · rename_i hl
          rcases hr.news i hi with h | h
          · exact .inl h
          · omega
        · exact absurd rfl hi
theorem way_sel : ∀ {l : List (SB × XK × Top)} {n : Option Top} {r : Option XK × Top}, way l n = some r → sel l n = some r
  | [], some T, r, h => by cases h; rfl
  | [], none, r, h => by cases h
  | (.t, k, T) :: l, n, r, h => by cases h; rfl
  | (.f, k, T) :: l, n, r, h => by
    have := way_sel (l := l) (n := n) (r := r) h
    simpa [sel, SB.val] using this
  | (.s b, k, T) :: l, n, r, h => by cases h

section
variable {P : Program} {N : Nat} {Lim : Rg} {w0 : World} {T0 : Nat → Nat → Prop}
/-- What a state of the shape says. -/
def StR (N : Nat) (Lim : Rg) (w0 : World) (T0 : Nat → Nat → Prop) (sk : Sk) (p : List LD) (E : EM) (a : Act) (w : World) : Prop :=
  ∃ va vb p', bTs sk.tms p = some (va, p') ∧ bSs sk.segs p' = some (vb, []) ∧ SRel N Lim w0 T0 E (getT [(onT N [] [] sk.next va vb).ly]) (getS [(onT N [] [] sk.next va vb).ly]) sk.next a w
/-- What a state says that has the shape. -/
def MtR (N : Nat) (Lim : Rg) (w0 : World) (T0 : Nat → Nat → Prop) (mx : Nat) (ρ : List (Nat × Nat)) (sk : Sk) (p : List LD) (E0 : EM) (a : Act) (w : World) : Prop :=
  ∃ E tm sg next ob, Ext E0 E ∧ SRel N Lim w0 T0 E tm sg next a w ∧ mAll ρ sk tm sg = some (p, ob) ∧ AllT ob ∧ next ≤ mx
theorem MtR.st {mx nx0 : Nat} {ρ : List (Nat × Nat)} {sk : Sk} {p : List LD} {E0 : EM} {a : Act} {w : World} (h : MtR N Lim w0 T0 mx ρ sk p E0 a w) (hρ : rnOk nx0 ρ = true) (h1 : nx0 ≤ sk.next) (h7 : sk.next ≤ mx) (h3 : mx ≤ Lim.lim) (h4 : ∀ i, nx0 ≤ i → i < Lim.lim → E0 i = none) (h5 : Lim.base ≤ nx0) (h6 : 1 ≤ nx0) :
    ∃ E, Ext E0 E ∧ StR N Lim w0 T0 sk p E a w := by
  obtain ⟨E, tm, sg, next, ob, he, hr, hm, hob, hn⟩ := h
  obtain ⟨va, vb, p', g1, g2, E'', g3, g4⟩ := on_srel (R := []) (kt := []) (ks := []) hr he hm hob hρ h1 (Nat.le_refl _) (Nat.le_trans h7 h3) (Nat.le_trans hn h3) h4 h5 h6 (fun _ _ => rfl) (fun _ _ => rfl)
  exact ⟨E'', g3, va, vb, p', g1, g2, g4⟩
variable {cx : Cx} {h : Hn} {x : Code} {nx0 mx : Nat} {sk : Sk}
theorem goL_ok (hx : CodeOK P N x (sx cx N h x)) {ρ : List (Nat × Nat)} {skE : Sk} {p q : List LD} {k : Option XK} {ob : List Bool} (hgo : goL cx N h x nx0 mx sk ρ skE p = some (k, q, ob)) (hob : AllT ob) {E E0 : EM} {a : Act} {w : World} (he : Ext E0 E)
    (hr : StR N Lim w0 T0 sk p E a w) (hl : mx ≤ Lim.lim) : x.wp P (fun e a' w' => e = exitOf k ∧ MtR N Lim w0 T0 mx ρ skE q E0 a' w') a w ∧ rnOk nx0 ρ = true ∧ nx0 ≤ sk.next ∧ nx0 ≤ skE.next ∧ skE.next ≤ mx ∧ 1 ≤ nx0 := by
  unfold goL at hgo
  split at hgo <;> try (cases hgo; done)
  rename_i hc
  simp only [Bool.and_eq_true, Nat.ble_eq] at hc
  obtain ⟨va, vb, p', g1, g2, g3⟩ := onK_some hgo
  obtain ⟨va', vb', p'', k1, k2, k3⟩ := hr
  rw [g1] at k1; cases k1
  rw [g2] at k2; cases k2
  obtain ⟨o, ho, g3⟩ := bindO_some g3
  obtain ⟨r, hw, g3⟩ := bindO_some g3
  split at g3 <;> try (cases g3; done)
  rename_i hb
  obtain ⟨m, hm, g3⟩ := bindO_some g3
  cases g3
  obtain ⟨hob1, hob2⟩ := hob.append
  obtain ⟨k', T', s1, s2, s3⟩ := hx _ _ o ho hob1
  rw [way_sel hw] at s1
  cases s1
  rw [Nat.ble_eq] at hb
  refine ⟨wp_mono (s3 Lim w0 T0 E a w (by rw [onT_next]; exact k3) (Nat.le_trans hb hl)) fun e a' w' hp => ?_, hc.1, hc.2.1, hc.2.2.1, hc.2.2.2.1, hc.2.2.2.2⟩
  obtain ⟨rfl, E', he', hr'⟩ := hp
  exact ⟨rfl, E', _, _, _, _, he.trans he', hr', hm, hob2, hb⟩
end

/-- The way of the number 'j', and what is asked for it to be taken. -/
def wayJ (l : List (SB × XK × Top)) (n : Option Top) : Nat → Option ((Option XK × Top) × List Bool) :=
  List.rec (motive := fun _ => Nat → Option ((Option XK × Top) × List Bool)) (fun _ => Option.rec none (fun T => some ((none, T), [])) n)
    (fun p _ ih j => Nat.rec (motive := fun _ => Option ((Option XK × Top) × List Bool)) (some ((some p.2.1, p.2.2), [p.1.val])) (fun j' _ => bindO (ih j') fun r => some (r.1, (!p.1.val) :: r.2)) j) l
theorem wayJ_sel : ∀ {l : List (SB × XK × Top)} {n : Option Top} {j : Nat} {r : Option XK × Top} {ob : List Bool}, wayJ l n j = some (r, ob) → AllT ob → sel l n = some r
  | [], some T, j, r, ob, h, _ => by cases h; rfl
  | [], none, j, r, ob, h, _ => by cases h
  | (c, k, T) :: l, n, 0, r, ob, h, hob => by
    cases h
    have hc : c.val = true := hob.head
    simp [sel, hc]
  | (c, k, T) :: l, n, j + 1, r, ob, h, hob => by
    obtain ⟨r', hr', h⟩ := bindO_some (show (bindO (wayJ l n j) fun r => some (r.1, (!c.val) :: r.2)) = some (r, ob) from h)
    cases h
    have hc : (!c.val) = true := hob.head
    have hc' : c.val = false := by simpa using hc
    have := wayJ_sel (l := l) (n := n) (j := j) (r := r'.1) (ob := r'.2) hr' hob.tail
    simp [sel, hc', this]
/-- One round, where the way of the number 'j' is taken. -/
def goJ (cx : Cx) (N : Nat) (h : Hn) (x : Code) (j nx0 mx : Nat) (sk : Sk) (ρ : List (Nat × Nat)) (skE : Sk) (p : List LD) : Option (Option XK × List LD × List Bool) :=
  match rnOk nx0 ρ && (Nat.ble nx0 sk.next && (Nat.ble nx0 skE.next && (Nat.ble skE.next mx && Nat.ble 1 nx0))) with
  | false => none
  | true => onK N [] [] sk sk.next p fun T => bindO (sx cx N h x [] T) fun o => bindO (wayJ o.abr o.nrm j) fun r => match Nat.ble r.1.2.next mx with
    | true => bindO (mAll ρ skE (getT [r.1.2.ly]) (getS [r.1.2.ly])) fun q => some (r.1.1, q.1, o.obs ++ (r.2 ++ q.2))
    | false => none
section
variable {P : Program} {N : Nat} {Lim : Rg} {w0 : World} {T0 : Nat → Nat → Prop} {cx : Cx} {h : Hn} {x : Code} {nx0 mx : Nat} {sk : Sk}
theorem goJ_ok (hx : CodeOK P N x (sx cx N h x)) {j : Nat} {ρ : List (Nat × Nat)} {skE : Sk} {p q : List LD} {k : Option XK} {ob : List Bool} (hgo : goJ cx N h x j nx0 mx sk ρ skE p = some (k, q, ob)) (hob : AllT ob) {E E0 : EM} {a : Act} {w : World} (he : Ext E0 E)
    (hr : StR N Lim w0 T0 sk p E a w) (hl : mx ≤ Lim.lim) : x.wp P (fun e a' w' => e = exitOf k ∧ MtR N Lim w0 T0 mx ρ skE q E0 a' w') a w ∧ rnOk nx0 ρ = true ∧ nx0 ≤ sk.next ∧ nx0 ≤ skE.next ∧ skE.next ≤ mx ∧ 1 ≤ nx0 := by
  unfold goJ at hgo
  split at hgo <;> try (cases hgo; done)
  rename_i hc
  simp only [Bool.and_eq_true, Nat.ble_eq] at hc
  obtain ⟨va, vb, p', g1, g2, g3⟩ := onK_some hgo
  obtain ⟨va', vb', p'', k1, k2, k3⟩ := hr
  rw [g1] at k1; cases k1
  rw [g2] at k2; cases k2
  obtain ⟨o, ho, g3⟩ := bindO_some g3
  obtain ⟨⟨⟨k1', T1⟩, ob1⟩, hw, g3⟩ := bindO_some g3
  split at g3 <;> try (cases g3; done)
  rename_i hb
  obtain ⟨m, hm, g3⟩ := bindO_some g3
  cases g3
  obtain ⟨hob1, hob2⟩ := hob.append
  obtain ⟨hob2, hob3⟩ := hob2.append
  obtain ⟨k', T', s1, s2, s3⟩ := hx _ _ o ho hob1
  rw [wayJ_sel hw hob2] at s1
  cases s1
  rw [Nat.ble_eq] at hb
  refine ⟨wp_mono (s3 Lim w0 T0 E a w (by rw [onT_next]; exact k3) (Nat.le_trans hb hl)) fun e a' w' hp => ?_, hc.1, hc.2.1, hc.2.2.1, hc.2.2.2.1, hc.2.2.2.2⟩
  obtain ⟨rfl, E', he', hr'⟩ := hp
  exact ⟨rfl, E', _, _, _, _, he.trans he', hr', hm, hob3, hb⟩
end

/-- From data at the loop's head to a way out and its data. -/
inductive Loops (cx : Cx) (N : Nat) (lp : Nat → Option (List Ly → Top → Option Outs)) (x : Code) (nx0 mx : Nat) (sk : Sk) : List LD → XK → Sk → List LD → Prop where
  | step {p p' : List LD} {xk : XK} {skE : Sk} {pE : List LD} {ts : Nat → Option Bool} {ρ : List (Nat × Nat)} {ob : List Bool} : goL cx N ⟨ts, lp⟩ x nx0 mx sk ρ sk p = some (none, p', ob) → AllT ob → Loops cx N lp x nx0 mx sk p' xk skE pE → Loops cx N lp x nx0 mx sk p xk skE pE
  | done {p : List LD} {xk : XK} {skE : Sk} {pE : List LD} {ts : Nat → Option Bool} {ρ : List (Nat × Nat)} {ob : List Bool} : goL cx N ⟨ts, lp⟩ x nx0 mx sk ρ skE p = some (some xk, pE, ob) → AllT ob → Loops cx N lp x nx0 mx sk p xk skE pE
  | stepJ {p p' : List LD} {xk : XK} {skE : Sk} {pE : List LD} {ts : Nat → Option Bool} {j : Nat} {ρ : List (Nat × Nat)} {ob : List Bool} : goJ cx N ⟨ts, lp⟩ x j nx0 mx sk ρ sk p = some (none, p', ob) → AllT ob → Loops cx N lp x nx0 mx sk p' xk skE pE → Loops cx N lp x nx0 mx sk p xk skE pE
  | doneJ {p : List LD} {xk : XK} {skE : Sk} {pE : List LD} {ts : Nat → Option Bool} {j : Nat} {ρ : List (Nat × Nat)} {ob : List Bool} : goJ cx N ⟨ts, lp⟩ x j nx0 mx sk ρ skE p = some (some xk, pE, ob) → AllT ob → Loops cx N lp x nx0 mx sk p xk skE pE

def keysT (R : List Ly) : List Nat := R.flatMap fun y => y.t.keys 1 0 []
def keysS (R : List Ly) : List Nat := R.flatMap fun y => y.s.keys 1 0 []
theorem keysT_ok : ∀ {R : List Ly} {t : Nat}, t ∉ keysT R → getT R t = .undef
  | [], _, _ => rfl
  | y :: R, t, h => by
    unfold keysT at h
    rw [List.flatMap_cons, List.mem_append, not_or] at h
    rw [getT_cons, key1 _ _ h.1]
    exact keysT_ok h.2
theorem keysS_ok : ∀ {R : List Ly} {i : Nat}, i ∉ keysS R → getS R i = none
  | [], _, _ => rfl
  | y :: R, t, h => by
    unfold keysS at h
    rw [List.flatMap_cons, List.mem_append, not_or] at h
    rw [getS_cons, key1 _ _ h.1]
    exact keysS_ok h.2
abbrev XO := List (SB × XK × Sk × List LD)
def exitsK (N : Nat) (kt ks : List Nat) (nx : Nat) : XO → (List (SB × XK × Top) → Option Outs) → Option Outs
  | [], f => f []
  | (c, k, sk, p) :: l, f => onK N kt ks sk nx p fun T => exitsK N kt ks nx l fun r => f ((c, k, T) :: r)
/-- The loop, told of by 'F': its ways out, from the data at its head. -/
def loopL (N nx0 mx : Nat) (sk : Sk) (ρ : List (Nat × Nat)) (F : List LD → Option (XO × List Bool)) (R : List Ly) (T : Top) : Option Outs :=
  match Nat.beq T.next nx0 && (rnOk nx0 ρ && (Nat.ble nx0 sk.next && (Nat.ble sk.next mx && Nat.ble 1 nx0))) with
  | false => none
  | true => bindO (mAll ρ sk (getT (T.ly :: R)) (getS (T.ly :: R))) fun p => bindO (F p.1) fun r => exitsK N (keysT R) (keysS R) mx r.1 fun l => some ⟨l, none, p.2 ++ r.2⟩
def pickX : XO → Option (XK × Sk × List LD)
  | [] => none
  | (c, k, sk, p) :: l => if c.val then some (k, sk, p) else pickX l
theorem exitsK_some {N : Nat} {kt ks : List Nat} {nx : Nat} : ∀ {l : XO} {f : List (SB × XK × Top) → Option Outs} {o : Outs}, exitsK N kt ks nx l f = some o → ∃ r, f r = some o ∧ ∀ k sk p, pickX l = some (k, sk, p) →
    ∃ va vb p', bTs sk.tms p = some (va, p') ∧ bSs sk.segs p' = some (vb, []) ∧ sel r none = some (some k, onT N kt ks nx va vb)
  | [], f, o, h => ⟨[], h, fun k sk p hp => by cases hp⟩
  | (c, k, sk, p) :: l, f, o, h => by
    obtain ⟨va, vb, p', h1, h2, h3⟩ := onK_some (show onK N kt ks sk nx p (fun T => exitsK N kt ks nx l fun r => f ((c, k, T) :: r)) = some o from h)
    obtain ⟨r, h4, h5⟩ := exitsK_some h3
    refine ⟨_, h4, fun k' sk' q hq => ?_⟩
    unfold pickX at hq
    split at hq
    · rename_i hc
      cases hq
      exact ⟨va, vb, p', h1, h2, by simp [sel, hc]⟩
    · rename_i hc
      obtain ⟨va', vb', p'', q1, q2, q3⟩ := h5 k' sk' q hq
      exact ⟨va', vb', p'', q1, q2, by simp only [sel]; rw [if_neg hc]; exact q3⟩
section
variable {P : Program} {cx : Cx} {N : Nat} {lp : Nat → Option (List Ly → Top → Option Outs)} {x : Code} {nx0 mx : Nat} {sk : Sk}
theorem loops_wp {Lim : Rg} {w0 : World} {T0 : Nat → Nat → Prop} {E0 : EM} (hx : ∀ ts, CodeOK P N x (sx cx N ⟨ts, lp⟩ x)) {p : List LD} {xk : XK} {skE : Sk} {pE : List LD} (hL : Loops cx N lp x nx0 mx sk p xk skE pE)
    (h3 : mx ≤ Lim.lim) (h4 : ∀ i, nx0 ≤ i → i < Lim.lim → E0 i = none) (h5 : Lim.base ≤ nx0) {R : List Ly} {kt ks : List Nat} (hkt : ∀ t, t ∉ kt → getT R t = .undef) (hks : ∀ i, i ∉ ks → getS R i = none)
    {va : List (Nat × SV)} {vb : List (Nat × Option Seg)} {p' : List LD} (hva : bTs skE.tms pE = some (va, p')) (hvb : bSs skE.segs p' = some (vb, [])) :
    ∃ n, ∀ E a w, Ext E0 E → StR N Lim w0 T0 sk p E a w → Code.rounds P x (Post N Lim w0 T0 E0 R (some xk) (onT N kt ks mx va vb)) n a w := by
  induction hL with
  | done hgo hob =>
    refine ⟨1, fun E a w he hr => ?_⟩
    obtain ⟨g1, g2, g3, g4, g5, g6⟩ := goL_ok (hx _) hgo hob he hr h3
    rw [rounds_succ]
    refine wp_mono g1 fun e a' w' hp => ?_
    obtain ⟨rfl, E', tm, sg, next, ob', he', hr', hm, hob', hn⟩ := hp
    obtain ⟨va', vb', p'', k1, k2, E'', k3, k4⟩ := on_srel (R := R) (kt := kt) (ks := ks) (nx := mx) hr' he' hm hob' g2 g4 g5 (Nat.le_trans g5 h3) (Nat.le_trans hn h3) h4 h5 g6 hkt hks
    rw [hva] at k1; cases k1
    rw [hvb] at k2; cases k2
    rename_i xk _ _ _ _ _
    have hP : Post N Lim w0 T0 E0 R (some xk) (onT N kt ks mx va vb) (exitOf (some xk)) a' w' := ⟨rfl, E'', k3, by rw [onT_next]; exact k4⟩
    cases xk <;> exact hP
  | step hgo hob _ ih =>
    obtain ⟨n, hn⟩ := ih hva hvb
    refine ⟨n + 1, fun E a w he hr => ?_⟩
    obtain ⟨g1, g2, g3, g4, g5, g6⟩ := goL_ok (hx _) hgo hob he hr h3
    rw [rounds_succ]
    refine wp_mono g1 fun e a' w' hp => ?_
    obtain ⟨rfl, hp⟩ := hp
    obtain ⟨E', he', hr'⟩ := hp.st g2 g4 g5 h3 h4 h5 g6
    exact hn E' a' w' he' hr'
  | doneJ hgo hob =>
    refine ⟨1, fun E a w he hr => ?_⟩
    obtain ⟨g1, g2, g3, g4, g5, g6⟩ := goJ_ok (hx _) hgo hob he hr h3
    rw [rounds_succ]
    refine wp_mono g1 fun e a' w' hp => ?_
    obtain ⟨rfl, E', tm, sg, next, ob', he', hr', hm, hob', hn⟩ := hp
    obtain ⟨va', vb', p'', k1, k2, E'', k3, k4⟩ := on_srel (R := R) (kt := kt) (ks := ks) (nx := mx) hr' he' hm hob' g2 g4 g5 (Nat.le_trans g5 h3) (Nat.le_trans hn h3) h4 h5 g6 hkt hks
    rw [hva] at k1; cases k1
    rw [hvb] at k2; cases k2
    rename_i xk _ _ _ _ _ _
    have hP : Post N Lim w0 T0 E0 R (some xk) (onT N kt ks mx va vb) (exitOf (some xk)) a' w' := ⟨rfl, E'', k3, by rw [onT_next]; exact k4⟩
    cases xk <;> exact hP
  | stepJ hgo hob _ ih =>
    obtain ⟨n, hn⟩ := ih hva hvb
    refine ⟨n + 1, fun E a w he hr => ?_⟩
    obtain ⟨g1, g2, g3, g4, g5, g6⟩ := goJ_ok (hx _) hgo hob he hr h3
    rw [rounds_succ]
    refine wp_mono g1 fun e a' w' hp => ?_
    obtain ⟨rfl, hp⟩ := hp
    obtain ⟨E', he', hr'⟩ := hp.st g2 g4 g5 h3 h4 h5 g6
    exact hn E' a' w' he' hr'
theorem loopL_ok {ρ : List (Nat × Nat)} {F : List LD → Option (XO × List Bool)} (hx : ∀ ts, CodeOK P N x (sx cx N ⟨ts, lp⟩ x))
    (hF : ∀ p r, F p = some r → AllT r.2 → ∃ xk skE pE, pickX r.1 = some (xk, skE, pE) ∧ Loops cx N lp x nx0 mx sk p xk skE pE) : CodeOK P N (.loop x) (loopL N nx0 mx sk ρ F) := by
  intro R T o ho hob
  unfold loopL at ho
  split at ho <;> try (cases ho; done)
  rename_i hc
  simp only [Bool.and_eq_true, Nat.ble_eq, beqN] at hc
  obtain ⟨c1, c2, c3, c4, c5⟩ := hc
  obtain ⟨p, hm, ho⟩ := bindO_some ho
  obtain ⟨r, hr, ho⟩ := bindO_some ho
  obtain ⟨l, hl, hsel⟩ := exitsK_some ho
  cases hl
  obtain ⟨hob1, hob2⟩ := hob.append
  obtain ⟨xk, skE, pE, h1, h2⟩ := hF p.1 r hr hob2
  obtain ⟨va, vb, p', g1, g2, g3⟩ := hsel xk skE pE h1
  refine ⟨some xk, _, g3, by rw [onT_next]; omega, fun Lim w0 T0 E a w hs hlim => ?_⟩
  rw [onT_next] at hlim
  have hfresh : ∀ i, nx0 ≤ i → i < Lim.lim → E i = none := fun i hi1 hi2 => hs.fresh i (by omega) hi2
  have hbn : Lim.base ≤ nx0 := by have := hs.bn; omega
  obtain ⟨n, hn⟩ := loops_wp (w0 := w0) (T0 := T0) (E0 := E) hx h2 hlim hfresh hbn (R := R) (kt := keysT R) (ks := keysS R) (fun t => keysT_ok) (fun i => keysS_ok) g1 g2
  obtain ⟨va', vb', p'', k1, k2, E'', k3, k4⟩ := on_srel (R := []) (kt := []) (ks := []) (nx := sk.next) hs (Ext.refl E) hm hob1 c2 c3 (Nat.le_refl _) (by omega) (by omega) hfresh hbn c5 (fun _ _ => rfl) (fun _ _ => rfl)
  exact wp_loop_rounds n (hn E'' a w k3 ⟨va', vb', p'', k1, k2, k4⟩)
end

/-! ### a function with such loops -/
def loopAt (id : Nat) : List Code → Option Code
  | [] => none
  | b :: l => match Nat.beq (regId b) id with
    | true => some b
    | false => loopAt id l
def onceB : List Code → Bool
  | [] => true
  | b :: l => (match loopAt (regId b) l with
    | none => true
    | some _ => false) && onceB l
theorem loopAt_mem {b : Code} : ∀ {l : List Code}, onceB l = true → b ∈ l → loopAt (regId b) l = some b
  | [], _, h => by cases h
  | c :: l, h1, h2 => by
    simp only [onceB, Bool.and_eq_true] at h1
    simp only [loopAt]
    rcases List.mem_cons.1 h2 with rfl | h2
    · rw [beqN.2 rfl]
    · have := loopAt_mem h1.2 h2
      split
      · rename_i hb
        have h3 := h1.1
        rw [beqN.1 hb, this] at h3
        cases h3
      · exact this
abbrev LS := List (Nat × (List Ly → Top → Option Outs))
def lpOf : LS → Nat → Option (List Ly → Top → Option Outs)
  | [], _ => none
  | (i, L) :: l, j => match Nat.beq j i with
    | true => some L
    | false => lpOf l j
def LoopsOK (P : Program) (N : Nat) (c : Code) : LS → Prop
  | [] => True
  | (i, L) :: l => (∃ b, loopAt i (loopsIn c) = some b ∧ CodeOK P N (.loop b) L) ∧ LoopsOK P N c l
theorem LoopsOK.get {P : Program} {N : Nat} {c : Code} : ∀ {l : LS}, LoopsOK P N c l → ∀ i L, lpOf l i = some L → ∃ b, loopAt i (loopsIn c) = some b ∧ CodeOK P N (.loop b) L
  | [], _, i, L, h => by cases h
  | (j, L') :: l, h, i, L, h' => by
    simp only [lpOf] at h'
    split at h'
    · rename_i hb; cases h'; rw [beqN.1 hb]; exact h.1
    · exact LoopsOK.get h.2 i L h'
theorem inlL_of {P : Program} {l : List (Nat × CS)} (ha : AllOK P l) (hmx : P.follows .mixedOrders = true) (n : Nat) {f : FuncId} {fn : Func} (hf : P.funcs[f]? = some fn) (hname : (fn.name == "runtime.NumGoroutine") = false) (ts : Nat → Option Bool) {c : Code} (hc : fn.body = some c) {ls : LS} (h1 : onceB (loopsIn c) = true) (h2 : LoopsOK P fn.ntmps c ls) :
    CallOK P f (inl ⟨P, fops, orcN P fops l n⟩ fn ⟨ts, lpOf ls⟩) :=
  inl_ok (cx := ⟨P, fops, orcN P fops l n⟩) rfl (orcN_ok ha hmx n) hmx hf hname (fun code hb b hm L h => by
    rw [hc] at hb; cases hb
    obtain ⟨b', k1, k2⟩ := h2.get _ L h
    rw [loopAt_mem h1 hm] at k1
    cases k1
    exact k2)
/-- A loop's body, none of whose own loops is told of. -/
theorem body_ok {P : Program} {l : List (Nat × CS)} (ha : AllOK P l) (hmx : P.follows .mixedOrders = true) (n : Nat) {N : Nat} (x : Code) (ts : Nat → Option Bool) : CodeOK P N x (sx ⟨P, fops, orcN P fops l n⟩ N ⟨ts, fun _ => none⟩ x) :=
  sx_ok (cx := ⟨P, fops, orcN P fops l n⟩) rfl (orcN_ok ha hmx n) hmx x (fun _ _ _ h => by cases h)
end
end Go.Proofs.YtaodbpejeglmlaaDoor
