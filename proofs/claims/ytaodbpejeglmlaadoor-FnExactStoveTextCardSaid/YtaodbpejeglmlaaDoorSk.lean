/- Calls, and the law of every operation. Nothing is assumed. -/
import Derived.Test.YtaodbpejeglmlaaDoorSj
namespace Go.Proofs.YtaodbpejeglmlaaDoor
open Go

/-- The cells that a call may write: those of the segments that it is handed to write. -/
def Tch (E : EM) (rd : List (Nat × Seg)) (b k : Nat) : Prop := ∃ i g o z, findS i rd = some g ∧ g.rw = true ∧ E i = some (b, o, z) ∧ o ≤ k ∧ k < o + z
def CallPost (E : EM) (base : Nat) (rd : List (Nat × Seg)) (w : World) (e : CEff) (v : Value) (w' : World) : Prop :=
  ∃ E', Ext E E' ∧ (∀ i, E' i ≠ none → E i ≠ none ∨ (base ≤ i ∧ i < e.next)) ∧ RelV E' e.ret v ∧ MemRel w (Tch E rd) E' (updSs (fun i => findS i rd) e.ws) w'
/-- What is proved of a function: its calls do what 'S' says. -/
def CallOK (P : Program) (f : FuncId) (S : CS) : Prop :=
  ∀ (E : EM) (base : Nat) (args : List SV) (vals : Array Value) (rd : List (Nat × Seg)) (w : World) (e : CEff), S base args rd = some e → AllT e.obs → RelVs E args vals.toList → 1 ≤ base → base ≤ e.next →
    (∀ i, base ≤ i → i < e.next → E i = none) → MemRel w (Tch E rd) E (fun i => findS i rd) w → NextOK P ((callFunc f vals).run P w) (CallPost E base rd w e)

section
variable {P : Program} {a : Act} {w0 w w' : World} {T0 : Nat → Nat → Prop} {E E' : EM} {gt : Nat → SV} {gs : Nat → Option Seg} {next : Nat}

theorem hasId_find {i : Nat} : ∀ {l : List (Nat × Seg)}, hasId i l = false → findS i l = none
  | [], _ => rfl
  | (j, s) :: l, h => by
    simp only [hasId] at h
    simp only [findS]
    split at h
    · cases h
    · exact hasId_find h
theorem grab_ok : ∀ {l : List Nat} {acc : List (Nat × Seg)}, (∀ i g, findS i acc = some g → gs i = some g) → ∀ i g, findS i (grab gs l acc) = some g → gs i = some g
  | [], acc, h, i, g, hg => h i g hg
  | j :: l, acc, h, i, g, hg => by
    simp only [grab] at hg
    split at hg
    · exact grab_ok h i g hg
    · split at hg
      · rename_i s hs
        refine grab_ok (acc := (j, s) :: acc) (fun i' g' h' => ?_) i g hg
        simp only [findS] at h'
        split at h'
        · rename_i hb; rw [beqN] at hb; subst hb; cases h'; exact hs
        · exact h i' g' h'
      · exact grab_ok h i g hg
theorem reach_ok {args : List SV} (i : Nat) (g : Seg) (h : findS i (reach gs args) = some g) : gs i = some g :=
  grab_ok (grab_ok (fun i g h => by cases h)) i g h

theorem updSs_cases (f h : Nat → Option Seg) : ∀ (ws : List (Nat × Option Seg)) (i : Nat), (∃ v, updSs f ws i = v ∧ updSs h ws i = v ∧ (i, v) ∈ ws) ∨ (updSs f ws i = f i ∧ updSs h ws i = h i ∧ ∀ v, (i, v) ∉ ws)
  | [], i => .inr ⟨rfl, rfl, fun v h => by simp at h⟩
  | (j, v) :: r, i => by
    rcases updSs_cases (upd f j v) (upd h j v) r i with ⟨u, h1, h2, h3⟩ | ⟨h1, h2, h3⟩
    · exact .inl ⟨u, h1, h2, by simp [h3]⟩
    · by_cases e : i = j
      · subst e
        exact .inl ⟨v, by simp only [updSs]; rw [h1, upd_same], by simp only [updSs]; rw [h2, upd_same], by simp⟩
      · refine .inr ⟨by simp only [updSs]; rw [h1, upd_other _ _ e], by simp only [updSs]; rw [h2, upd_other _ _ e], fun u hu => ?_⟩
        rcases List.mem_cons.1 hu with hu | hu
        · cases hu; exact e rfl
        · exact h3 u hu
theorem wsOk1_ok {hi i : Nat} {rd : List (Nat × Seg)} {v : Option Seg} (h : wsOk1 next hi rd i v = true) : (∃ g, findS i rd = some g ∧ ∀ g', v = some g' → g'.rw = true → g.rw = true) ∨ (findS i rd = none ∧ next ≤ i ∧ i < hi ∧ ∀ g', v = some g' → g'.rw = true) := by
  unfold wsOk1 at h
  cases hf : findS i rd with
  | some g =>
    rw [hf] at h
    refine .inl ⟨g, rfl, fun g' hg' hrw => ?_⟩
    subst hg'
    simpa [hrw] using h
  | none =>
    rw [hf] at h
    simp only [Bool.and_eq_true, Nat.ble_eq] at h
    refine .inr ⟨rfl, h.1.1, by omega, fun g' hg' => ?_⟩
    subst hg'; exact h.2
theorem wsOk_mem {hi : Nat} {rd : List (Nat × Seg)} : ∀ {l : List (Nat × Option Seg)}, wsOk next hi rd l = true → ∀ i v, (i, v) ∈ l → (∃ g, findS i rd = some g ∧ ∀ g', v = some g' → g'.rw = true → g.rw = true) ∨ (findS i rd = none ∧ next ≤ i ∧ i < hi ∧ ∀ g', v = some g' → g'.rw = true)
  | [], _, i, v, hm => by simp at hm
  | (j, u) :: l, h, i, v, hm => by
    have h' : (Bool.rec false (wsOk next hi rd l) (wsOk1 next hi rd j u) : Bool) = true := h
    cases h1 : wsOk1 next hi rd j u with
    | false => rw [h1] at h'; cases h'
    | true =>
      rw [h1] at h'
      rcases List.mem_cons.1 hm with hm | hm
      · cases hm; exact wsOk1_ok h1
      · exact wsOk_mem (l := l) h' i v hm

theorem Fr.trans {T1 : Nat → Nat → Prop} (h : Fr w0 w T0) (h' : Fr w w' T1) (ht : ∀ b k, b < w0.heap.size → T1 b k → T0 b k) : Fr w0 w' T0 where
  os := h'.os.trans h.os
  out := h'.out.trans h.out
  size := Nat.le_trans h.size h'.size
  old b hb := by
    have hb' := Nat.lt_of_lt_of_le hb h.size
    rcases h.old b hb with ⟨cs, t, fr, cs', e1, e2, e3, e4⟩ | e1 <;> rcases h'.old b hb' with ⟨ds, t', fr', ds', f1, f2, f3, f4⟩ | f1
    · rw [e2] at f1; cases f1
      exact .inl ⟨cs, t, fr, ds', e1, f2, f3.trans e3, fun j hj => (f4 j fun h => hj (ht b j hb h)).trans (e4 j hj)⟩
    · exact .inl ⟨cs, t, fr, cs', e1, by rw [f1]; exact e2, e3, e4⟩
    · rw [e1] at f1
      exact .inl ⟨ds, t', fr', ds', f1, f2, f3, fun j hj => f4 j fun h => hj (ht b j hb h)⟩
    · exact .inr (f1.trans e1)
  frz hn b o hb := by
    by_cases e : b < w.heap.size
    · have h0 := h.frz hn b o hb
      rcases h'.old b e with ⟨ds, t', fr', ds', f1, f2, f3, f4⟩ | f1
      · simp only [World.frozen?, f1, f2] at *; exact h0
      · simpa only [World.frozen?, f1] using h0
    · exact h'.frz hn b o (Nat.le_of_not_lt e)

/-- A segment that is out of a call's reach is as it was. -/
theorem SegAt.frame {T1 : Nat → Nat → Prop} {b o z : Nat} {g : Seg} {cs : Array Value} {T : TypeId} {fr : Nat × Nat} (s : SegAt E b o z g w cs T fr) (h : Fr w w' T1) (hn : ∀ k, o ≤ k → k < o + z → ¬ T1 b k) : ∃ cs', SegAt E b o z g w' cs' T fr := by
  rcases h.old b (lt_of_heap s.heap) with ⟨ds, t', fr', ds', f1, f2, f3, f4⟩ | f1
  · rw [s.heap] at f1; cases f1
    refine ⟨ds', f2, s.le, by rw [f3]; exact s.fit, fun ho => by rw [f3]; exact s.own ho, s.fz, fun k hk => ?_⟩
    have := s.le
    rw [f4 (o + k) (hn _ (by omega) (by omega))]
    exact s.cell k hk
  · exact ⟨cs, { s with heap := by rw [f1]; exact s.heap }⟩

/-- The memory behind a call. -/
theorem MemRel.call (hm : MemRel w0 T0 E gs w) {rd : List (Nat × Seg)} (hrd : ∀ i g, findS i rd = some g → gs i = some g) {hi : Nat} {ws : List (Nat × Option Seg)} (hws : wsOk next hi rd ws = true) (hfr : ∀ i, next ≤ i → i < hi → E i = none)
    (he : Ext E E') (hc : MemRel w (Tch E rd) E' (updSs (fun i => findS i rd) ws) w') : MemRel w0 T0 E' (updSs gs ws) w' := by
  -- each segment is one that the call tells of, or one that it does not reach
  have look : ∀ i g, updSs gs ws i = some g → updSs (fun i => findS i rd) ws i = some g ∨ (gs i = some g ∧ findS i rd = none ∧ (∀ v, (i, v) ∉ ws)) := by
    intro i g hg
    rcases updSs_cases gs (fun i => findS i rd) ws i with ⟨v, h1, h2, h3⟩ | ⟨h1, h2, h3⟩
    · left; rw [h2, ← h1]; exact hg
    · rw [h1] at hg
      cases hf : findS i rd with
      | some g' =>
        left
        have := hrd i g' hf
        rw [hg] at this; cases this
        rw [h2]; exact hf
      | none => exact .inr ⟨hg, rfl, h3⟩
  -- of those that the call tells of: one that was there, or a new one
  have told : ∀ i g, updSs (fun i => findS i rd) ws i = some g → (∃ g0, findS i rd = some g0 ∧ (g.rw = true → g0.rw = true)) ∨ (E i = none ∧ g.rw = true) := by
    intro i g hg
    rcases updSs_cases (fun i => findS i rd) (fun i => findS i rd) ws i with ⟨v, h1, _, h3⟩ | ⟨h1, _, _⟩
    · rw [h1] at hg; subst hg
      rcases wsOk_mem hws i _ h3 with ⟨g0, k1, k2⟩ | ⟨_, k2, k3, k4⟩
      · exact .inl ⟨g0, k1, k2 g rfl⟩
      · exact .inr ⟨hfr i k2 k3, k4 g rfl⟩
    · rw [h1] at hg; exact .inl ⟨g, hg, fun h => h⟩
  have blk : ∀ i g, gs i = some g → ∀ b o z, E i = some (b, o, z) → b < w.heap.size := fun i g hg b o z hb => by
    obtain ⟨b', o', z', cs', T', fr', e, s⟩ := hm.segs i g hg
    rw [hb] at e; cases e; exact lt_of_heap s.heap
  -- what is out of reach meets no cell that the call may write
  have apart : ∀ j g, gs j = some g → findS j rd = none → ∀ b o z, E j = some (b, o, z) → ∀ k, o ≤ k → k < o + z → ¬ Tch E rd b k := by
    intro j g hg hj b o z hb k h1 h2 ⟨i, gi, oi, zi, k1, k2, k3, k4, k5⟩
    have hij : i ≠ j := by intro e; subst e; rw [hj] at k1; cases k1
    rcases hm.disj i j gi g b oi zi b o z hij (hrd i gi k1) hg (.inl k2) k3 hb with d | d | d | d | d
    · exact d rfl
    all_goals omega
  have mixed : ∀ i j g h b o z b' o' z', updSs (fun i => findS i rd) ws i = some g → gs j = some h → findS j rd = none → (∀ v, (j, v) ∉ ws) → (g.rw = true ∨ h.rw = true) → E' i = some (b, o, z) → E j = some (b', o', z') → i ≠ j → b ≠ b' ∨ o + z ≤ o' ∨ o' + z' ≤ o ∨ z = 0 ∨ z' = 0 := by
    intro i j g h b o z b' o' z' hg hh hj hjw hr hb hb' hij
    rcases told i g hg with ⟨g0, k1, k2⟩ | ⟨hnew, hgw⟩
    · obtain ⟨b0, o0, z0, cs0, T00, fr0, e0, _⟩ := hm.segs i g0 (hrd i g0 k1)
      have := he i _ e0
      rw [hb] at this; cases this
      exact hm.disj i j g0 h b o z b' o' z' hij (hrd i g0 k1) hh (hr.imp k2 id) e0 hb'
    · -- a new one
      obtain ⟨b1, o1, z1, cs1, T1, fr1, e1, s1⟩ := hc.segs i g hg
      rw [hb] at e1; cases e1
      rcases hc.tch i g b o z hg hgw hb with h1 | h1
      · exact .inl (Nat.ne_of_gt (Nat.lt_of_lt_of_le (blk j h hh b' o' z' hb') h1))
      · by_cases hbb : b = b'
        · subst hbb
          by_cases ho : o + z ≤ o'
          · exact .inr (.inl ho)
          · by_cases ho' : o' + z' ≤ o
            · exact .inr (.inr (.inl ho'))
            · by_cases hz : z = 0
              · exact .inr (.inr (.inr (.inl hz)))
              · by_cases hz' : z' = 0
                · exact .inr (.inr (.inr (.inr hz')))
                · exact absurd (h1 (max o o') (by omega) (by omega)) (apart j h hh hj b o' z' hb' (max o o') (by omega) (by omega))
        · exact .inl hbb
  refine ⟨fun i g hg => ?_, fun i j g h b o z b' o' z' hij hg hh hr hb hb' => ?_, fun i g b o z hg hr hb => ?_, hm.fr.trans hc.fr ?_, hm.tab⟩
  · rcases look i g hg with h1 | ⟨h1, h2, h3⟩
    · exact hc.segs i g h1
    · obtain ⟨b, o, z, cs, T, fr, e, s⟩ := hm.segs i g h1
      obtain ⟨cs', s'⟩ := s.frame hc.fr (apart i g h1 h2 b o z e)
      exact ⟨b, o, z, cs', T, fr, he _ _ e, s'.mono he⟩
  · have back : ∀ i g, gs i = some g → ∀ x, E' i = some x → E i = some x := by
      intro i g hg x hx
      obtain ⟨b0, o0, z0, cs0, T00, fr0, e0, _⟩ := hm.segs i g hg
      have := he i _ e0
      rw [hx] at this; cases this; exact e0
    rcases look i g hg with h1 | ⟨h1, h2, h3⟩ <;> rcases look j h hh with k1 | ⟨k1, k2, k3⟩
    · exact hc.disj i j g h b o z b' o' z' hij h1 k1 hr hb hb'
    · exact mixed i j g h b o z b' o' z' h1 k1 k2 k3 hr hb (back j h k1 _ hb') hij
    · have := mixed j i h g b' o' z' b o z k1 h1 h2 h3 (Or.symm hr) hb' (back i g h1 _ hb) (Ne.symm hij)
      rcases this with d | d | d | d | d
      · exact .inl (Ne.symm d)
      all_goals omega
    · exact hm.disj i j g h b o z b' o' z' hij h1 k1 hr (back i g h1 _ hb) (back j h k1 _ hb')
  · rcases look i g hg with h1 | ⟨h1, h2, h3⟩
    · rcases hc.tch i g b o z h1 hr hb with k1 | k1
      · exact .inl (Nat.le_trans hm.fr.size k1)
      · by_cases hb0 : w0.heap.size ≤ b
        · exact .inl hb0
        · refine .inr fun k q1 q2 => ?_
          obtain ⟨j, gj, oj, zj, p1, p2, p3, p4, p5⟩ := k1 k q1 q2
          rcases hm.tch j gj b oj zj (hrd j gj p1) p2 p3 with r1 | r1
          · exact absurd r1 hb0
          · exact r1 k p4 p5
    · obtain ⟨b0, o0, z0, cs0, T00, fr0, e0, _⟩ := hm.segs i g h1
      have := he i _ e0
      rw [hb] at this; cases this
      exact hm.tch i g b o z h1 hr e0
  · rintro b k hb ⟨j, gj, oj, zj, p1, p2, p3, p4, p5⟩
    rcases hm.tch j gj b oj zj (hrd j gj p1) p2 p3 with r1 | r1
    · omega
    · exact r1 k p4 p5

theorem evs_ok (hT : ∀ t, RelV E (gt t) (a.tmps.getD t undef)) : ∀ {l : List Operand} {vs : List SV}, evs gt l = some vs → RelVs E vs (l.map a.eval)
  | [], vs, h => by cases h; trivial
  | x :: l, vs, h => by
    simp only [evs] at h
    split at h <;> try (cases h; done)
    split at h <;> try (cases h; done)
    rename_i v hv _ r hr
    cases h
    exact ⟨ev_ok hT hv, evs_ok hT hr⟩

theorem oFn_ok (hm : MemRel w0 T0 E gs w) {f : FuncId} {S : CS} (hS : CallOK P f S) {vs : List SV} {vals : Array Value} (hv : RelVs E vs vals.toList) {e : Eff} (h : oFn gs next S vs (reach gs vs) = some e) (hfr : ∀ i, next ≤ i → i < e.next → E i = none) (hob : AllT e.obs) :
    NextOK P ((callFunc f vals).run P w) (PostOp w0 T0 E gs next e) := by
  unfold oFn at h
  obtain ⟨c, hc, h⟩ := bindO_some h
  cases hb : (wsOk next c.next (reach gs vs) c.ws && Nat.ble 1 next && Nat.ble next c.next) with
  | false => rw [hb] at h; cases h
  | true =>
    rw [hb] at h; cases h
    simp only [Bool.and_eq_true, Nat.ble_eq] at hb
    obtain ⟨⟨hb1, hb2⟩, hb3⟩ := hb
    have hsub : MemRel w (Tch E (reach gs vs)) E (fun i => findS i (reach gs vs)) w := by
      have h0 := hm.sub (sg' := fun i => findS i (reach gs vs)) (fun i g h => reach_ok i g h)
      refine ⟨h0.segs, h0.disj, fun i g b o z hg hr hb => .inr fun k h1 h2 => ⟨i, g, o, z, hg, hr, hb, h1, h2⟩, Fr.refl _ _, hm.fr.tabs hm.tab.1 hm.tab.2, fun b k hb ⟨i, g, o, z, p1, p2, p3, p4, p5⟩ => ?_⟩
      rcases hm.tch i g b o z (reach_ok i g p1) p2 p3 with r1 | r1
      · obtain ⟨t, fr, e⟩ := hm.tab.1 b hb
        exact absurd (lt_of_heap e) (by omega)
      · exact hm.tab.2 b k hb (r1 k p4 p5)
    refine (hS E next vs vals (reach gs vs) w c hc hob hv hb2 hb3 hfr hsub).mono fun v w' hp => ?_
    obtain ⟨E', k1, k2, k3, k4⟩ := hp
    exact ⟨E', k1, k2, k3, hm.call (fun i g h => reach_ok i g h) hb1 hfr k1 k4⟩

theorem retO_some {r : Option (SC × List Bool)} {e : Eff} (h : retO next r = some e) : ∃ c ob, r = some (c, ob) ∧ e = ⟨.c c, [], next, [], ob⟩ := by
  unfold retO at h
  split at h <;> cases h
  exact ⟨_, _, rfl, rfl⟩
/-- Every operation that the executor takes. -/
theorem sop_ok {cx : Cx} (hO : cx.O = fops) (hC : ∀ f S, cx.orc f = some S → CallOK cx.P f S) (hm : MemRel w0 T0 E gs w) (hT : ∀ t, RelV E (gt t) (a.tmps.getD t undef)) {o : Oper} {e : Eff} (h : sop cx gt gs next o.op = some e)
    (h1 : 1 ≤ next) (hfr : ∀ i, next ≤ i → i < e.next → E i = none) (hob : AllT e.obs) : NextOK cx.P ((execOp a.eval o).run cx.P w) (PostOp w0 T0 E gs next e) := by
  obtain ⟨P, O, orc⟩ := cx
  simp only at hO hC
  subst hO
  have hne : next ≠ 0 := by omega
  obtain ⟨dst, op, type, pos, after, guard⟩ := o
  simp only at h
  have pureRet : ∀ {x : Option SV} {u : Value}, (∀ s, x = some s → RelV E s u) → bindO x (retV next) = some e → PostOp w0 T0 E gs next e u w := by
    intro x u hx hb
    obtain ⟨s, h2, h3⟩ := bindO_some hb
    cases h3
    exact post_pure hm (hx s h2)
  cases op with
  | move x => exact pureRet (fun s hs => ev_ok hT hs) h
  | assign x => exact pureRet (fun s hs => ev_ok hT hs) h
  | pick c x y =>
    obtain ⟨q, hq, h⟩ := bindC_some (show bindC (ev gt c) (fun c => oPick next c (ev gt x) (ev gt y)) = some e from h)
    obtain ⟨b, hb, hp⟩ := oPick_ok hm h (ev_ok hT hq) (fun s hs => ev_ok hT hs) (fun s hs => ev_ok hT hs)
    have : (execOp a.eval ⟨dst, .pick c x y, type, pos, after, guard⟩).run P w = .ok (.value (if b then a.eval x else a.eval y)) w := by
      simp [execOp, hb, asBool]
    rw [this]; exact hp
  | alloc t => exact oAlloc_ok hm hne h hfr _
  | box t x =>
    obtain ⟨l, hl, h⟩ := bindO_some (show bindO (evL gt x) (fun l => newE next (.ptr next 0) l) = some e from h)
    exact oBox_ok hm hne (evL_ok hT hl) h hfr
  | build t parts =>
    obtain ⟨z, hz, h⟩ := bindO_some (show bindO (tzero P t) (fun z => oBuild P gt next z (P.underlying t) parts.toList) = some e from h)
    exact oBuild_ok hm hT hz h
  | buildSlice t len parts =>
    obtain ⟨el, hel, h⟩ := bindO_some (show bindO (telem P t) (fun el => oBuildSlice P gt next el len parts.toList) = some e from h)
    exact oBuildSlice_ok hm hne hT hel h hfr
  | load t x =>
    obtain ⟨p, hp, h⟩ := bindC_some (show bindC (ev gt x) (fun p => oLoad P gs next t p) = some e from h)
    exact oLoad_ok hm (ev_ok hT hp) h hob
  | store t x y =>
    obtain ⟨p, hp, h⟩ := bindC_some (show bindC (ev gt x) (fun p => oStore P gs next t p (evL gt y)) = some e from h)
    exact oStore_ok hm (ev_ok hT hp) (fun l hl => evL_ok hT hl) h hob
  | nilCheck x =>
    obtain ⟨p, hp, h⟩ := bindC_some (show bindC (ev gt x) (fun p => oNil next p) = some e from h)
    unfold oNil at h
    obtain ⟨i, hi, h⟩ := bindO_some h
    cases h
    have hr := ev_ok hT hp
    have : ∃ ad, a.eval x = .pointer (some ad) := by
      cases p <;> simp only [ptrId] at hi <;> try (cases hi; done)
      · obtain ⟨_, _, _, _, h⟩ := hr; exact ⟨_, h⟩
      · obtain ⟨_, _, _, _, _, _, _, h⟩ := hr; exact ⟨_, h⟩
      · obtain ⟨_, _, _, _, _, _, h⟩ := hr; exact ⟨_, h⟩
    obtain ⟨ad, had⟩ := this
    have hrun : (execOp a.eval ⟨dst, .nilCheck x, type, pos, after, guard⟩).run P w = .ok (.value (a.eval x)) w := by
      simp [execOp, had]
    rw [hrun]; exact post_pure hm (v := .c p) hr
  | binOp op t x y ty =>
    obtain ⟨p, hp, h⟩ := bindC_some (show bindC (ev gt x) (fun p => bindC (ev gt y) fun q => retO next (sBin fops (tbool P t) op p q)) = some e from h)
    obtain ⟨q, hq, h⟩ := bindC_some h
    obtain ⟨r, ob, hr, rfl⟩ := retO_some h
    obtain ⟨v, w', g1, g2, g3, g4, g5⟩ := sBin_ok (P := P) (w := w) hr hob (ev_ok hT hp) (ev_ok hT hq) x y
    exact next_v g1 (post_pure' hm g3 g4 g5 (v := .c r) g2)
  | unOp op t x =>
    obtain ⟨p, hp, h⟩ := bindC_some (show bindC (ev gt x) (fun p => oUn fops next op p) = some e from h)
    unfold oUn at h
    obtain ⟨r, hr, h⟩ := bindO_some h
    cases h
    obtain ⟨v, g1, g2⟩ := sUn_ok (P := P) (w := w) hr (ev_ok hT hp)
    exact next_v g1 (post_pure hm (v := .c r) g2)
  | convert s d x =>
    obtain ⟨p, hp, h⟩ := bindC_some (show bindC (ev gt x) (fun p => oConvB P fops gs next s d p) = some e from h)
    unfold oConvB at h
    split at h
    · obtain ⟨u, h1, h2⟩ := oBytes_ok (P := P) hm (ev_ok hT hp) h hob
      exact next_v h1 h2
    unfold oConv at h
    obtain ⟨su, hs, h⟩ := bindO_some h
    obtain ⟨du, hd, h⟩ := bindO_some h
    obtain ⟨r, ob, hr, rfl⟩ := retO_some h
    obtain ⟨v, w', g1, g2, g3, g4, g5⟩ := sConv_ok (w := w) hs hd hr hob (ev_ok hT hp)
    exact next_v g1 (post_pure' hm g3 g4 g5 (v := .c r) g2)
  | makeSlice t l c =>
    obtain ⟨p, hp, h⟩ := bindC_some (show bindC (ev gt l) (fun p => bindC (ev gt c) fun q => sMake P t next p q) = some e from h)
    obtain ⟨q, hq, h⟩ := bindC_some h
    exact sMake_ok hm hne (ev_ok hT hp) (ev_ok hT hq) h hfr hob
  | slice t x lo hi mx =>
    obtain ⟨p, hp, h⟩ := bindC_some (show bindC (ev gt x) (fun p => oSlice P gt gs next t p lo hi mx) = some e from h)
    exact oSlice_ok hm hT (ev_ok hT hp) h hne hfr hob
  | fieldAddr s x f =>
    obtain ⟨p, hp, h⟩ := bindC_some (show bindC (ev gt x) (fun p => oFieldAddr P next (P.underlying s) p f) = some e from h)
    exact oFieldAddr_ok hm (ev_ok hT hp) h
  | field s x f =>
    obtain ⟨p, hp, h⟩ := bindO_some (show bindO (ev gt x) (fun p => oField P next (P.underlying s) p f) = some e from h)
    exact oField_ok hm (ev_ok hT hp) h
  | indexAddr t x i =>
    obtain ⟨p, hp, h⟩ := bindC_some (show bindC (ev gt x) (fun p => bindC (ev gt i) fun n => oIndexAddr P gs next (P.underlying t) p n) = some e from h)
    obtain ⟨q, hq, h⟩ := bindC_some h
    exact oIndexAddr_ok hm (ev_ok hT hp) (ev_ok hT hq) h hob
  | index t x i =>
    obtain ⟨p, hp, h⟩ := bindO_some (show bindO (ev gt x) (fun p => bindC (ev gt i) fun n => oIndex P next (P.underlying t) p n) = some e from h)
    obtain ⟨q, hq, h⟩ := bindC_some h
    exact oIndex_ok hm (ev_ok hT hp) (ev_ok hT hq) h hob
  | extract x i =>
    obtain ⟨p, hp, h⟩ := bindO_some (show bindO (ev gt x) (fun p => oExtract next p i) = some e from h)
    exact oExtract_ok hm (ev_ok hT hp) h
  | call c =>
    obtain ⟨callee, args, ats⟩ := c
    have h' : oCall ⟨P, fops, orc⟩ gt gs next ⟨callee, args, ats⟩ = some e := h
    unfold oCall at h'
    simp only at h'
    split at h'
    · rename_i b
      split at h'
      · -- len
        unfold oLen at h'
        split at h' <;> try (cases h'; done)
        rename_i x t rest hargs hts
        obtain ⟨p, hp, h'⟩ := bindC_some h'
        obtain ⟨r, hr, h'⟩ := bindO_some h'
        cases h'
        have hts0 : ats[0]? = some t := by rw [← Array.getElem?_toList, hts]; rfl
        obtain ⟨u, g1, g2⟩ := sLen_ok (P := P) (w := w) hr (ev_ok hT hp) ats type hts0
        have hargs' : args = #[x] := by apply Array.toList_inj.1; simpa using hargs
        have hrun : (execOp a.eval ⟨dst, .call ⟨.builtin .len, args, ats⟩, type, pos, after, guard⟩).run P w = .ok (.value u) w := by
          subst hargs'
          simp [execOp, resolve, invoke, builtin, g1]
        rw [hrun]; exact post_pure hm (v := .c r) g2
      · -- append
        unfold oAppend at h'
        split at h' <;> try (cases h'; done)
        rename_i x y t t' rest hargs hts
        obtain ⟨el', hel', h'⟩ := bindO_some h'
        obtain ⟨p, hp, h'⟩ := bindC_some h'
        obtain ⟨q, hq, h'⟩ := bindC_some h'
        have hts0 : ats[0]? = some t ∧ ats[1]? = some t' := by rw [← Array.getElem?_toList, ← Array.getElem?_toList, hts]; exact ⟨rfl, rfl⟩
        have hargs' : args = #[x, y] := by apply Array.toList_inj.1; simpa using hargs
        unfold sAppend at h'
        split at h' <;> try (cases h'; done)
        · obtain ⟨el, hel, h'⟩ := bindO_some h'
          obtain ⟨es, hes, h'⟩ := bindO_some h'
          obtain ⟨by', hby, h'⟩ := bindO_some h'
          obtain ⟨z, hz, h'⟩ := bindO_some h'
          obtain ⟨u, w', g1, g2⟩ := sApp_ok (P := P) (ty := type) hm hne (ev_ok hT hp) (ev_ok hT hq) hel hes hby hz h' hfr hts0 hel'
          have hrun : (execOp a.eval ⟨dst, .call ⟨.builtin .append, args, ats⟩, type, pos, after, guard⟩).run P w = .ok (.value u) w' := by
            subst hargs'
            simp [execOp, resolve, invoke, builtin, g1]
          rw [hrun]; exact g2
        · obtain ⟨el, hel, h'⟩ := bindO_some h'
          obtain ⟨es, hes, h'⟩ := bindO_some h'
          obtain ⟨by', hby, h'⟩ := bindO_some h'
          obtain ⟨z, hz, h'⟩ := bindO_some h'
          obtain ⟨u, w', g1, g2⟩ := sAppR_ok (P := P) (ty := type) hm hne (ev_ok hT hp) (ev_ok hT hq) hel hes hby hz h' hfr hob hts0 hel'
          have hrun : (execOp a.eval ⟨dst, .call ⟨.builtin .append, args, ats⟩, type, pos, after, guard⟩).run P w = .ok (.value u) w' := by
            subst hargs'
            simp [execOp, resolve, invoke, builtin, g1]
          rw [hrun]; exact g2
        · obtain ⟨el, hel, h'⟩ := bindO_some h'
          obtain ⟨es, hes, h'⟩ := bindO_some h'
          obtain ⟨by', hby, h'⟩ := bindO_some h'
          obtain ⟨z, hz, h'⟩ := bindO_some h'
          obtain ⟨u, w', g1, g2⟩ := sAppRR_ok (P := P) (ty := type) hm hne (ev_ok hT hp) (ev_ok hT hq) hel hes hby hz h' hfr hob hts0 hel'
          have hrun : (execOp a.eval ⟨dst, .call ⟨.builtin .append, args, ats⟩, type, pos, after, guard⟩).run P w = .ok (.value u) w' := by
            subst hargs'
            simp [execOp, resolve, invoke, builtin, g1]
          rw [hrun]; exact g2
      · cases h'
    · split at h' <;> try (cases h'; done)
      rename_i f
      obtain ⟨S, hS, h'⟩ := bindO_some h'
      obtain ⟨vs, hvs, h'⟩ := bindO_some h'
      have hv : RelVs E vs (args.map a.eval).toList := by
        have := evs_ok hT hvs; simpa using this
      have hrun : (execOp a.eval ⟨dst, .call ⟨.value (.func f), args, ats⟩, type, pos, after, guard⟩).run P w = (callFunc f (args.map a.eval)).run P w := by
        simp [execOp, resolve, Deferred.ofValue, Act.eval, invoke]
      rw [hrun]
      exact oFn_ok hm (hC f S hS) hv h' hfr hob
    · cases h'
  | _ => cases h
end

end Go.Proofs.YtaodbpejeglmlaaDoor
