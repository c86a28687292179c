/- The executor's memory against a world's memory: making, reading, writing. Nothing is assumed. -/
import Derived.Test.YtaodbpejeglmlaaDoorSb
namespace Go.Proofs.YtaodbpejeglmlaaDoor
open Go

def SBody.len : SBody → Nat
  | .cells l => l.length
  | .rows st n _ => st * n.toNat
def SBody.at : SBody → Nat → SC
  | .cells l, k => l.getD k .any
  | .rows st _ row, k => (row ((k / st : Nat) : Int)).getD (k % st) .any

structure SegAt (E : EM) (b o z : Nat) (g : Seg) (w : World) (cs : Array Value) (T : TypeId) (fr : Nat × Nat) : Prop where
  heap : w.heap[b]? = some (.cells cs T fr)
  le : g.body.len ≤ z
  fit : o + z ≤ cs.size
  own : g.own = true → o = 0 ∧ z = cs.size
  fz : g.rw = true → ∀ k, o ≤ k → k < o + z → ¬ (fr.1 ≤ k ∧ k < fr.2)
  cell : ∀ k, k < g.body.len → ∃ v, cs[o + k]? = some v ∧ RelC E (g.body.at k) v

/-- Whether bytes that a string shares are kept apart ('strings.Join' shares bytes of its own). -/
def NF : Prop := False
structure Fr (w w' : World) (T : Nat → Nat → Prop) : Prop where
  os : w'.os = w.os
  out : w'.output = w.output
  size : w.heap.size ≤ w'.heap.size
  old : ∀ b, b < w.heap.size →
    (∃ cs t fr cs', w.heap[b]? = some (.cells cs t fr) ∧ w'.heap[b]? = some (.cells cs' t fr) ∧ cs'.size = cs.size ∧ ∀ j, ¬ T b j → cs'[j]? = cs[j]?) ∨ w'.heap[b]? = w.heap[b]?
  frz : NF → ∀ b o, w.heap.size ≤ b → w'.frozen? ⟨b, o, none⟩ = false

theorem Fr.refl (w : World) (T : Nat → Nat → Prop) : Fr w w T :=
  ⟨rfl, rfl, Nat.le_refl _, fun _ _ => .inr rfl, fun _ b o h => by simp [World.frozen?, Array.getElem?_eq_none h]⟩

/-- A table of the library's that calls lean on: its block, and what it holds (only where 'strconv.FormatInt' is). -/
def TabB : Option Nat := some 1
def tabCells : Array Value := ((List.range 20).map fun i => Value.int .u64 ((10 ^ i : Nat) : Int)).toArray
def IsTab (b : Nat) : Prop := TabB = some b
def Tab (w : World) : Prop := ∀ b, IsTab b → ∃ T fr, w.heap[b]? = some (.cells tabCells T fr)
theorem Fr.tabs {w w' : World} {T : Nat → Nat → Prop} (h : Fr w w' T) (ht : Tab w) (ha : ∀ b k, IsTab b → ¬ T b k) : Tab w' := fun b hb => by
  obtain ⟨t, fr, e⟩ := ht b hb
  have hlt : b < w.heap.size := by
    rcases Nat.lt_or_ge b w.heap.size with h' | h'
    · exact h'
    · rw [Array.getElem?_eq_none h'] at e; cases e
  rcases h.old b hlt with ⟨cs, t', fr', cs', e1, e2, e3, e4⟩ | e1
  · rw [e] at e1; cases e1
    refine ⟨t, fr, ?_⟩
    rw [e2]
    have : cs' = tabCells := Array.ext (by omega) fun i h1 h2 => by
      have := e4 i (ha b i hb)
      rw [Array.getElem?_eq_getElem h1, Array.getElem?_eq_getElem h2] at this
      exact Option.some.inj this
    rw [this]
  · exact ⟨t, fr, e1.trans e⟩
structure MemRel (w0 : World) (T0 : Nat → Nat → Prop) (E : EM) (sg : Nat → Option Seg) (w : World) : Prop where
  segs : ∀ i g, sg i = some g → ∃ b o z cs T fr, E i = some (b, o, z) ∧ SegAt E b o z g w cs T fr
  disj : ∀ i j g h b o z b' o' z', i ≠ j → sg i = some g → sg j = some h → (g.rw = true ∨ h.rw = true) → E i = some (b, o, z) → E j = some (b', o', z') → b ≠ b' ∨ o + z ≤ o' ∨ o' + z' ≤ o ∨ z = 0 ∨ z' = 0
  tch : ∀ i g b o z, sg i = some g → g.rw = true → E i = some (b, o, z) → w0.heap.size ≤ b ∨ ∀ k, o ≤ k → k < o + z → T0 b k
  fr : Fr w0 w T0
  tab : Tab w0 ∧ ∀ b k, IsTab b → ¬ T0 b k

theorem SegAt.congr {E : EM} {b o z : Nat} {g : Seg} {w w' : World} {cs : Array Value} {T : TypeId} {fr : Nat × Nat} (h : SegAt E b o z g w cs T fr) (hh : w'.heap = w.heap) : SegAt E b o z g w' cs T fr :=
  { h with heap := hh ▸ h.heap }
theorem frozen_congr {w w' : World} (hh : w'.heap = w.heap) (a : Addr) : w'.frozen? a = w.frozen? a := by unfold World.frozen?; rw [hh]
theorem MemRel.congr {w0 w w' : World} {T0 : Nat → Nat → Prop} {E : EM} {sg : Nat → Option Seg} (h : MemRel w0 T0 E sg w) (hh : w'.heap = w.heap) (ho : w'.os = w.os) (hp : w'.output = w.output) : MemRel w0 T0 E sg w' where
  segs i g hg := let ⟨b, o, z, cs, T, fr, e, s⟩ := h.segs i g hg; ⟨b, o, z, cs, T, fr, e, s.congr hh⟩
  disj := h.disj
  tch := h.tch
  fr := ⟨ho.trans h.fr.os, hp.trans h.fr.out, by rw [hh]; exact h.fr.size, by rw [hh]; exact h.fr.old, fun hn b o hb => by rw [frozen_congr hh]; exact h.fr.frz hn b o hb⟩
  tab := h.tab
theorem MemRel.sub {w0 w : World} {T0 : Nat → Nat → Prop} {E : EM} {sg sg' : Nat → Option Seg} (h : MemRel w0 T0 E sg w) (hs : ∀ i g, sg' i = some g → sg i = some g) : MemRel w0 T0 E sg' w where
  segs i g hg := h.segs i g (hs i g hg)
  disj i j g k b o z b' o' z' hij hg hk := h.disj i j g k b o z b' o' z' hij (hs _ _ hg) (hs _ _ hk)
  tch i g b o z hg := h.tch i g b o z (hs _ _ hg)
  fr := h.fr
  tab := h.tab

def upd {α : Type} (f : Nat → α) (i : Nat) (v : α) : Nat → α := fun j => if j = i then v else f j
theorem upd_same {α : Type} (f : Nat → α) (i : Nat) (v : α) : upd f i v i = v := by simp [upd]
theorem upd_other {α : Type} (f : Nat → α) {i j : Nat} (v : α) (h : j ≠ i) : upd f i v j = f j := by simp [upd, h]
theorem Ext.upd {E : EM} {i : Nat} (x : Nat × Nat × Nat) (h : E i = none) : Ext E (Proofs.YtaodbpejeglmlaaDoor.upd E i (some x)) := fun j y hj => by
  by_cases e : j = i
  · subst e; rw [h] at hj; cases hj
  · rw [upd_other _ _ e]; exact hj

theorem heap_push_old (w : World) (o : Obj) {b : Nat} (h : b < w.heap.size) : ({ w with heap := w.heap.push o } : World).heap[b]? = w.heap[b]? := by
  simp [Array.getElem?_push, Nat.ne_of_lt h]
theorem heap_push_new (w : World) (o : Obj) : ({ w with heap := w.heap.push o } : World).heap[w.heap.size]? = some o := by simp
theorem lt_of_heap {w : World} {b : Nat} {x : Obj} (h : w.heap[b]? = some x) : b < w.heap.size := by
  rcases Nat.lt_or_ge b w.heap.size with h' | h'
  · exact h'
  · rw [Array.getElem?_eq_none h'] at h; cases h
theorem Fr.push {w0 w : World} {T0 : Nat → Nat → Prop} (h : Fr w0 w T0) (cs : Array Value) (T : TypeId) : Fr w0 { w with heap := w.heap.push (.cells cs T) } T0 where
  os := h.os
  out := h.out
  size := by have := h.size; simp; omega
  old b hb := by rw [heap_push_old w _ (Nat.lt_of_lt_of_le hb h.size)]; exact h.old b hb
  frz hn b o hb := by
    by_cases e : b = w.heap.size
    · subst e; simp [World.frozen?]
    · have := h.frz hn b o hb
      unfold World.frozen? at *
      simp only [Array.getElem?_push, e, if_false]
      exact this

theorem SegAt.mono {E E' : EM} {b o z : Nat} {g : Seg} {w : World} {cs : Array Value} {T : TypeId} {fr : Nat × Nat} (h : SegAt E b o z g w cs T fr) (he : Ext E E') : SegAt E' b o z g w cs T fr :=
  { h with cell := fun k hk => let ⟨v, a, r⟩ := h.cell k hk; ⟨v, a, r.mono he⟩ }
theorem SegAt.push {E : EM} {b o z : Nat} {g : Seg} {w : World} {cs : Array Value} {T : TypeId} {fr : Nat × Nat} (h : SegAt E b o z g w cs T fr) (x : Obj) : SegAt E b o z g { w with heap := w.heap.push x } cs T fr :=
  { h with heap := by rw [heap_push_old w _ (lt_of_heap h.heap)]; exact h.heap }

/-- A new segment in a new block. -/
theorem MemRel.alloc {w0 w : World} {T0 : Nat → Nat → Prop} {E : EM} {sg : Nat → Option Seg} (h : MemRel w0 T0 E sg w) {i : Nat} (hi : E i = none) {body : SBody} {cs : Array Value} {T : TypeId}
    (hl : body.len ≤ cs.size) (hc : ∀ k, k < body.len → ∃ v, cs[k]? = some v ∧ RelC E (body.at k) v) :
    MemRel w0 T0 (upd E i (some (w.heap.size, 0, cs.size))) (upd sg i (some ⟨true, true, body⟩)) { w with heap := w.heap.push (.cells cs T) } := by
  have he : Ext E (upd E i (some (w.heap.size, 0, cs.size))) := Ext.upd _ hi
  have hlt : ∀ j g, sg j = some g → ∀ b o z, E j = some (b, o, z) → b < w.heap.size := fun j g hg b o z hb => by
    obtain ⟨b', o', z', cs', T', fr', e, s⟩ := h.segs j g hg
    rw [hb] at e; cases e; exact lt_of_heap s.heap
  refine ⟨fun j g hg => ?_, fun j k g g' b o z b' o' z' hjk hg hg' hrw hb hb' => ?_, fun j g b o z hg hrw hb => ?_, h.fr.push _ _, h.tab⟩
  · by_cases e : j = i
    · subst e
      rw [upd_same] at hg; cases hg
      exact ⟨_, _, _, cs, T, (0, 0), upd_same _ _ _, ⟨heap_push_new _ _, hl, by simp, fun _ => ⟨rfl, rfl⟩, fun _ k _ _ hk => by simp at hk, fun k hk => let ⟨v, a, r⟩ := hc k hk; ⟨v, by simpa using a, r.mono he⟩⟩⟩
    · rw [upd_other _ _ e] at hg
      obtain ⟨b, o, z, cs', T', fr', e', s⟩ := h.segs j g hg
      exact ⟨b, o, z, cs', T', fr', by rw [upd_other _ _ e]; exact e', (s.mono he).push _⟩
  · by_cases e : j = i
    · subst e
      rw [upd_same] at hb; cases hb
      rw [upd_other _ _ (Ne.symm hjk)] at hg' hb'
      exact .inl (Nat.ne_of_gt (hlt _ _ hg' _ _ _ hb'))
    · rw [upd_other _ _ e] at hg hb
      by_cases e' : k = i
      · subst e'
        rw [upd_same] at hb'; cases hb'
        exact .inl (Nat.ne_of_lt (hlt _ _ hg _ _ _ hb))
      · rw [upd_other _ _ e'] at hg' hb'
        exact h.disj j k g g' b o z b' o' z' hjk hg hg' hrw hb hb'
  · by_cases e : j = i
    · subst e
      rw [upd_same] at hb; cases hb
      exact .inl h.fr.size
    · rw [upd_other _ _ e] at hg hb
      exact h.tch j g b o z hg hrw hb

/-! ### writing -/
/-- 'w'' is 'w' but for the cells from 'o' on in block 'b', which are 'vs' now. -/
structure Put (w w' : World) (b o : Nat) (vs : List Value) (cs : Array Value) (T : TypeId) (fr : Nat × Nat) (cs' : Array Value) : Prop where
  os : w'.os = w.os
  out : w'.output = w.output
  size : w'.heap.size = w.heap.size
  other : ∀ b', b' ≠ b → w'.heap[b']? = w.heap[b']?
  heap : w.heap[b]? = some (.cells cs T fr)
  heap' : w'.heap[b]? = some (.cells cs' T fr)
  csize : cs'.size = cs.size
  at_ : ∀ k, cs'[k]? = if o ≤ k ∧ k < o + vs.length then vs[k - o]? else cs[k]?

theorem run_put (P : Program) (b o : Nat) (T : TypeId) (fr : Nat × Nat) : ∀ (vs : List Value) (i : Nat) (w : World) (cs : Array Value), w.heap[b]? = some (.cells cs T fr) → o + i + vs.length ≤ cs.size →
    (∀ k, o + i ≤ k → k < o + i + vs.length → ¬ (fr.1 ≤ k ∧ k < fr.2)) → (∀ v ∈ vs, v.oneCell' = true) →
    ∃ w' cs', (storeCells ⟨b, o, none⟩ vs i).run P w = .ok () w' ∧ Put w w' b (o + i) vs cs T fr cs'
  | [], i, w, cs, h, _, _, _ => ⟨w, cs, by simp [storeCells], ⟨rfl, rfl, rfl, fun _ _ => rfl, h, h, rfl, fun k => by simp; omega⟩⟩
  | v :: vs, i, w, cs, h, hs, hf, ho => by
    have hadd : (⟨b, o, none⟩ : Addr).add i = ⟨b, o + i, none⟩ := by unfold Addr.add; split <;> simp [*]
    have hc : w.cell? ⟨b, o + i, none⟩ = some (cs[o + i]'(by simp at hs; omega)) := by
      simp only [World.cell?, h]; simp at hs ⊢
    have hfz : w.frozen? ⟨b, o + i, none⟩ = false := by
      have := hf (o + i) (by omega) (by simp)
      simp only [World.frozen?, h]
      simpa using this
    have hst : (store (⟨b, o + i, none⟩ : Addr) v).run P w = .ok () (w.setCell ⟨b, o + i, none⟩ v) := by
      rw [run_store P w _ v .plain (ho v (by simp)), hc]; simp [hfz]
    have hh : (w.setCell ⟨b, o + i, none⟩ v).heap[b]? = some (.cells (cs.setIfInBounds (o + i) v) T fr) := by
      simp [World.setCell, Array.getElem?_modify, h]
    obtain ⟨w', cs', hrun, hp⟩ := run_put P b o T fr vs (i + 1) (w.setCell ⟨b, o + i, none⟩ v) (cs.setIfInBounds (o + i) v) hh (by simp at hs ⊢; omega)
      (fun k h1 h2 => hf k (by omega) (by simp; omega)) (fun u hu => ho u (by simp [hu]))
    refine ⟨w', cs', ?_, ⟨hp.os.trans rfl, hp.out.trans rfl, hp.size.trans (by simp), fun b' hb' => ?_, h, hp.heap', hp.csize.trans (by simp), fun k => ?_⟩⟩
    · simp only [storeCells, Sem.run_bind, hadd, hst, Result.andThen_ok]
      exact hrun
    · rw [hp.other b' hb']
      simp [World.setCell, Array.getElem?_modify, Ne.symm hb']
    · rw [hp.at_ k]
      by_cases h1 : o + (i + 1) ≤ k ∧ k < o + (i + 1) + vs.length
      · rw [if_pos h1, if_pos (by simp; omega), show k - (o + i) = (k - (o + (i + 1))) + 1 by omega]
        simp
      · rw [if_neg h1]
        by_cases h2 : k = o + i
        · subst h2
          have hlt : o + i < cs.size := by simp at hs; omega
          rw [if_pos (by simp)]
          simp [hlt]
        · rw [if_neg (by simp; omega)]
          simp [Array.getElem?_setIfInBounds, Ne.symm h2]

theorem Fr.put {w0 w w' : World} {T0 : Nat → Nat → Prop} {b o : Nat} {vs : List Value} {cs cs' : Array Value} {T : TypeId} {fr : Nat × Nat} (h : Fr w0 w T0) (p : Put w w' b o vs cs T fr cs')
    (ht : w0.heap.size ≤ b ∨ ∀ k, o ≤ k → k < o + vs.length → T0 b k) : Fr w0 w' T0 where
  os := p.os.trans h.os
  out := p.out.trans h.out
  size := by rw [p.size]; exact h.size
  old b' hb' := by
    by_cases e : b' = b
    · subst e
      have ht' := ht.resolve_left (by omega)
      have hk : ∀ k, ¬ T0 b' k → cs'[k]? = cs[k]? := fun k hk => by
        rw [p.at_ k, if_neg (fun ⟨h1, h2⟩ => hk (ht' k h1 h2))]
      rcases h.old b' hb' with ⟨c0, t, f, c1, e0, e1, hs, hj⟩ | e1
      · rw [p.heap] at e1; cases e1
        exact .inl ⟨c0, T, fr, cs', e0, p.heap', p.csize.trans hs, fun j hT => (hk j hT).trans (hj j hT)⟩
      · exact .inl ⟨cs, T, fr, cs', e1 ▸ p.heap, p.heap', p.csize, hk⟩
    · rw [p.other b' e]; exact h.old b' hb'
  frz hn b' o' hb' := by
    have := h.frz hn b' o' hb'
    by_cases e : b' = b
    · subst e
      simp only [World.frozen?, p.heap, p.heap'] at *
      exact this
    · simpa only [World.frozen?, p.other b' e] using this

/-- A segment is written: its body is another one of the same length. -/
theorem MemRel.put {w0 w w' : World} {T0 : Nat → Nat → Prop} {E : EM} {sg : Nat → Option Seg} (h : MemRel w0 T0 E sg w) {i : Nat} {g : Seg} (hg : sg i = some g) (hrw : g.rw = true) {b o z : Nat} (hE : E i = some (b, o, z))
    {p : Nat} {vs : List Value} {cs cs' : Array Value} {T : TypeId} {fr : Nat × Nat} (hp : Put w w' b p vs cs T fr cs') (hin : o ≤ p ∧ p + vs.length ≤ o + z) {body : SBody} (hl : body.len ≤ z)
    (hc : ∀ k, k < body.len → ∃ v, cs'[o + k]? = some v ∧ RelC E (body.at k) v) : MemRel w0 T0 E (upd sg i (some ⟨true, g.own, body⟩)) w' := by
  have hrange : ∀ j gj b' o' z', j ≠ i → sg j = some gj → E j = some (b', o', z') → b' = b → ∀ k, o' ≤ k → k < o' + z' → cs'[k]? = cs[k]? := by
    intro j gj b' o' z' hj hgj hb' hbb k h1 h2
    rw [hp.at_ k, if_neg]
    rintro ⟨h3, h4⟩
    rcases h.disj i j g gj b o z b' o' z' (Ne.symm hj) hg hgj (.inl hrw) hE hb' with d | d | d | d | d
    · exact d hbb.symm
    all_goals omega
  refine ⟨fun j gj hgj => ?_, fun j k gj gk b1 o1 z1 b2 o2 z2 hjk hgj hgk hr hb1 hb2 => ?_, fun j gj b1 o1 z1 hgj hr hb1 => ?_, h.fr.put hp ?_, h.tab⟩
  · by_cases e : j = i
    · subst e
      rw [upd_same] at hgj; cases hgj
      obtain ⟨b1, o1, z1, cs1, T1, fr1, e1, s⟩ := h.segs j g hg
      rw [hE] at e1; cases e1
      have := s.heap; rw [hp.heap] at this; cases this
      exact ⟨b, o, z, cs', T, fr, hE, ⟨hp.heap', hl, by rw [hp.csize]; exact s.fit, fun ho => by rw [hp.csize]; exact s.own ho, fun _ => s.fz hrw, hc⟩⟩
    · rw [upd_other _ _ e] at hgj
      obtain ⟨b1, o1, z1, cs1, T1, fr1, e1, s⟩ := h.segs j gj hgj
      by_cases eb : b1 = b
      · subst eb
        have := s.heap; rw [hp.heap] at this; cases this
        refine ⟨b1, o1, z1, cs', T, fr, e1, ⟨hp.heap', s.le, by rw [hp.csize]; exact s.fit, fun ho => by rw [hp.csize]; exact s.own ho, s.fz, fun k hk => ?_⟩⟩
        have hle := s.le
        rw [hrange j gj b1 o1 z1 e hgj e1 rfl (o1 + k) (by omega) (by omega)]
        exact s.cell k hk
      · exact ⟨b1, o1, z1, cs1, T1, fr1, e1, { s with heap := by rw [hp.other b1 eb]; exact s.heap }⟩
  · have hg1 : ∃ g1, sg j = some g1 ∧ g1.rw = gj.rw := by
      by_cases e : j = i
      · subst e; rw [upd_same] at hgj; cases hgj; exact ⟨g, hg, hrw⟩
      · rw [upd_other _ _ e] at hgj; exact ⟨gj, hgj, rfl⟩
    have hg2 : ∃ g2, sg k = some g2 ∧ g2.rw = gk.rw := by
      by_cases e : k = i
      · subst e; rw [upd_same] at hgk; cases hgk; exact ⟨g, hg, hrw⟩
      · rw [upd_other _ _ e] at hgk; exact ⟨gk, hgk, rfl⟩
    obtain ⟨g1, h1, r1⟩ := hg1
    obtain ⟨g2, h2, r2⟩ := hg2
    exact h.disj j k g1 g2 b1 o1 z1 b2 o2 z2 hjk h1 h2 (by rw [r1, r2]; exact hr) hb1 hb2
  · by_cases e : j = i
    · subst e; exact h.tch j g b1 o1 z1 hg hrw hb1
    · rw [upd_other _ _ e] at hgj; exact h.tch j gj b1 o1 z1 hgj hr hb1
  · rcases h.tch i g b o z hg hrw hE with h1 | h1
    · exact .inl h1
    · exact .inr fun k h2 h3 => h1 k (by omega) (by omega)

end Go.Proofs.YtaodbpejeglmlaaDoor
