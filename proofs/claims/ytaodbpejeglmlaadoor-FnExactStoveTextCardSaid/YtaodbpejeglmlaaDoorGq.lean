/- A contract of what is computed alone, where some arguments are addresses of numbers. Nothing is assumed. -/
import Derived.Test.YtaodbpejeglmlaaDoorRn
namespace Go.Proofs.YtaodbpejeglmlaaDoor
open Go
noncomputable section

/-- A plain value; the address of some cells; a slice whose length is known. -/
inductive Shp where
  | v
  | p (n : Nat)
  | s (es : Nat)
def Shp.adr : Shp → Bool
  | .v => false
  | _ => true
/-- Where an argument leads to, and how many cells it leads to. -/
def adrOf : Shp → SV → Option (SC × Nat)
  | .p n, .c p => some (p, n)
  | .s es, .c (.sl i o es' (.c (.ofNat n)) _) => match Nat.beq es es' with
    | true => some (.ptr i o, n * es)
    | false => none
  | _, _ => none
def derefS (rd : List (Nat × Seg)) : List Shp → List SV → Option (List SV × List Bool)
  | [], [] => some ([], [])
  | .v :: sh, v :: l => match flatV v with
    | true => bindO (derefS rd sh l) fun r => some (v :: r.1, r.2)
    | false => none
  | sh0 :: sh, v :: l => bindO (adrOf sh0 v) fun q => bindO (ptrId q.1) fun i => bindO (findS i rd) fun g => bindO (sLoad g.body q.1 q.2) fun c => match flatL c.1 && Nat.ble 1 q.2 with
    | true => bindO (derefS rd sh l) fun r => some (.a c.1 :: r.1, c.2 ++ r.2)
    | false => none
  | _, _ => none
/-- The argument that leads to cells of its own. -/
def ownA : Shp → SV → Nat → SC
  | .s es, .a l, k => .sl k 0 es (.c (.ofNat (l.length / es))) false
  | _, _, k => .ptr k 0
def canA : List Shp → List SV → Nat → List SV
  | .v :: sh, v :: r, k => v :: canA sh r k
  | s :: sh, v :: r, k => .c (ownA s v k) :: canA sh r (k + 1)
  | _, _, _ => []
def canR : List Shp → List SV → Nat → List (Nat × Seg)
  | .v :: sh, _ :: r, k => canR sh r k
  | _ :: sh, .a l :: r, k => (k, ⟨false, false, .cells l⟩) :: canR sh r (k + 1)
  | _, _, _ => []
def cntP : List Shp → Nat
  | [] => 0
  | .v :: sh => cntP sh
  | _ :: sh => cntP sh + 1
def gQ (sh : List Shp) (G : List SV → Option SV) : CS := fun base args rd =>
  bindO (derefS rd sh args) fun d => bindO (G d.1) fun r => some ⟨r, [], base, d.2⟩

theorem adrOf_ok {E : EM} {s : Shp} {v : SV} {q : SC × Nat} (h : adrOf s v = some q) (hn : 1 ≤ q.2) {u : Value} (hv : RelV E v u) : ∃ pv, RelC E q.1 pv ∧ ∀ b o', pv = .pointer (some ⟨b, o', none⟩) → ∀ (E1 : EM) k l, k ≠ 0 → E1 k = some (b, o', q.2) → l.length = q.2 → RelV E1 (.c (ownA s (.a l) k)) u := by
  have pcase : ∀ n p, s = .p n → v = .c p → ∃ pv, RelC E q.1 pv ∧ ∀ b o', pv = .pointer (some ⟨b, o', none⟩) → ∀ (E1 : EM) k l, k ≠ 0 → E1 k = some (b, o', q.2) → l.length = q.2 → RelV E1 (.c (ownA s (.a l) k)) u := by
    intro n p hs hp
    subst hs; subst hp
    cases h
    exact ⟨u, hv, fun b o' hu E1 k l hk hE hl => ⟨b, o', n, hE, by rw [hu]; simp⟩⟩
  have scase : ∀ es i o es' n fu, s = .s es → v = .c (.sl i o es' (.c (.ofNat n)) fu) → ∃ pv, RelC E q.1 pv ∧ ∀ b o', pv = .pointer (some ⟨b, o', none⟩) → ∀ (E1 : EM) k l, k ≠ 0 → E1 k = some (b, o', q.2) → l.length = q.2 → RelV E1 (.c (ownA s (.a l) k)) u := by
    intro es i o es' n fu hs hp
    subst hs; subst hp
    simp only [adrOf] at h
    split at h <;> cases h
    rename_i hb
    rw [beqN] at hb
    subst hb
    obtain ⟨base, m, cap, rfl, h1, h2, h3, h4⟩ := hv
    have hm : m = n := by
      have : (n : Int) = m := h1
      omega
    subst hm
    cases base with
    | none =>
      have := h3 rfl
      have hm0 : m = 0 := by omega
      rw [hm0] at hn; simp at hn
    | some a =>
      obtain ⟨g1, b, o1, z, g2, g3, g4⟩ := h4 a rfl
      have hm0 : m ≠ 0 := fun e => by rw [e] at hn; simp at hn
      have hc : cap ≠ 0 := by omega
      refine ⟨.pointer (some a), ⟨b, o1, z, g2, by rw [g3 hc]⟩, fun b' o' hu E1 k l hk hE hl => ?_⟩
      cases hu
      have hes : 0 < es := Nat.pos_of_ne_zero fun e => by rw [e] at hn; simp at hn
      have hdiv : l.length / es = m := by rw [hl]; exact Nat.mul_div_cancel _ hes
      refine ⟨some ⟨b', o', none⟩, m, cap, rfl, ?_, h2, fun h => (by cases h), fun a ha => ?_⟩
      · show ((l.length / es : Nat) : Int) = m
        rw [hdiv]
      · cases ha
        exact ⟨hk, b', o', m * es, hE, fun _ => rfl, fun hf => (by cases hf)⟩
  cases s with
  | v => cases v <;> cases h
  | p n => cases v with
    | c x => exact pcase _ _ rfl rfl
    | _ => cases h
  | s es => cases v with
    | c x => cases x with
      | sl i o es' n fu => cases n with
        | c z => cases z with
          | ofNat n => exact scase _ _ _ _ _ _ rfl rfl
          | negSucc n => cases h
        | s z => cases h
      | _ => cases h
    | _ => cases h
theorem deref_adr {w w0 : World} {T0 : Nat → Nat → Prop} {E : EM} {rd : List (Nat × Seg)} (hm : MemRel w0 T0 E (fun i => findS i rd) w) {sh : List Shp} {l : List SV}
    (ih : ∀ {dl : List SV} {vals : List Value} {ob : List Bool}, derefS rd sh l = some (dl, ob) → AllT ob → RelVs E l vals →
      ∀ k, 1 ≤ k → ∃ E1 : EM, (∀ i, E1 i ≠ none → k ≤ i ∧ i < k + cntP sh) ∧ RelVs E1 (canA sh dl k) vals ∧
        (∀ i g, findS i (canR sh dl k) = some g → g.rw = false ∧ ∃ b o z cs T fr, E1 i = some (b, o, z) ∧ SegAt E1 b o z g w cs T fr) ∧ ∀ v ∈ dl, ∃ u, RelV E v u)
    {s0 : Shp} (hs0 : s0.adr = true) {v : SV} {dl : List SV} {vals : List Value} {ob : List Bool} (h : derefS rd (s0 :: sh) (v :: l) = some (dl, ob)) (hob : AllT ob) (hr : RelVs E (v :: l) vals) (k : Nat) (hk : 1 ≤ k) :
    ∃ E1 : EM, (∀ i, E1 i ≠ none → k ≤ i ∧ i < k + cntP (s0 :: sh)) ∧ RelVs E1 (canA (s0 :: sh) dl k) vals ∧
      (∀ i g, findS i (canR (s0 :: sh) dl k) = some g → g.rw = false ∧ ∃ b o z cs T fr, E1 i = some (b, o, z) ∧ SegAt E1 b o z g w cs T fr) ∧ ∀ v ∈ dl, ∃ u, RelV E v u := by
  replace h : (bindO (adrOf s0 v) fun q => bindO (ptrId q.1) fun i => bindO (findS i rd) fun g => bindO (sLoad g.body q.1 q.2) fun c => match flatL c.1 && Nat.ble 1 q.2 with
    | true => bindO (derefS rd sh l) fun r => some (.a c.1 :: r.1, c.2 ++ r.2)
    | false => none) = some (dl, ob) := by
    cases s0 <;> first | exact h | cases hs0
  obtain ⟨q, hq, h⟩ := bindO_some h
  obtain ⟨i, hi, h⟩ := bindO_some h
  obtain ⟨g, hg, h⟩ := bindO_some h
  obtain ⟨c, hc, h⟩ := bindO_some h
  split at h <;> try (cases h; done)
  rename_i hfl
  simp only [Bool.and_eq_true, Nat.ble_eq] at hfl
  obtain ⟨r, hd, h⟩ := bindO_some h
  cases h
  cases vals with
  | nil => exact hr.elim
  | cons u us =>
    obtain ⟨hob1, hob2⟩ := hob.append
    obtain ⟨pv, hpv, hown⟩ := adrOf_ok hq hfl.2 hr.1
    obtain ⟨b, o', hpe, vs, hlen, hrel, hcell⟩ := sLoad_ok hm hg hi hpv hc hob1
    obtain ⟨E1, h1, h2, h3, h4⟩ := ih hd hob2 hr.2 (k + 1) (by omega)
    have hk0 : E1 k = none := by
      cases hE : E1 k with
      | none => rfl
      | some x => have := (h1 k (by rw [hE]; simp)).1; omega
    have hext := Ext.upd (E := E1) (b, o', q.2) hk0
    have hblk : ∃ cs T fr, w.heap[b]? = some (.cells cs T fr) ∧ ∀ j, j < q.2 → cs[o' + j]? = vs[j]? := by
      have h0 := hcell 0 (by omega)
      rw [List.getElem?_eq_getElem (by omega)] at h0
      unfold World.cell? at h0
      split at h0
      · rename_i cs T fr hh
        refine ⟨cs, T, fr, hh, fun j hj => ?_⟩
        have := hcell j hj
        simp only [World.cell?, hh] at this
        simpa using this
      · cases h0
    obtain ⟨cs, T, fr, hh, hcs⟩ := hblk
    have hcnt : cntP (s0 :: sh) = cntP sh + 1 := by cases s0 <;> first | rfl | cases hs0
    have hcA : canA (s0 :: sh) (.a c.1 :: r.1) k = .c (ownA s0 (.a c.1) k) :: canA sh r.1 (k + 1) := by cases s0 <;> first | rfl | cases hs0
    have hcR : canR (s0 :: sh) (.a c.1 :: r.1) k = (k, ⟨false, false, .cells c.1⟩) :: canR sh r.1 (k + 1) := by cases s0 <;> first | rfl | cases hs0
    refine ⟨upd E1 k (some (b, o', q.2)), fun i hi => ?_, ?_, fun j g' hj => ?_, fun x hx => ?_⟩
    · by_cases e : i = k
      · subst e; omega
      · rw [upd_other _ _ e] at hi
        have := h1 i hi
        omega
    · rw [hcA]
      exact ⟨hown b o' hpe _ k c.1 (by omega) (upd_same _ _ _) (by rw [hrel.len, hlen]), RelVs.mono hext h2⟩
    · rw [hcR] at hj
      simp only [findS] at hj
      split at hj
      · rename_i hb
        cases hj
        rw [beqN.1 hb]
        refine ⟨rfl, b, o', q.2, cs, T, fr, upd_same _ _ _, hh, ?_, ?_, fun ho => (by cases ho), fun hrw => (by cases hrw), fun m hm' => ?_⟩
        · show c.1.length ≤ q.2
          rw [hrel.len, hlen]; exact Nat.le_refl _
        · have h5 := hcs (q.2 - 1) (by omega)
          rw [List.getElem?_eq_getElem (by omega)] at h5
          have := (Array.getElem?_eq_some_iff.1 h5).1
          omega
        · have hm2 : m < c.1.length := hm'
          obtain ⟨v, h6, h7⟩ := hrel.getD m hm2
          refine ⟨v, ?_, flatC_ok (flatL_getD hfl.1 m) h7⟩
          rw [hcs m (by rw [← hlen, ← hrel.len]; exact hm2)]; exact h6
      · obtain ⟨q1, b', o2, z', cs', T', fr', q2, q3⟩ := h3 j g' hj
        exact ⟨q1, b', o2, z', cs', T', fr', hext j _ q2, q3.mono hext⟩
    · rcases List.mem_cons.1 hx with rfl | hx
      · exact ⟨.agg vs.toArray, vs.toArray, rfl, by simpa using hrel⟩
      · exact h4 x hx
theorem deref_ok {w w0 : World} {T0 : Nat → Nat → Prop} {E : EM} {rd : List (Nat × Seg)} (hm : MemRel w0 T0 E (fun i => findS i rd) w) : ∀ {sh : List Shp} {args dl : List SV} {vals : List Value} {ob : List Bool}, derefS rd sh args = some (dl, ob) → AllT ob → RelVs E args vals →
    ∀ k, 1 ≤ k → ∃ E1 : EM, (∀ i, E1 i ≠ none → k ≤ i ∧ i < k + cntP sh) ∧ RelVs E1 (canA sh dl k) vals ∧
      (∀ i g, findS i (canR sh dl k) = some g → g.rw = false ∧ ∃ b o z cs T fr, E1 i = some (b, o, z) ∧ SegAt E1 b o z g w cs T fr) ∧ ∀ v ∈ dl, ∃ u, RelV E v u
  | [], [], dl, vals, ob, h, _, hr, k, _ => by
    cases h
    cases vals with
    | nil => exact ⟨fun _ => none, fun i hi => absurd rfl hi, trivial, fun i g hg => (by cases hg), fun v hv => (by cases hv)⟩
    | cons _ _ => exact hr.elim
  | [], _ :: _, dl, vals, ob, h, _, _, _, _ => by simp [derefS] at h
  | _ :: _, [], dl, vals, ob, h, _, _, _, _ => by simp [derefS] at h
  | .v :: sh, v :: l, dl, vals, ob, h, hob, hr, k, hk => by
    simp only [derefS] at h
    split at h <;> try (cases h; done)
    rename_i hfl
    obtain ⟨r, hd, h⟩ := bindO_some h
    cases h
    cases vals with
    | nil => exact hr.elim
    | cons u us =>
      obtain ⟨E1, h1, h2, h3, h4⟩ := deref_ok hm hd hob hr.2 k hk
      refine ⟨E1, h1, ⟨flatV_ok hfl hr.1, h2⟩, h3, fun x hx => ?_⟩
      rcases List.mem_cons.1 hx with rfl | hx
      · exact ⟨u, hr.1⟩
      · exact h4 x hx
  | .p n :: sh, v :: l, dl, vals, ob, h, hob, hr, k, hk => deref_adr hm (fun hd hob hr k hk => deref_ok hm hd hob hr k hk) (s0 := .p n) rfl h hob hr k hk
  | .s n :: sh, v :: l, dl, vals, ob, h, hob, hr, k, hk => deref_adr hm (fun hd hob hr k hk => deref_ok hm hd hob hr k hk) (s0 := .s n) rfl h hob hr k hk
theorem gQ_of {P : Program} {f : FuncId} {S : CS} (h : CallOK P f S) {sh : List Shp} {G : List SV → Option SV}
    (hG : ∀ dl r (E : EM), G dl = some r → (∀ v ∈ dl, ∃ u, RelV E v u) → ∃ e0, S (cntP sh + 1) (canA sh dl 1) (canR sh dl 1) = some e0 ∧ flatV e0.ret = true ∧ Nat.ble (cntP sh + 1) e0.next = true ∧ AllT e0.obs ∧ ∀ E v, RelV E e0.ret v → RelV E r v) : CallOK P f (gQ sh G) := by
  intro E base args vals rd w e hs hob hargs hb1 hbe hfr hmem
  unfold gQ at hs
  obtain ⟨d, hd, hs⟩ := bindO_some hs
  obtain ⟨r, hr, hs⟩ := bindO_some hs
  cases hs
  obtain ⟨E1, h1, h2, h3, h4⟩ := deref_ok hmem hd hob hargs 1 (Nat.le_refl _)
  obtain ⟨e0, g1, g2, g3, g4, g5⟩ := hG d.1 r E hr h4
  rw [Nat.ble_eq] at g3
  have hT : ∀ b k, ¬ Tch E1 (canR sh d.1 1) b k := fun b k ⟨i, g, o, z, q1, q2, _⟩ => by
    rw [(h3 i g q1).1] at q2; cases q2
  have hm1 : MemRel w (Tch E1 (canR sh d.1 1)) E1 (fun i => findS i (canR sh d.1 1)) w :=
    ⟨fun i g hg => (h3 i g hg).2, fun i j g k b o z b' o' z' _ hg hk hrw => (by
      rw [(h3 i g hg).1, (h3 j k hk).1] at hrw
      rcases hrw with hrw | hrw <;> cases hrw), fun i g b o z hg hrw => (by rw [(h3 i g hg).1] at hrw; cases hrw), Fr.refl _ _, hmem.tab.1, fun b k _ => hT b k⟩
  refine (h E1 _ _ vals _ w e0 g1 g4 h2 (by omega) g3 (fun i hi _ => ?_) hm1).mono fun v w' hp => ?_
  · cases hE : E1 i with
    | none => rfl
    | some x => have := h1 i (by rw [hE]; simp); omega
  obtain ⟨E', k1, k2, k3, k4⟩ := hp
  have hfr' := k4.fr
  refine ⟨E, Ext.refl E, fun i hi => .inl hi, g5 E v (flatV_ok g2 k3), ?_⟩
  have hseg : ∀ i g, findS i rd = some g → ∃ b o z cs T fr, E i = some (b, o, z) ∧ SegAt E b o z g w' cs T fr := by
    intro i g hg
    obtain ⟨b, o, z, cs, T, fr, q1, q2⟩ := hmem.segs i g hg
    obtain ⟨cs', q3⟩ := q2.frame hfr' (fun k _ _ => hT b k)
    exact ⟨b, o, z, cs', T, fr, q1, q3⟩
  refine ⟨fun i g hg => hseg i g hg, hmem.disj, hmem.tch, ?_, hmem.tab⟩
  refine ⟨hfr'.os, hfr'.out, hfr'.size, fun b hb => ?_, hfr'.frz⟩
  rcases hfr'.old b hb with ⟨cs, t, fr, cs', q1, q2, q3, q4⟩ | q1
  · exact .inl ⟨cs, t, fr, cs', q1, q2, q3, fun j _ => q4 j (hT b j)⟩
  · exact .inr q1
end
end Go.Proofs.YtaodbpejeglmlaaDoor
