/- append, calls, and the law of every operation. Nothing is assumed. -/
import Derived.Test.YtaodbpejeglmlaaDoorSi
namespace Go.Proofs.YtaodbpejeglmlaaDoor
open Go

section
variable {P : Program} {a : Act} {w0 w : World} {T0 : Nat → Nat → Prop} {E : EM} {gt : Nat → SV} {gs : Nat → Option Seg} {next : Nat}

/-- A segment under another name. -/
theorem MemRel.rename (h : MemRel w0 T0 E gs w) {i j : Nat} {g : Seg} (hg : gs i = some g) (hj : E j = none) {x : Nat × Nat × Nat} (hx : E i = some x) : MemRel w0 T0 (upd E j (some x)) (upd (upd gs i none) j (some g)) w := by
  obtain ⟨xb, xo, xz⟩ := x
  have he : Ext E (upd E j (some (xb, xo, xz))) := Ext.upd _ hj
  have hij : i ≠ j := by intro e; subst e; rw [hj] at hx; cases hx
  have look : ∀ k gk, upd (upd gs i none) j (some g) k = some gk → (k = j ∧ gk = g) ∨ (k ≠ j ∧ k ≠ i ∧ gs k = some gk) := by
    intro k gk hk
    by_cases e : k = j
    · subst e; rw [upd_same] at hk; cases hk; exact .inl ⟨rfl, rfl⟩
    · rw [upd_other _ _ e] at hk
      by_cases e' : k = i
      · subst e'; rw [upd_same] at hk; cases hk
      · rw [upd_other _ _ e'] at hk; exact .inr ⟨e, e', hk⟩
  refine ⟨fun k gk hk => ?_, fun k l gk gl b o z b' o' z' hkl hk hl hr hb hb' => ?_, fun k gk b o z hk hr hb => ?_, h.fr, h.tab⟩
  · rcases look k gk hk with ⟨rfl, rfl⟩ | ⟨e1, e2, e3⟩
    · obtain ⟨b, o, z, cs, T, fr, e, s⟩ := h.segs i _ hg
      exact ⟨b, o, z, cs, T, fr, by rw [upd_same, ← hx]; exact e, s.mono he⟩
    · obtain ⟨b, o, z, cs, T, fr, e, s⟩ := h.segs k gk e3
      exact ⟨b, o, z, cs, T, fr, by rw [upd_other _ _ e1]; exact e, s.mono he⟩
  · rcases look k gk hk with ⟨rfl, rfl⟩ | ⟨e1, e2, e3⟩ <;> rcases look l gl hl with ⟨rfl, rfl⟩ | ⟨f1, f2, f3⟩
    · exact absurd rfl hkl
    · rw [upd_same, ← hx] at hb
      rw [upd_other _ _ f1] at hb'
      exact h.disj i l _ gl b o z b' o' z' (Ne.symm f2) hg f3 hr hb hb'
    · rw [upd_same, ← hx] at hb'
      rw [upd_other _ _ e1] at hb
      exact h.disj k i gk _ b o z b' o' z' e2 e3 hg hr hb hb'
    · rw [upd_other _ _ e1] at hb
      rw [upd_other _ _ f1] at hb'
      exact h.disj k l gk gl b o z b' o' z' hkl e3 f3 hr hb hb'
  · rcases look k gk hk with ⟨rfl, rfl⟩ | ⟨e1, e2, e3⟩
    · rw [upd_same, ← hx] at hb
      exact h.tch i _ b o z hg hr hb
    · rw [upd_other _ _ e1] at hb
      exact h.tch k gk b o z e3 hr hb

theorem post_app_new (hm : MemRel w0 T0 E gs w) (hfr : E next = none) (h1 : next ≠ 0) {gs' : Nat → Option Seg} (hsub : ∀ i g, gs' i = some g → gs i = some g) {l : List SC} {vs : List Value} (hr : RelL E l vs) {n cap es : Nat} {cs : Array Value} (hcap : n ≤ cap) (hcs : cs.size = cap * es) (hlen : l.length = n * es) (hget : ∀ k, k < vs.length → cs[k]? = vs[k]?) {el : TypeId} {rd : List Nat} {obs : List Bool} {ws : List (Nat × Option Seg)} (hws : updSs gs ws = upd gs' next (some ⟨true, true, .cells l⟩)) :
    PostOp w0 T0 E gs next ⟨.c (.sl next 0 es (.c (.ofNat n)) true), ws, next + 1, rd, obs⟩ (.slice (some ⟨w.heap.size, 0, none⟩) n cap) { w.drew with heap := w.heap.push (.cells cs el) } := by
  have hm' : MemRel w0 T0 E gs' w.drew := (hm.sub hsub).congr rfl rfl rfl
  have hle : l.length ≤ cs.size := by
    rw [hlen, hcs]; exact Nat.mul_le_mul_right _ hcap
  obtain ⟨E', g1, g2, g3, g4⟩ := new_slice (T := el) (rd := rd) (obs := obs) (len := .c (.ofNat n)) hm' hfr h1 hle (fun k hk => by
    obtain ⟨v, h1, h2⟩ := hr.getD k hk
    exact ⟨v, by rw [hget k (by rw [← hr.len]; exact hk)]; exact h1, h2⟩) hcap hcs.symm rfl
  exact ⟨E', g1, g2, g3, by rw [hws]; exact g4⟩

theorem sApp_ok (hm : MemRel w0 T0 E gs w) (h1 : next ≠ 0) {t el : TypeId} {i1 o1 e1 n : Nat} {f1 : Bool} {i2 o2 e2 m es by' : Nat} {f2 : Bool} {z : List SC} {s x : Value} (hs : RelC E (.sl i1 o1 e1 (.c (.ofNat n)) f1) s) (hx : RelC E (.sl i2 o2 e2 (.c (.ofNat m)) f2) x)
    (hel : telem P t = some el) (hes : tsize P el = some es) (hby : tbytes P el = some by') (hz : tzero P el = some z) {e : Eff} (h : sApp P el gs next i1 o1 e1 n f1 i2 o2 e2 m es by' z = some e) (hfr : ∀ i, next ≤ i → i < e.next → E i = none)
    {ts : Array TypeId} {ty t' el' : TypeId} (hts : ts[0]? = some t ∧ ts[1]? = some t') (ht' : telem P t' = some el') :
    ∃ u w', (Builtin.append_ ts ty #[s, x]).run P w = .ok u w' ∧ PostOp w0 T0 E gs next e u w' := by
  unfold sApp at h
  split at h <;> try (cases h; done)
  rename_i hc
  simp only [Bool.and_eq_true, Nat.ble_eq, beqN] at hc
  obtain ⟨⟨⟨hc1, hc2⟩, hc3⟩, hc4⟩ := hc
  have g1 := bindO_some h
  clear h
  obtain ⟨new, hnew, h⟩ := g1
  have hmd : MemRel w0 T0 E gs w.drew := hm.congr rfl rfl rfl
  obtain ⟨zv, hzv, hzr, _⟩ := rZero (P := P) (w := w) (E := E) hz
  have hzall : ∀ w : World, (zeroValue el).run P w = .ok zv w := by
    intro u
    obtain ⟨zv', h1, _, i, hi, hiz⟩ := rZero (P := P) (w := u) (E := E) hz
    obtain ⟨_, h2, _, i', hi', hiz'⟩ := rZero (P := P) (w := w) (E := E) hz
    rw [hi] at hi'; cases hi'
    rw [hiz] at hiz'; cases hiz'
    rw [hzv] at h2; cases h2
    exact h1
  have hzs : zv.cells.size = es := by have := hzr.len; simp at this; omega
  have hne : next ≠ 0 := h1
  split at h
  · -- onto nil
    rename_i h0
    rw [beqN] at h0
    split at h <;> try (cases h; done)
    rename_i hn0
    rw [beqN] at hn0
    subst h0; subst hn0
    obtain ⟨base, nn, cap, rfl, hlen, hcap, hnil, hbase⟩ := hs
    have hbn : base = none := by
      cases base with
      | none => rfl
      | some ad => exact absurd rfl (hbase ad rfl).1
    subst hbn
    have hc0 := hnil rfl
    subst hc0
    have hnn : nn = 0 := by omega
    subst hnn
    split at h
    · rename_i hm0
      rw [beqN] at hm0
      subst hm0
      cases h
      obtain ⟨us, hf, hnr, hul, bx, cx, hxe⟩ := appNew_ok (P := P) hm hnew hx rfl
      refine ⟨_, w, run_app_in hel hes hts ht' hxe hf (Nat.le_refl _) (fun ad had => by cases had) (fun _ => rfl), post_pure hm (v := .c (.sl 0 0 0 (.c 0) false)) ?_⟩
      exact ⟨none, 0, 0, rfl, rfl, Nat.le_refl _, fun _ => rfl, fun ad had => by cases had⟩
    · rename_i hm0
      have hm1 : m ≠ 0 := by intro e; subst e; simp at hm0
      cases h
      obtain ⟨us, hf, hnr, hul, bx, cx, hxe⟩ := appNew_ok (P := P) hmd hnew hx rfl
      obtain ⟨cap, cs, k1, k2, k3, k4⟩ := run_app_new (w := w) (base := none) (n := 0) (c := 0) (os := []) (ty := ty) hel hes hby hc3 hts ht' hxe hf (by simp [Builtin.firstCells]) (by omega) (by omega) hzall hzs hul (by simp)
      rw [Nat.zero_add] at k1 k4
      refine ⟨_, _, k4, post_app_new hm (hfr next (Nat.le_refl _) (Nat.lt_succ_self _)) h1 (gs' := gs) (fun _ _ h => h) hnr k1 k2 (by rw [hnr.len, hul]) (fun k hk => ?_) rfl⟩
      have := k3 k (by simpa using hk)
      simpa using this
  · rename_i h0
    have hi0 : i1 ≠ 0 := by intro e; subst e; simp at h0
    split at h <;> try (cases h; done)
    rename_i hoe
    simp only [Bool.and_eq_true, beqN] at hoe
    obtain ⟨⟨rfl, rfl⟩, rfl⟩ := hoe
    unfold appOwn at h
    split at h <;> try (cases h; done)
    rename_i l1 hg1
    obtain ⟨b, q, z1, cs1, T1, fr1, hE1, s1⟩ := hm.segs i1 _ hg1
    obtain ⟨hq0, hz1⟩ := s1.own rfl
    subst hq0
    have hl1 : l1.length ≤ z1 := s1.le
    obtain ⟨base, nn, cap, rfl, hlen, hcap, hnil, hbase⟩ := hs
    have hnn : nn = n := by simp only [SI.val, Int.ofNat_eq_natCast] at hlen; omega
    subst hnn
    have hb2 : ∀ ad, base = some ad → (cap ≠ 0 → ad = ⟨b, 0, none⟩) ∧ cap * e1 = z1 := by
      intro ad had
      obtain ⟨_, b', o', z', hE', ha, hfu⟩ := hbase ad had
      rw [hE1] at hE'; cases hE'
      exact ⟨fun hc => by rw [ha hc], by have := hfu rfl; omega⟩
    have hmul : nn * e1 + m * e1 = (nn + m) * e1 := (Nat.add_mul ..).symm
    split at h
    · -- there is room for sure
      rename_i hroom
      simp only [Bool.and_eq_true, Nat.ble_eq, Bool.or_eq_true, beqN] at hroom
      obtain ⟨hroom, hnm⟩ := hroom
      split at h <;> cases h
      rename_i r hr
      obtain ⟨us, hf, hnr, hul, bx, cx, hxe⟩ := appNew_ok (P := P) hm hnew hx rfl
      have hfit : nn + m ≤ cap := by
        cases base with
        | none =>
          have hc0 := hnil rfl
          omega
        | some ad =>
          have h2 := (hb2 ad rfl).2
          have h3 : (nn + m) * e1 ≤ cap * e1 := by omega
          exact Nat.le_of_mul_le_mul_right h3 hc1
      obtain ⟨b', o', hp, w', hrun, hm'⟩ := sStore_ok hm hg1 rfl (p := .ptr i1 (nn * e1)) rfl (v := .pointer (some ⟨b, 0 + nn * e1, none⟩)) ⟨b, 0, z1, hE1, rfl⟩ hnr (body := .cells r) (ob := []) (by simp only [sStore, hr]) AllT.nil P
      cases hp
      refine ⟨.slice base (nn + m) cap, w', ?_, E, Ext.refl E, fun i h => .inl h, ?_, hm'⟩
      · by_cases hc0 : cap = 0
        · have hn0 : nn = 0 := by omega
          have hm0 : m = 0 := by omega
          subst hn0; subst hm0
          have hu0 : us = [] := List.length_eq_zero_iff.1 (by simpa using hul)
          subst hu0
          have hww : w' = w := by simp [storeCells] at hrun; exact hrun.symm
          subst hww
          exact run_app_in hel hes hts ht' hxe hf hfit (fun ad _ => by simp [storeCells]) (fun _ => rfl)
        · refine run_app_in hel hes hts ht' hxe hf hfit (fun ad had => ?_) (fun hbn => absurd (hnil hbn) hc0)
          rw [(hb2 ad had).1 hc0, addr_add]; exact hrun
      · refine ⟨base, nn + m, cap, rfl, rfl, hfit, hnil, fun ad had => ?_⟩
        exact ⟨hi0, b, 0, z1, hE1, fun hc => by rw [(hb2 ad had).1 hc], fun _ => by have := (hb2 ad had).2; omega⟩
    · split at h <;> try (cases h; done)
      rename_i hbig
      rw [Nat.ble_eq] at hbig
      split at h <;> cases h
      rename_i old hold
      have hfrn := hfr next (Nat.le_refl _) (Nat.lt_succ_self _)
      have hni : next ≠ i1 := by intro e; subst e; rw [hfrn] at hE1; cases hE1
      have hws : ∀ seg, updSs gs [(i1, none), (next, some seg)] = upd (upd gs i1 none) next (some seg) := fun _ => rfl
      have htg := takeL_get hold
      have htl := takeL_le hold
      by_cases hfit : nn + m ≤ cap
      · -- it lies where it lay
        obtain ⟨us, hf, hnr, hul, bx, cx, hxe⟩ := appNew_ok (P := P) hm hnew hx rfl
        have hnm1 : nn + m ≠ 0 := by
          intro e0
          have : nn = 0 := by omega
          have : m = 0 := by omega
          subst nn; subst m
          omega
        cases base with
        | none => have := hnil rfl; omega
        | some ad =>
          obtain ⟨ha, hce⟩ := hb2 ad rfl
          have had := ha (by omega)
          subst had
          have hroom : (nn + m) * e1 ≤ cap * e1 := Nat.mul_le_mul_right _ hfit
          have hsz : z1 = cs1.size := hz1
          obtain ⟨w', cs', hrun, hput⟩ := run_put P b (nn * e1) T1 fr1 us 0 w cs1 s1.heap (by rw [hul]; omega) (fun k h2 h3 => s1.fz rfl k (by omega) (by rw [hul] at h3; omega)) hnr.one
          have hm' := hm.put hg1 rfl hE1 hput (by rw [hul]; omega) (body := .cells (old ++ new)) (by simp only [SBody.len, List.length_append, htg.1, hnr.len, hul]; omega) (fun k hk => by
            simp only [SBody.len, List.length_append, htg.1, hnr.len, hul] at hk
            simp only [SBody.at]
            rw [hput.at_]
            by_cases hk2 : k < nn * e1
            · rw [if_neg (by omega)]
              obtain ⟨u, h2, h3⟩ := s1.cell k (by simp only [SBody.len]; omega)
              refine ⟨u, h2, ?_⟩
              have e2 : (old ++ new).getD k .any = old.getD k .any := by simp [List.getD, List.getElem?_append_left (show k < old.length by omega)]
              rw [e2, htg.2 k hk2]; exact h3
            · rw [if_pos (by rw [hul]; omega)]
              obtain ⟨u, h2, h3⟩ := hnr.getD (k - nn * e1) (by rw [hnr.len, hul]; omega)
              refine ⟨u, by rw [show 0 + k - (nn * e1 + 0) = k - nn * e1 by omega]; exact h2, ?_⟩
              have e2 : (old ++ new).getD k .any = new.getD (k - nn * e1) .any := by
                simp [List.getD, List.getElem?_append_right (show old.length ≤ k by omega), htg.1]
              rw [e2]; exact h3)
          have hm2 := hm'.rename (upd_same _ _ _) hfrn hE1
          have hff : upd (upd gs i1 (some ⟨true, true, .cells (old ++ new)⟩)) i1 none = upd gs i1 none := by
            funext k
            by_cases e : k = i1
            · subst e; rw [upd_same, upd_same]
            · rw [upd_other _ _ e, upd_other _ _ e, upd_other _ _ e]
          rw [hff] at hm2
          refine ⟨.slice (some ⟨b, 0, none⟩) (nn + m) cap, w', run_app_in hel hes hts ht' hxe hf hfit (fun ad had => ?_) (fun hbn => by cases hbn), upd E next (some (b, 0, z1)), Ext.upd _ hfrn, fun i hi => ?_, ?_, ?_⟩
          · cases had
            rw [addr_add, Nat.zero_add]; exact hrun
          · by_cases e : i = next
            · subst e; exact .inr ⟨Nat.le_refl _, Nat.lt_succ_self _⟩
            · rw [upd_other _ _ e] at hi; exact .inl hi
          · refine ⟨some ⟨b, 0, none⟩, nn + m, cap, rfl, rfl, hfit, fun e => (by cases e), fun ad had => ?_⟩
            cases had
            exact ⟨h1, b, 0, z1, upd_same _ _ _, fun _ => rfl, fun _ => by omega⟩
          · rw [hws]; exact hm2
      · -- it is copied
        obtain ⟨us, hf, hnr, hul, bx, cx, hxe⟩ := appNew_ok (P := P) hmd hnew hx rfl
        -- the old cells
        have hos : ∃ os : List Value, (Builtin.firstCells e1 nn (.slice base nn cap)).run P w.drew = .ok os.toArray w.drew ∧ RelL E old os ∧ os.length = nn * e1 := by
          have hx1 : RelC E (.sl i1 0 e1 (.c (.ofNat nn)) true) (.slice base nn cap) := ⟨base, nn, cap, rfl, rfl, hcap, hnil, hbase⟩
          have hpart : part l1 0 (nn * e1) = some old := by
            unfold part
            have : dropL l1 0 = l1 := by cases l1 <;> rfl
            rw [this]; exact hold
          have hap : appNew gs i1 0 e1 e1 nn = some old := by
            unfold appNew
            split
            · rename_i hn0
              rw [beqN] at hn0
              subst hn0
              have : old = [] := List.length_eq_zero_iff.1 (by rw [htg.1]; simp)
              rw [this]
            · rw [show Nat.beq e1 e1 = true from beqN.2 rfl]
              simp only [hg1, sLoad, hpart]
          obtain ⟨os, k1, k2, k3, _⟩ := appNew_ok (P := P) hmd hap hx1 rfl
          exact ⟨os, k1, k2, k3⟩
        obtain ⟨os, ho, hor, hol⟩ := hos
        obtain ⟨cap', cs, k1, k2, k3, k4⟩ := run_app_new (w := w) (ty := ty) hel hes hby hc3 hts ht' hxe hf ho (by omega) hc2 hzall hzs hul hol
        refine ⟨_, _, k4, post_app_new hm hfrn h1 (gs' := upd gs i1 none) (fun i g hg => ?_) (hor.append hnr) k1 k2 (by rw [List.length_append, hor.len, hnr.len, hol, hul, hmul]) (fun k hk => ?_) (hws _)⟩
        · by_cases e : i = i1
          · subst e; rw [upd_same] at hg; cases hg
          · rw [upd_other _ _ e] at hg; exact hg
        · exact k3 k (by simpa using hk)
/-! ### rows -/
/-- What 'n' rows at the head of a body are read as. -/
theorem srcR_ok (hm : MemRel w0 T0 E gs w) {i2 es N m : Nat} {g2 : Seg} {NI : Int} {row : Int → List SC} (hg : gs i2 = some g2) (hb : g2.body = .rows es NI row) (hmN : (m : Int) ≤ NI) (hN : NI = (N : Nat)) {len : SI} {f : Bool} {x : Value} (hx : RelC E (.sl i2 0 es len f) x) (hlen : len.val = (m : Nat)) :
    ∃ us : List Value, (Builtin.firstCells es m x).run P w = .ok us.toArray w ∧ us.length = m * es ∧ (∀ k, k < m * es → ∃ u, us[k]? = some u ∧ RelC E ((row ((k / es : Nat) : Int)).getD (k % es) .any) u) ∧ ∃ bx cx, x = .slice bx m cx := by
  obtain ⟨base, n, cap, rfl, hl, hcap, hnil, hbase⟩ := hx
  have hn : n = m := by omega
  subst hn
  by_cases hn0 : n = 0
  · subst hn0
    exact ⟨[], by cases base <;> simp [Builtin.firstCells, loadCells, loadCellsFrom], by simp, fun k hk => by simp at hk, base, cap, rfl⟩
  · cases base with
    | none => have := hnil rfl; omega
    | some ad =>
      obtain ⟨_, b, q, z, hE, ha, _⟩ := hbase ad rfl
      have had := ha (by omega)
      subst had
      obtain ⟨b', q', z', cs, T, fr, hE', s⟩ := hm.segs i2 _ hg
      rw [hE] at hE'; cases hE'
      have hblen : n * es ≤ g2.body.len := by
        rw [hb]
        simp only [SBody.len, hN, Int.toNat_natCast]
        rw [Nat.mul_comm]
        exact Nat.mul_le_mul_left _ (by omega)
      have hle := s.le
      have hfit := s.fit
      have hl2 : ((cs.toList.drop q).take (n * es)).length = n * es := by
        simp only [List.length_take, List.length_drop, Array.length_toList]
        omega
      have hget : ∀ k, k < n * es → ((cs.toList.drop q).take (n * es))[k]? = cs[q + k]? := by
        intro k hk
        rw [List.getElem?_take, if_pos hk, List.getElem?_drop, Array.getElem?_toList]
      refine ⟨(cs.toList.drop q).take (n * es), ?_, hl2, fun k hk => ?_, _, cap, rfl⟩
      · simp only [Builtin.firstCells]
        have e := run_loadCells_list (P := P) w ⟨b, q + 0, none⟩ ((cs.toList.drop q).take (n * es)) fun j u hj => by
          have hjl : j < n * es := by
            rcases Nat.lt_or_ge j (n * es) with h' | h'
            · exact h'
            · rw [List.getElem?_eq_none (by rw [hl2]; exact h')] at hj; cases hj
          rw [hget j hjl] at hj
          rw [addr_add]
          simp only [World.cell?, s.heap, Nat.add_zero]
          exact hj
        rw [hl2] at e
        exact e
      · obtain ⟨v, h1, h2⟩ := s.cell k (by omega)
        rw [hb] at h2
        exact ⟨v, by rw [hget k hk]; exact h1, h2⟩
theorem takeL_zero : ∀ l : List SC, takeL l 0 = some []
  | [] => rfl
  | _ :: _ => rfl
theorem takeL_two : ∀ {l : List SC} {n m : Nat} {r r' : List SC}, takeL l n = some r → takeL (dropL l n) m = some r' → takeL l (n + m) = some (r ++ r')
  | [], 0, m, r, r', h, h' => by cases h; rw [Nat.zero_add]; exact h'
  | [], n + 1, m, r, r', h, _ => by cases h
  | x :: l, 0, m, r, r', h, h' => by cases h; rw [Nat.zero_add]; exact h'
  | x :: l, n + 1, m, r, r', h, h' => by
    change (Option.rec none (fun r => some (x :: r)) (takeL l n) : Option (List SC)) = some r at h
    cases hm : takeL l n with
    | none => rw [hm] at h; cases h
    | some q =>
      rw [hm] at h; cases h
      have := takeL_two hm (show takeL (dropL l n) m = some r' from h')
      rw [show n + 1 + m = n + m + 1 by omega]
      show (Option.rec none (fun r => some (x :: r)) (takeL l (n + m)) : Option (List SC)) = _
      rw [this]; rfl
theorem dropL_add : ∀ (l : List SC) (o n : Nat), dropL l (o + n) = dropL (dropL l o) n
  | [], o, n => by cases o <;> cases n <;> rfl
  | _ :: _, 0, n => by rw [Nat.zero_add]; rfl
  | x :: l, o + 1, n => by
    rw [show o + 1 + n = o + n + 1 by omega]
    exact dropL_add l o n
theorem part_two {l r r' : List SC} {o n : Nat} (h : part l o n = some r) (h' : part l (o + n) n = some r') : part l o (n + n) = some (r ++ r') := by
  unfold part at h h' ⊢
  rw [dropL_add] at h'
  exact takeL_two h h'
/-- What 'm' rows behind row 'I' are read as. -/
theorem srcRr_ok (hm : MemRel w0 T0 E gs w) {i2 es N I m : Nat} {g2 : Seg} {NI : Int} {row : Int → List SC} (hg : gs i2 = some g2) (hb : g2.body = .rows es NI row) (hmN : I + m ≤ N) (hN : NI = (N : Nat)) {x : Value} (hx : RelC E (.slr i2 es (I : Int) (m : Int)) x) :
    ∃ us : List Value, (Builtin.firstCells es m x).run P w = .ok us.toArray w ∧ us.length = m * es ∧ (∀ k, k < m * es → ∃ u, us[k]? = some u ∧ RelC E ((row (((I * es + k) / es : Nat) : Int)).getD ((I * es + k) % es) .any) u) ∧ ∃ bx cx, x = .slice bx m cx := by
  obtain ⟨base, n, cap, rfl, hl, hcap, hnil, I', hI, hbase⟩ := hx
  have hn : n = m := by omega
  have hI' : I' = I := by omega
  subst hn
  subst hI'
  by_cases hn0 : n = 0
  · subst hn0
    exact ⟨[], by cases base <;> simp [Builtin.firstCells, loadCells, loadCellsFrom], by simp, fun k hk => by simp at hk, base, cap, rfl⟩
  · cases base with
    | none => have := hnil rfl; omega
    | some ad =>
      obtain ⟨b, q, z, hE, ha⟩ := hbase ad rfl
      have had := ha (by omega)
      subst had
      obtain ⟨b', q', z', cs, T, fr, hE', s⟩ := hm.segs i2 _ hg
      rw [hE] at hE'; cases hE'
      have hblen : I' * es + n * es ≤ g2.body.len := by
        rw [hb]
        simp only [SBody.len, hN, Int.toNat_natCast]
        rw [← Nat.add_mul, Nat.mul_comm]
        exact Nat.mul_le_mul_left _ hmN
      have hle := s.le
      have hfit := s.fit
      have hl2 : ((cs.toList.drop (q + I' * es)).take (n * es)).length = n * es := by
        simp only [List.length_take, List.length_drop, Array.length_toList]
        omega
      have hget : ∀ k, k < n * es → ((cs.toList.drop (q + I' * es)).take (n * es))[k]? = cs[q + (I' * es + k)]? := by
        intro k hk
        rw [List.getElem?_take, if_pos hk, List.getElem?_drop, Array.getElem?_toList, Nat.add_assoc]
      refine ⟨(cs.toList.drop (q + I' * es)).take (n * es), ?_, hl2, fun k hk => ?_, _, cap, rfl⟩
      · simp only [Builtin.firstCells]
        have e := run_loadCells_list (P := P) w ⟨b, q + I' * es, none⟩ ((cs.toList.drop (q + I' * es)).take (n * es)) fun j u hj => by
          have hjl : j < n * es := by
            rcases Nat.lt_or_ge j (n * es) with h' | h'
            · exact h'
            · rw [List.getElem?_eq_none (by rw [hl2]; exact h')] at hj; cases hj
          rw [hget j hjl] at hj
          rw [addr_add]
          simp only [World.cell?, s.heap]
          rw [Nat.add_assoc]
          exact hj
        rw [hl2] at e
        exact e
      · obtain ⟨v, h1, h2⟩ := s.cell (I' * es + k) (by omega)
        rw [hb] at h2
        exact ⟨v, by rw [hget k hk]; exact h1, h2⟩
theorem appR_run (hm : MemRel w0 T0 E gs w) (h1 : next ≠ 0) {t el : TypeId} {i1 es by' n m : Nat} {len1 : SI} {s x : Value} (hs : RelC E (.sl i1 0 es len1 true) s) (hl1 : len1.val = (n : Nat)) {b1 : SBody} (hg1 : gs i1 = some ⟨true, true, b1⟩) (hi0 : i1 ≠ 0) (hes1 : 1 ≤ es) {R : Int → List SC}
    (hsrc : ∀ w : World, MemRel w0 T0 E gs w → ∃ us : List Value, (Builtin.firstCells es m x).run P w = .ok us.toArray w ∧ us.length = m * es ∧ (∀ k, k < m * es → ∃ u, us[k]? = some u ∧ RelC E ((R (((n * es + k) / es : Nat) : Int)).getD ((n * es + k) % es) .any) u) ∧ ∃ bx cx, x = .slice bx m cx)
    (hold : ∀ k, k < n * es → k < b1.len ∧ ∀ v, RelC E (b1.at k) v → RelC E ((R ((k / es : Nat) : Int)).getD (k % es) .any) v)
    (hel : telem P t = some el) (hes : tsize P el = some es) (hby : tbytes P el = some by') (hb : by' ≤ 1000000) {zv : Value} (hz : ∀ w : World, (zeroValue el).run P w = .ok zv w) (hzs : zv.cells.size = es)
    {ts : Array TypeId} {ty t' el' : TypeId} (hts : ts[0]? = some t ∧ ts[1]? = some t') (ht' : telem P t' = some el') (hbig : n + m ≤ 1000000) (hfrn : E next = none) {rd : List Nat} {obs : List Bool} {len : SI} {N : Int} (hlen : len.val = ((n + m : Nat) : Int)) (hN : N = ((n + m : Nat) : Int)) :
    ∃ u w', (Builtin.append_ ts ty #[s, x]).run P w = .ok u w' ∧ PostOp w0 T0 E gs next ⟨.c (.sl next 0 es len true), [(i1, none), (next, some ⟨true, true, .rows es N R⟩)], next + 1, rd, obs⟩ u w' := by
  have hmd : MemRel w0 T0 E gs w.drew := hm.congr rfl rfl rfl
  obtain ⟨b, q, z1, cs1, T1, fr1, hE1, s1⟩ := hm.segs i1 _ hg1
  obtain ⟨hq0, hz1⟩ := s1.own rfl
  subst hq0
  have hsz : z1 = cs1.size := hz1
  obtain ⟨base, nn, cap, rfl, hln, hcap, hnil, hbase⟩ := hs
  have hnn : nn = n := by omega
  subst hnn
  have hb2 : ∀ ad, base = some ad → (cap ≠ 0 → ad = ⟨b, 0, none⟩) ∧ cap * es = z1 := by
    intro ad had
    obtain ⟨_, b', o', z', hE', ha, hfu⟩ := hbase ad had
    rw [hE1] at hE'; cases hE'
    exact ⟨fun hc => by rw [ha hc], by have := hfu rfl; omega⟩
  have hmul : nn * es + m * es = (nn + m) * es := (Nat.add_mul ..).symm
  have hni : next ≠ i1 := by intro e; subst e; rw [hfrn] at hE1; cases hE1
  have hws : updSs gs [(i1, none), (next, some ⟨true, true, .rows es N R⟩)] = upd (upd gs i1 none) next (some ⟨true, true, .rows es N R⟩) := rfl
  have hbl : (SBody.rows es N R).len = (nn + m) * es := by
    simp only [SBody.len, hN, Int.toNat_natCast]
    exact Nat.mul_comm _ _
  by_cases hfit : nn + m ≤ cap
  · obtain ⟨us, hf, hul, hus, bx, cx, hxe⟩ := hsrc w hm
    have hone : ∀ v ∈ us, v.oneCell' = true := by
      intro v hv
      obtain ⟨k, hk⟩ := List.getElem?_of_mem hv
      have hkl : k < m * es := by
        rcases Nat.lt_or_ge k us.length with h' | h'
        · omega
        · rw [List.getElem?_eq_none h'] at hk; cases hk
      obtain ⟨u, g1, g2⟩ := hus k hkl
      rw [g1] at hk; cases hk
      exact g2.one
    have hroom : (nn + m) * es ≤ z1 := by
      cases base with
      | none =>
        have hc0 := hnil rfl
        have : nn + m = 0 := by omega
        rw [this]; simp
      | some ad =>
        have h2 := (hb2 ad rfl).2
        rw [← h2]
        exact Nat.mul_le_mul_right _ hfit
    obtain ⟨w', cs', hrun, hput⟩ := run_put P b (nn * es) T1 fr1 us 0 w cs1 s1.heap (by rw [hul]; omega) (fun k h2 h3 => s1.fz rfl k (by omega) (by rw [hul] at h3; omega)) hone
    have hm' := hm.put hg1 rfl hE1 hput (by rw [hul]; omega) (body := .rows es N R) (by rw [hbl]; exact hroom) (fun k hk => by
      rw [hbl] at hk
      rw [hput.at_]
      by_cases hk2 : k < nn * es
      · rw [if_neg (by omega)]
        obtain ⟨h3, h4⟩ := hold k hk2
        obtain ⟨u, h5, h6⟩ := s1.cell k h3
        exact ⟨u, h5, h4 u h6⟩
      · rw [if_pos (by rw [hul]; omega)]
        obtain ⟨u, h2, h3⟩ := hus (k - nn * es) (by omega)
        refine ⟨u, by rw [show 0 + k - (nn * es + 0) = k - nn * es by omega]; exact h2, ?_⟩
        rw [show nn * es + (k - nn * es) = k by omega] at h3
        exact h3)
    have hm2 := hm'.rename (upd_same _ _ _) hfrn hE1
    have hff : upd (upd gs i1 (some ⟨true, true, .rows es N R⟩)) i1 none = upd gs i1 none := by
      funext k
      by_cases e : k = i1
      · subst e; rw [upd_same, upd_same]
      · rw [upd_other _ _ e, upd_other _ _ e, upd_other _ _ e]
    rw [hff] at hm2
    have hu0 : cap = 0 → us = [] := by
      intro hc0
      have hm0 : m = 0 := by omega
      subst hm0
      exact List.length_eq_zero_iff.1 (by simpa using hul)
    have hww : us = [] → w' = w := by
      intro e
      subst e
      simp [storeCells] at hrun
      exact hrun.symm
    refine ⟨.slice base (nn + m) cap, w', run_app_in hel hes hts ht' hxe hf hfit (fun ad had => ?_) (fun hbn => hww (hu0 (hnil hbn))), upd E next (some (b, 0, z1)), Ext.upd _ hfrn, fun i hi => ?_, ?_, ?_⟩
    · by_cases hc0 : cap = 0
      · have e := hu0 hc0
        rw [hww e, e]
        simp [storeCells]
      · rw [(hb2 ad had).1 hc0, addr_add, Nat.zero_add]; exact hrun
    · by_cases e : i = next
      · subst e; exact .inr ⟨Nat.le_refl _, Nat.lt_succ_self _⟩
      · rw [upd_other _ _ e] at hi; exact .inl hi
    · refine ⟨base, nn + m, cap, rfl, hlen, hfit, hnil, fun ad had => ?_⟩
      exact ⟨h1, b, 0, z1, upd_same _ _ _, fun hc => by rw [(hb2 ad had).1 hc], fun _ => by have := (hb2 ad had).2; omega⟩
    · rw [hws]; exact hm2
  · obtain ⟨us, hf, hul, hus, bx, cx, hxe⟩ := hsrc w.drew hmd
    have hos : ∃ os : List Value, (Builtin.firstCells es nn (.slice base nn cap)).run P w.drew = .ok os.toArray w.drew ∧ os.length = nn * es ∧ ∀ k, k < nn * es → ∃ u, os[k]? = some u ∧ RelC E (b1.at k) u := by
      by_cases hn0 : nn = 0
      · subst hn0
        exact ⟨[], by cases base <;> simp [Builtin.firstCells, loadCells, loadCellsFrom], by simp, fun k hk => by simp at hk⟩
      · cases base with
        | none => have := hnil rfl; omega
        | some ad =>
          have had := (hb2 ad rfl).1 (by omega)
          subst had
          have hle := s1.le
          have hnb : nn * es ≤ z1 := by
            rw [← (hb2 _ rfl).2]
            exact Nat.mul_le_mul_right _ hcap
          have hl2 : (cs1.toList.take (nn * es)).length = nn * es := by
            simp only [List.length_take, Array.length_toList]
            omega
          have hget : ∀ k, k < nn * es → (cs1.toList.take (nn * es))[k]? = cs1[k]? := by
            intro k hk
            rw [List.getElem?_take, if_pos hk, Array.getElem?_toList]
          refine ⟨cs1.toList.take (nn * es), ?_, hl2, fun k hk => ?_⟩
          · simp only [Builtin.firstCells]
            have e := run_loadCells_list (P := P) w.drew ⟨b, 0, none⟩ (cs1.toList.take (nn * es)) fun j u hj => by
              have hjl : j < nn * es := by
                rcases Nat.lt_or_ge j (nn * es) with h' | h'
                · exact h'
                · rw [List.getElem?_eq_none (by rw [hl2]; exact h')] at hj; cases hj
              rw [hget j hjl] at hj
              rw [addr_add]
              have hh : w.drew.heap[b]? = some (.cells cs1 T1 fr1) := s1.heap
              simp only [World.cell?, hh, Nat.zero_add]
              exact hj
            rw [hl2] at e
            exact e
          · obtain ⟨h3, _⟩ := hold k hk
            obtain ⟨u, h5, h6⟩ := s1.cell k h3
            exact ⟨u, by rw [hget k hk]; simpa using h5, h6⟩
    obtain ⟨os, ho, hol, hor⟩ := hos
    obtain ⟨cap', cs, k1, k2, k3, k4⟩ := run_app_new (w := w) (ty := ty) hel hes hby hb hts ht' hxe hf ho (by omega) hbig hz hzs hul hol
    have hm3 : MemRel w0 T0 E (upd gs i1 none) w := hm.sub fun i g hg => by
      by_cases e : i = i1
      · subst e; rw [upd_same] at hg; cases hg
      · rw [upd_other _ _ e] at hg; exact hg
    have hm4 : MemRel w0 T0 E (upd gs i1 none) w.drew := hm3.congr rfl rfl rfl
    have hroom : (nn + m) * es ≤ cap' * es := Nat.mul_le_mul_right _ k1
    obtain ⟨E', g1, g2, g3, g4⟩ := post_new (T := el) (cs := cs) (rd := rd) (obs := obs) (body := .rows es N R) (p := .sl next 0 es len true) (u := .slice (some ⟨w.heap.size, 0, none⟩) (nn + m) cap') hm4 hfrn h1 (by rw [hbl, k2]; exact hroom) (fun k hk => by
      rw [hbl] at hk
      rw [k3 k (by omega)]
      by_cases hk2 : k < nn * es
      · obtain ⟨u, h5, h6⟩ := hor k hk2
        exact ⟨u, by rw [List.getElem?_append_left (by omega)]; exact h5, (hold k hk2).2 u h6⟩
      · obtain ⟨u, h2, h3⟩ := hus (k - nn * es) (by omega)
        refine ⟨u, by rw [List.getElem?_append_right (by omega), hol]; exact h2, ?_⟩
        rw [show nn * es + (k - nn * es) = k by omega] at h3
        exact h3) (by
      refine ⟨some ⟨w.heap.size, 0, none⟩, nn + m, cap', rfl, hlen, k1, fun e => (by cases e), fun ad had => ?_⟩
      cases had
      exact ⟨h1, _, _, _, upd_same _ _ _, fun _ => rfl, fun _ => by rw [Nat.zero_add]; exact k2.symm⟩)
    exact ⟨_, _, k4, E', g1, g2, g3, by rw [hws]; exact g4⟩
theorem sAppR_ok (hm : MemRel w0 T0 E gs w) (h1 : next ≠ 0) {t el : TypeId} {i1 o1 e1 : Nat} {n : SI} {f1 : Bool} {i2 o2 e2 : Nat} {m : SI} {es by' : Nat} {f2 : Bool} {z : List SC} {s x : Value} (hs : RelC E (.sl i1 o1 e1 n f1) s) (hx : RelC E (.sl i2 o2 e2 m f2) x)
    (hel : telem P t = some el) (hes : tsize P el = some es) (hby : tbytes P el = some by') (hz : tzero P el = some z) {e : Eff} (h : sAppR gs next i1 o1 e1 n f1 i2 o2 e2 m es by' z = some e) (hfr : ∀ i, next ≤ i → i < e.next → E i = none) (hob : AllT e.obs)
    {ts : Array TypeId} {ty t' el' : TypeId} (hts : ts[0]? = some t ∧ ts[1]? = some t') (ht' : telem P t' = some el') :
    ∃ u w', (Builtin.append_ ts ty #[s, x]).run P w = .ok u w' ∧ PostOp w0 T0 E gs next e u w' := by
  obtain ⟨zv, hzv, hzr, _⟩ := rZero (P := P) (w := w) (E := E) hz
  have hzall : ∀ w : World, (zeroValue el).run P w = .ok zv w := by
    intro u
    obtain ⟨zv', h1, _, i, hi, hiz⟩ := rZero (P := P) (w := u) (E := E) hz
    obtain ⟨_, h2, _, i', hi', hiz'⟩ := rZero (P := P) (w := w) (E := E) hz
    rw [hi] at hi'; cases hi'
    rw [hiz] at hiz'; cases hiz'
    rw [hzv] at h2; cases h2
    exact h1
  unfold sAppR at h
  split at h <;> try (cases h; done)
  rename_i hc
  simp only [Bool.and_eq_true, Nat.ble_eq, beqN] at hc
  obtain ⟨⟨⟨⟨⟨⟨⟨hc1, hc2⟩, hc3⟩, hc4⟩, rfl⟩, rfl⟩, rfl⟩, rfl⟩ := hc
  have hzs : zv.cells.size = e2 := by have := hzr.len; simp at this; omega
  split at h <;> try (cases h; done)
  rename_i b1 hg1
  obtain ⟨g2, hg2, h⟩ := bindO_some h
  unfold appR at h
  split at h <;> try (cases h; done)
  · -- onto nothing
    rename_i k
    split at h <;> try (cases h; done)
    rename_i hk0
    rw [beqN] at hk0
    subst hk0
    split at h <;> try (cases h; done)
    rename_i st N row hb2
    split at h <;> try (cases h; done)
    rename_i m
    split at h <;> cases h
    rename_i hst
    simp only [Bool.and_eq_true, beqN] at hst
    obtain ⟨rfl, rfl⟩ := hst
    have hb := hob.head
    simp only [decide_eq_true_eq] at hb
    obtain ⟨h0, hmN, hbig⟩ := hb
    obtain ⟨j, rfl⟩ := Int.eq_ofNat_of_zero_le h0
    obtain ⟨J, rfl⟩ := Int.eq_ofNat_of_zero_le (Int.le_trans h0 hmN)
    exact appR_run (n := 0) (m := j) hm h1 hs rfl hg1 (by omega) hc1 (R := row) (fun w hm => by
      obtain ⟨us, k1, k2, k3, k4⟩ := srcR_ok (P := P) hm hg2 hb2 hmN rfl hx rfl
      exact ⟨us, k1, k2, fun k hk => by rw [Nat.zero_mul, Nat.zero_add]; exact k3 k hk, k4⟩) (fun k hk => by simp at hk) hel hes hby hc2 hzall hzs hts ht' (by omega) (hfr next (Nat.le_refl _) (Nat.lt_succ_self _)) (by simp [SI.val]) (by simp)
  · -- a row onto rows
    rename_i n
    split at h <;> try (cases h; done)
    rename_i st N row
    split at h <;> try (cases h; done)
    rename_i k
    split at h <;> try (cases h; done)
    rename_i l hb2
    split at h
    · rename_i hst
      simp only [Bool.and_eq_true, beqN] at hst
      obtain ⟨rfl, rfl⟩ := hst
      split at h <;> cases h
      rename_i r hr
      have hb := hob.head
      simp only [decide_eq_true_eq] at hb
      obtain ⟨h0, hnN, hbig⟩ := hb
      obtain ⟨j, rfl⟩ := Int.eq_ofNat_of_zero_le h0
      obtain ⟨J, rfl⟩ := Int.eq_ofNat_of_zero_le (Int.le_trans h0 hnN)
      have hap : appNew gs i2 o2 st st 1 = some r := by
        unfold appNew
        rw [show Nat.beq 1 0 = false from rfl, show Nat.beq st st = true from beqN.2 rfl]
        simp only [hg2, sLoad, hb2, Nat.one_mul, hr]
      have hrl : r.length = st := by
        obtain ⟨us, _, k2, k3, _⟩ := appNew_ok (P := P) (w := w) hm hap hx rfl
        rw [k2.len, k3, Nat.one_mul]
      have hes0 : 0 < st := by omega
      exact appR_run (n := j) (m := 1) hm h1 hs rfl hg1 (by omega) hc1 (R := fun k => bif decide (k < (j : Int)) then row k else r) (fun w hm => by
        obtain ⟨us, k1, k2, k3, k4⟩ := appNew_ok (P := P) hm hap hx rfl
        refine ⟨us, k1, k3, fun k hk => ?_, k4⟩
        rw [Nat.one_mul] at hk
        obtain ⟨u, h2, h3⟩ := k2.getD k (by rw [hrl]; exact hk)
        refine ⟨u, h2, ?_⟩
        rw [show (j * st + k) / st = j by rw [Nat.mul_comm, Nat.mul_add_div hes0, Nat.div_eq_of_lt hk]; simp, show (j * st + k) % st = k by rw [Nat.mul_comm, Nat.mul_add_mod, Nat.mod_eq_of_lt hk]]
        simpa using h3) (fun k hk => by
        have hkd : k / st < j := (Nat.div_lt_iff_lt_mul hes0).2 hk
        refine ⟨?_, fun v hv => ?_⟩
        · simp only [SBody.len, Int.toNat_natCast]
          have : j * st ≤ st * J := by rw [Nat.mul_comm]; exact Nat.mul_le_mul_left _ (by omega)
          omega
        · have hd : decide (((k / st : Nat) : Int) < (j : Int)) = true := by simpa using Int.ofNat_lt.2 hkd
          rw [hd]
          exact hv) hel hes hby hc2 hzall hzs hts ht' (by omega) (hfr next (Nat.le_refl _) (Nat.lt_succ_self _)) (by simp [SI.val]) (by simp)
    · split at h <;> try (cases h; done)
      rename_i hst
      simp only [Bool.and_eq_true, beqN] at hst
      obtain ⟨rfl, rfl⟩ := hst
      split at h <;> try (cases h; done)
      rename_i r hr
      split at h <;> cases h
      rename_i r' hr'
      have hb := hob.head
      simp only [decide_eq_true_eq] at hb
      obtain ⟨h0, hnN, hbig⟩ := hb
      obtain ⟨j, rfl⟩ := Int.eq_ofNat_of_zero_le h0
      obtain ⟨J, rfl⟩ := Int.eq_ofNat_of_zero_le (Int.le_trans h0 hnN)
      have hes0 : 0 < st := by omega
      have hp2 : part l o2 (2 * st) = some (r ++ r') := by
        have := part_two hr hr'
        rw [Nat.two_mul]; exact this
      have hap : appNew gs i2 o2 st st 2 = some (r ++ r') := by
        unfold appNew
        rw [show Nat.beq 2 0 = false from rfl, show Nat.beq st st = true from beqN.2 rfl]
        simp only [hg2, sLoad, hb2, hp2]
      have hrl : r.length = st := (part_get hr).1
      have hrl' : r'.length = st := (part_get hr').1
      exact appR_run (n := j) (m := 2) hm h1 hs rfl hg1 (by omega) hc1 (R := fun k => bif decide (k < (j : Int)) then row k else bif decide (k = (j : Int)) then r else r') (fun w hm => by
        obtain ⟨us, k1, k2, k3, k4⟩ := appNew_ok (P := P) hm hap hx rfl
        refine ⟨us, k1, k3, fun k hk => ?_, k4⟩
        obtain ⟨u, h2, h3⟩ := k2.getD k (by rw [List.length_append, hrl, hrl']; omega)
        refine ⟨u, h2, ?_⟩
        by_cases hk1 : k < st
        · rw [show (j * st + k) / st = j by rw [Nat.mul_comm, Nat.mul_add_div hes0, Nat.div_eq_of_lt hk1]; simp, show (j * st + k) % st = k by rw [Nat.mul_comm, Nat.mul_add_mod, Nat.mod_eq_of_lt hk1]]
          rw [List.getD_eq_getElem?_getD, List.getElem?_append_left (by omega), ← List.getD_eq_getElem?_getD] at h3
          simpa using h3
        · have hk3 : k - st < st := by omega
          rw [show (j * st + k) / st = j + 1 by rw [show j * st + k = st * (j + 1) + (k - st) by rw [Nat.mul_succ, Nat.mul_comm]; omega, Nat.mul_add_div hes0, Nat.div_eq_of_lt hk3, Nat.add_zero], show (j * st + k) % st = k - st by rw [show j * st + k = st * (j + 1) + (k - st) by rw [Nat.mul_succ, Nat.mul_comm]; omega, Nat.mul_add_mod, Nat.mod_eq_of_lt hk3]]
          rw [List.getD_eq_getElem?_getD, List.getElem?_append_right (by omega), hrl, ← List.getD_eq_getElem?_getD] at h3
          have e1 : decide (((j + 1 : Nat) : Int) < (j : Int)) = false := by simp; omega
          have e2 : decide (((j + 1 : Nat) : Int) = (j : Int)) = false := by simp; omega
          rw [e1, e2]
          exact h3) (fun k hk => by
        have hkd : k / st < j := (Nat.div_lt_iff_lt_mul hes0).2 hk
        refine ⟨?_, fun v hv => ?_⟩
        · simp only [SBody.len, Int.toNat_natCast]
          have : j * st ≤ st * J := by rw [Nat.mul_comm]; exact Nat.mul_le_mul_left _ (by omega)
          omega
        · have hd : decide (((k / st : Nat) : Int) < (j : Int)) = true := by simpa using Int.ofNat_lt.2 hkd
          rw [hd]
          exact hv) hel hes hby hc2 hzall hzs hts ht' (by omega) (hfr next (Nat.le_refl _) (Nat.lt_succ_self _)) (by simp [SI.val]) (by simp)
theorem sAppRR_ok (hm : MemRel w0 T0 E gs w) (h1 : next ≠ 0) {t el : TypeId} {i1 o1 e1 : Nat} {n : SI} {f1 : Bool} {i2 e2 : Nat} {idx m : Int} {es by' : Nat} {z : List SC} {s x : Value} (hs : RelC E (.sl i1 o1 e1 n f1) s) (hx : RelC E (.slr i2 e2 idx m) x)
    (hel : telem P t = some el) (hes : tsize P el = some es) (hby : tbytes P el = some by') (hz : tzero P el = some z) {e : Eff} (h : sAppRR gs next i1 o1 e1 n f1 i2 e2 idx m es by' z = some e) (hfr : ∀ i, next ≤ i → i < e.next → E i = none) (hob : AllT e.obs)
    {ts : Array TypeId} {ty t' el' : TypeId} (hts : ts[0]? = some t ∧ ts[1]? = some t') (ht' : telem P t' = some el') :
    ∃ u w', (Builtin.append_ ts ty #[s, x]).run P w = .ok u w' ∧ PostOp w0 T0 E gs next e u w' := by
  obtain ⟨zv, hzv, hzr, _⟩ := rZero (P := P) (w := w) (E := E) hz
  have hzall : ∀ w : World, (zeroValue el).run P w = .ok zv w := by
    intro u
    obtain ⟨zv', h1, _, i, hi, hiz⟩ := rZero (P := P) (w := u) (E := E) hz
    obtain ⟨_, h2, _, i', hi', hiz'⟩ := rZero (P := P) (w := w) (E := E) hz
    rw [hi] at hi'; cases hi'
    rw [hiz] at hiz'; cases hiz'
    rw [hzv] at h2; cases h2
    exact h1
  unfold sAppRR at h
  split at h <;> try (cases h; done)
  rename_i hc
  simp only [Bool.and_eq_true, Nat.ble_eq, beqN] at hc
  obtain ⟨⟨⟨⟨⟨⟨⟨hc1, hc2⟩, hc3⟩, hc4⟩, rfl⟩, rfl⟩, rfl⟩, rfl⟩ := hc
  have hzs : zv.cells.size = e2 := by have := hzr.len; simp at this; omega
  split at h <;> try (cases h; done)
  rename_i n
  split at h <;> try (cases h; done)
  rename_i st N row hg1
  split at h <;> try (cases h; done)
  rename_i w2 p2 st2 N2 row2 hg2
  split at h <;> cases h
  rename_i hst
  simp only [Bool.and_eq_true, beqN] at hst
  obtain ⟨rfl, rfl⟩ := hst
  have hb := hob.head
  simp only [decide_eq_true_eq] at hb
  obtain ⟨h0, hnN, hm0, hi0, hiN, hbig⟩ := hb
  obtain ⟨j, rfl⟩ := Int.eq_ofNat_of_zero_le h0
  obtain ⟨J, rfl⟩ := Int.eq_ofNat_of_zero_le (Int.le_trans h0 hnN)
  obtain ⟨M, rfl⟩ := Int.eq_ofNat_of_zero_le hm0
  obtain ⟨I, rfl⟩ := Int.eq_ofNat_of_zero_le hi0
  obtain ⟨J2, rfl⟩ := Int.eq_ofNat_of_zero_le (show 0 ≤ N2 by omega)
  have hes0 : 0 < st2 := by omega
  exact appR_run (n := j) (m := M) hm h1 hs rfl hg1 (by omega) hc1 (R := fun k => bif decide (k < (j : Int)) then row k else row2 (k - (j : Int) + (I : Int))) (fun w hm => by
    obtain ⟨us, k1, k2, k3, k4⟩ := srcRr_ok (P := P) hm hg2 rfl (by omega : I + M ≤ J2) rfl hx
    refine ⟨us, k1, k2, fun k hk => ?_, k4⟩
    obtain ⟨u, h2, h3⟩ := k3 k hk
    refine ⟨u, h2, ?_⟩
    rw [show j * st2 + k = st2 * j + k by rw [Nat.mul_comm], Nat.mul_add_div hes0, Nat.mul_add_mod]
    rw [show I * st2 + k = st2 * I + k by rw [Nat.mul_comm], Nat.mul_add_div hes0, Nat.mul_add_mod] at h3
    have e1 : decide (((j + k / st2 : Nat) : Int) < (j : Int)) = false := decide_eq_false (Int.not_lt.2 (Int.ofNat_le.2 (Nat.le_add_right _ _)))
    rw [e1]
    have e2 : ((j + k / st2 : Nat) : Int) - (j : Int) + (I : Int) = ((I + k / st2 : Nat) : Int) := by omega
    show RelC E ((row2 (((j + k / st2 : Nat) : Int) - (j : Int) + (I : Int))).getD _ _) u
    rw [e2]
    exact h3) (fun k hk => by
      have hkd : k / st2 < j := (Nat.div_lt_iff_lt_mul hes0).2 hk
      refine ⟨?_, fun v hv => ?_⟩
      · simp only [SBody.len, Int.toNat_natCast]
        have : j * st2 ≤ st2 * J := by rw [Nat.mul_comm]; exact Nat.mul_le_mul_left _ (by omega)
        omega
      · have hd : decide (((k / st2 : Nat) : Int) < (j : Int)) = true := by simpa using Int.ofNat_lt.2 hkd
        rw [hd]
        exact hv) hel hes hby hc2 hzall hzs hts ht' (by omega) (hfr next (Nat.le_refl _) (Nat.lt_succ_self _)) (by simp [SI.val]) (by simp)
end

end Go.Proofs.YtaodbpejeglmlaaDoor
