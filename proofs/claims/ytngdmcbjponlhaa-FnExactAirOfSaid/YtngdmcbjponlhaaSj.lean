/- append, calls, and the law of every operation. Nothing is assumed. -/
import Derived.Test.YtngdmcbjponlhaaSi
namespace Go.Proofs.Ytngdmcbjponlhaa
open Go

section
variable {P : Program} {a : Act} {w0 w : World} {T0 : Nat → Nat → Prop} {E : EM} {gt : Nat → SV} {gs : Nat → Option Seg} {next : Nat}

/-- A segment under another name. -/
theorem MemRel.rename (h : MemRel w0 T0 E gs w) {i j : Nat} {g : Seg} (hg : gs i = some g) (hj : E j = none) {x : Nat × Nat × Nat} (hx : E i = some x) : MemRel w0 T0 (upd E j (some x)) (upd (upd gs i none) j (some g)) w := by
  obtain ⟨xb, xo, xz⟩ := x
  have he : Ext E (upd E j (some (xb, xo, xz))) := Ext.upd _ hj
  have hij : i ≠ j := by intro e; subst e; rw [hj] at hx; cases hx
  have look : ∀ k gk, upd (upd gs i none) j (some g) k = some gk → (k = j ∧ gk = g) ∨ (k ≠ j ∧ k ≠ i ∧ gs k = some gk) := by
    intro k gk hk
    by_cases e : k = j
    · subst e; rw [upd_same] at hk; cases hk; exact .inl ⟨rfl, rfl⟩
    · rw [upd_other _ _ e] at hk
      by_cases e' : k = i
      · subst e'; rw [upd_same] at hk; cases hk
      · rw [upd_other _ _ e'] at hk; exact .inr ⟨e, e', hk⟩
  refine ⟨fun k gk hk => ?_, fun k l gk gl b o z b' o' z' hkl hk hl hr hb hb' => ?_, fun k gk b o z hk hr hb => ?_, h.fr⟩
  · rcases look k gk hk with ⟨rfl, rfl⟩ | ⟨e1, e2, e3⟩
    · obtain ⟨b, o, z, cs, T, fr, e, s⟩ := h.segs i _ hg
      exact ⟨b, o, z, cs, T, fr, by rw [upd_same, ← hx]; exact e, s.mono he⟩
    · obtain ⟨b, o, z, cs, T, fr, e, s⟩ := h.segs k gk e3
      exact ⟨b, o, z, cs, T, fr, by rw [upd_other _ _ e1]; exact e, s.mono he⟩
  · rcases look k gk hk with ⟨rfl, rfl⟩ | ⟨e1, e2, e3⟩ <;> rcases look l gl hl with ⟨rfl, rfl⟩ | ⟨f1, f2, f3⟩
    · exact absurd rfl hkl
    · rw [upd_same, ← hx] at hb
      rw [upd_other _ _ f1] at hb'
      exact h.disj i l _ gl b o z b' o' z' (Ne.symm f2) hg f3 hr hb hb'
    · rw [upd_same, ← hx] at hb'
      rw [upd_other _ _ e1] at hb
      exact h.disj k i gk _ b o z b' o' z' e2 e3 hg hr hb hb'
    · rw [upd_other _ _ e1] at hb
      rw [upd_other _ _ f1] at hb'
      exact h.disj k l gk gl b o z b' o' z' hkl e3 f3 hr hb hb'
  · rcases look k gk hk with ⟨rfl, rfl⟩ | ⟨e1, e2, e3⟩
    · rw [upd_same, ← hx] at hb
      exact h.tch i _ b o z hg hr hb
    · rw [upd_other _ _ e1] at hb
      exact h.tch k gk b o z e3 hr hb

theorem post_app_new (hm : MemRel w0 T0 E gs w) (hfr : E next = none) (h1 : next ≠ 0) {gs' : Nat → Option Seg} (hsub : ∀ i g, gs' i = some g → gs i = some g) {l : List SC} {vs : List Value} (hr : RelL E l vs) {n cap es : Nat} {cs : Array Value} (hcap : n ≤ cap) (hcs : cs.size = cap * es) (hlen : l.length = n * es) (hget : ∀ k, k < vs.length → cs[k]? = vs[k]?) {el : TypeId} {rd : List Nat} {obs : List Bool} {ws : List (Nat × Option Seg)} (hws : updSs gs ws = upd gs' next (some ⟨true, true, .cells l⟩)) :
    PostOp w0 T0 E gs next ⟨.c (.sl next 0 es (.c (.ofNat n)) true), ws, next + 1, rd, obs⟩ (.slice (some ⟨w.heap.size, 0, none⟩) n cap) { w.drew with heap := w.heap.push (.cells cs el) } := by
  have hm' : MemRel w0 T0 E gs' w.drew := (hm.sub hsub).congr rfl rfl rfl
  have hle : l.length ≤ cs.size := by
    rw [hlen, hcs]; exact Nat.mul_le_mul_right _ hcap
  obtain ⟨E', g1, g2, g3, g4⟩ := new_slice (T := el) (rd := rd) (obs := obs) (len := .c (.ofNat n)) hm' hfr h1 hle (fun k hk => by
    obtain ⟨v, h1, h2⟩ := hr.getD k hk
    exact ⟨v, by rw [hget k (by rw [← hr.len]; exact hk)]; exact h1, h2⟩) hcap hcs.symm rfl
  exact ⟨E', g1, g2, g3, by rw [hws]; exact g4⟩

theorem sApp_ok (hm : MemRel w0 T0 E gs w) (h1 : next ≠ 0) {t el : TypeId} {i1 o1 e1 n : Nat} {f1 : Bool} {i2 o2 e2 m es by' : Nat} {f2 : Bool} {z : List SC} {s x : Value} (hs : RelC E (.sl i1 o1 e1 (.c (.ofNat n)) f1) s) (hx : RelC E (.sl i2 o2 e2 (.c (.ofNat m)) f2) x)
    (hel : telem P t = some el) (hes : tsize P el = some es) (hby : tbytes P el = some by') (hz : tzero P el = some z) {e : Eff} (h : sApp P el gs next i1 o1 e1 n f1 i2 o2 e2 m es by' z = some e) (hfr : ∀ i, next ≤ i → i < e.next → E i = none)
    {ts : Array TypeId} {ty t' el' : TypeId} (hts : ts[0]? = some t ∧ ts[1]? = some t') (ht' : telem P t' = some el') :
    ∃ u w', (Builtin.append_ ts ty #[s, x]).run P w = .ok u w' ∧ PostOp w0 T0 E gs next e u w' := by
  unfold sApp at h
  split at h <;> try (cases h; done)
  rename_i hc
  simp only [Bool.and_eq_true, Nat.ble_eq, beqN] at hc
  obtain ⟨⟨⟨hc1, hc2⟩, hc3⟩, hc4⟩ := hc
  have g1 := bindO_some h
  clear h
  obtain ⟨new, hnew, h⟩ := g1
  have hmd : MemRel w0 T0 E gs w.drew := hm.congr rfl rfl rfl
  obtain ⟨zv, hzv, hzr, _⟩ := rZero (P := P) (w := w) (E := E) hz
  have hzall : ∀ w : World, (zeroValue el).run P w = .ok zv w := by
    intro u
    obtain ⟨zv', h1, _, i, hi, hiz⟩ := rZero (P := P) (w := u) (E := E) hz
    obtain ⟨_, h2, _, i', hi', hiz'⟩ := rZero (P := P) (w := w) (E := E) hz
    rw [hi] at hi'; cases hi'
    rw [hiz] at hiz'; cases hiz'
    rw [hzv] at h2; cases h2
    exact h1
  have hzs : zv.cells.size = es := by have := hzr.len; simp at this; omega
  have hne : next ≠ 0 := h1
  split at h
  · -- onto nil
    rename_i h0
    rw [beqN] at h0
    split at h <;> try (cases h; done)
    rename_i hn0
    rw [beqN] at hn0
    subst h0; subst hn0
    obtain ⟨base, nn, cap, rfl, hlen, hcap, hnil, hbase⟩ := hs
    have hbn : base = none := by
      cases base with
      | none => rfl
      | some ad => exact absurd rfl (hbase ad rfl).1
    subst hbn
    have hc0 := hnil rfl
    subst hc0
    have hnn : nn = 0 := by omega
    subst hnn
    split at h
    · rename_i hm0
      rw [beqN] at hm0
      subst hm0
      cases h
      obtain ⟨us, hf, hnr, hul, bx, cx, hxe⟩ := appNew_ok (P := P) hm hnew hx rfl
      refine ⟨_, w, run_app_in hel hes hts ht' hxe hf (Nat.le_refl _) (fun ad had => by cases had) (fun _ => rfl), post_pure hm (v := .c (.sl 0 0 0 (.c 0) false)) ?_⟩
      exact ⟨none, 0, 0, rfl, rfl, Nat.le_refl _, fun _ => rfl, fun ad had => by cases had⟩
    · rename_i hm0
      have hm1 : m ≠ 0 := by intro e; subst e; simp at hm0
      cases h
      obtain ⟨us, hf, hnr, hul, bx, cx, hxe⟩ := appNew_ok (P := P) hmd hnew hx rfl
      obtain ⟨cap, cs, k1, k2, k3, k4⟩ := run_app_new (w := w) (base := none) (n := 0) (c := 0) (os := []) (ty := ty) hel hes hby hc3 hts ht' hxe hf (by simp [Builtin.firstCells]) (by omega) (by omega) hzall hzs hul (by simp)
      rw [Nat.zero_add] at k1 k4
      refine ⟨_, _, k4, post_app_new hm (hfr next (Nat.le_refl _) (Nat.lt_succ_self _)) h1 (gs' := gs) (fun _ _ h => h) hnr k1 k2 (by rw [hnr.len, hul]) (fun k hk => ?_) rfl⟩
      have := k3 k (by simpa using hk)
      simpa using this
  · rename_i h0
    have hi0 : i1 ≠ 0 := by intro e; subst e; simp at h0
    split at h <;> try (cases h; done)
    rename_i hoe
    simp only [Bool.and_eq_true, beqN] at hoe
    obtain ⟨⟨rfl, rfl⟩, rfl⟩ := hoe
    unfold appOwn at h
    split at h <;> try (cases h; done)
    rename_i l1 hg1
    obtain ⟨b, q, z1, cs1, T1, fr1, hE1, s1⟩ := hm.segs i1 _ hg1
    obtain ⟨hq0, hz1⟩ := s1.own rfl
    subst hq0
    have hl1 : l1.length ≤ z1 := s1.le
    obtain ⟨base, nn, cap, rfl, hlen, hcap, hnil, hbase⟩ := hs
    have hnn : nn = n := by simp only [SI.val, Int.ofNat_eq_natCast] at hlen; omega
    subst hnn
    have hb2 : ∀ ad, base = some ad → (cap ≠ 0 → ad = ⟨b, 0, none⟩) ∧ cap * e1 = z1 := by
      intro ad had
      obtain ⟨_, b', o', z', hE', ha, hfu⟩ := hbase ad had
      rw [hE1] at hE'; cases hE'
      exact ⟨fun hc => by rw [ha hc], by have := hfu rfl; omega⟩
    have hmul : nn * e1 + m * e1 = (nn + m) * e1 := (Nat.add_mul ..).symm
    split at h
    · -- there is room for sure
      rename_i hroom
      simp only [Bool.and_eq_true, Nat.ble_eq, Bool.or_eq_true, beqN] at hroom
      obtain ⟨hroom, hnm⟩ := hroom
      split at h <;> cases h
      rename_i r hr
      obtain ⟨us, hf, hnr, hul, bx, cx, hxe⟩ := appNew_ok (P := P) hm hnew hx rfl
      have hfit : nn + m ≤ cap := by
        cases base with
        | none =>
          have hc0 := hnil rfl
          omega
        | some ad =>
          have h2 := (hb2 ad rfl).2
          have h3 : (nn + m) * e1 ≤ cap * e1 := by omega
          exact Nat.le_of_mul_le_mul_right h3 hc1
      obtain ⟨b', o', hp, w', hrun, hm'⟩ := sStore_ok hm hg1 rfl (p := .ptr i1 (nn * e1)) rfl (v := .pointer (some ⟨b, 0 + nn * e1, none⟩)) ⟨b, 0, z1, hE1, rfl⟩ hnr (body := .cells r) (ob := []) (by simp only [sStore, hr]) AllT.nil P
      cases hp
      refine ⟨.slice base (nn + m) cap, w', ?_, E, Ext.refl E, fun i h => .inl h, ?_, hm'⟩
      · by_cases hc0 : cap = 0
        · have hn0 : nn = 0 := by omega
          have hm0 : m = 0 := by omega
          subst hn0; subst hm0
          have hu0 : us = [] := List.length_eq_zero_iff.1 (by simpa using hul)
          subst hu0
          have hww : w' = w := by simp [storeCells] at hrun; exact hrun.symm
          subst hww
          exact run_app_in hel hes hts ht' hxe hf hfit (fun ad _ => by simp [storeCells]) (fun _ => rfl)
        · refine run_app_in hel hes hts ht' hxe hf hfit (fun ad had => ?_) (fun hbn => absurd (hnil hbn) hc0)
          rw [(hb2 ad had).1 hc0, addr_add]; exact hrun
      · refine ⟨base, nn + m, cap, rfl, rfl, hfit, hnil, fun ad had => ?_⟩
        exact ⟨hi0, b, 0, z1, hE1, fun hc => by rw [(hb2 ad had).1 hc], fun _ => by have := (hb2 ad had).2; omega⟩
    · split at h <;> try (cases h; done)
      rename_i hbig
      rw [Nat.ble_eq] at hbig
      split at h <;> cases h
      rename_i old hold
      have hfrn := hfr next (Nat.le_refl _) (Nat.lt_succ_self _)
      have hni : next ≠ i1 := by intro e; subst e; rw [hfrn] at hE1; cases hE1
      have hws : ∀ seg, updSs gs [(i1, none), (next, some seg)] = upd (upd gs i1 none) next (some seg) := fun _ => rfl
      have htg := takeL_get hold
      have htl := takeL_le hold
      by_cases hfit : nn + m ≤ cap
      · -- it lies where it lay
        obtain ⟨us, hf, hnr, hul, bx, cx, hxe⟩ := appNew_ok (P := P) hm hnew hx rfl
        have hnm1 : nn + m ≠ 0 := by
          intro e0
          have : nn = 0 := by omega
          have : m = 0 := by omega
          subst nn; subst m
          omega
        cases base with
        | none => have := hnil rfl; omega
        | some ad =>
          obtain ⟨ha, hce⟩ := hb2 ad rfl
          have had := ha (by omega)
          subst had
          have hroom : (nn + m) * e1 ≤ cap * e1 := Nat.mul_le_mul_right _ hfit
          have hsz : z1 = cs1.size := hz1
          obtain ⟨w', cs', hrun, hput⟩ := run_put P b (nn * e1) T1 fr1 us 0 w cs1 s1.heap (by rw [hul]; omega) (fun k h2 h3 => s1.fz rfl k (by omega) (by rw [hul] at h3; omega)) hnr.one
          have hm' := hm.put hg1 rfl hE1 hput (by rw [hul]; omega) (body := .cells (old ++ new)) (by simp only [SBody.len, List.length_append, htg.1, hnr.len, hul]; omega) (fun k hk => by
            simp only [SBody.len, List.length_append, htg.1, hnr.len, hul] at hk
            simp only [SBody.at]
            rw [hput.at_]
            by_cases hk2 : k < nn * e1
            · rw [if_neg (by omega)]
              obtain ⟨u, h2, h3⟩ := s1.cell k (by simp only [SBody.len]; omega)
              refine ⟨u, h2, ?_⟩
              have e2 : (old ++ new).getD k .any = old.getD k .any := by simp [List.getD, List.getElem?_append_left (show k < old.length by omega)]
              rw [e2, htg.2 k hk2]; exact h3
            · rw [if_pos (by rw [hul]; omega)]
              obtain ⟨u, h2, h3⟩ := hnr.getD (k - nn * e1) (by rw [hnr.len, hul]; omega)
              refine ⟨u, by rw [show 0 + k - (nn * e1 + 0) = k - nn * e1 by omega]; exact h2, ?_⟩
              have e2 : (old ++ new).getD k .any = new.getD (k - nn * e1) .any := by
                simp [List.getD, List.getElem?_append_right (show old.length ≤ k by omega), htg.1]
              rw [e2]; exact h3)
          have hm2 := hm'.rename (upd_same _ _ _) hfrn hE1
          have hff : upd (upd gs i1 (some ⟨true, true, .cells (old ++ new)⟩)) i1 none = upd gs i1 none := by
            funext k
            by_cases e : k = i1
            · subst e; rw [upd_same, upd_same]
            · rw [upd_other _ _ e, upd_other _ _ e, upd_other _ _ e]
          rw [hff] at hm2
          refine ⟨.slice (some ⟨b, 0, none⟩) (nn + m) cap, w', run_app_in hel hes hts ht' hxe hf hfit (fun ad had => ?_) (fun hbn => by cases hbn), upd E next (some (b, 0, z1)), Ext.upd _ hfrn, fun i hi => ?_, ?_, ?_⟩
          · cases had
            rw [addr_add, Nat.zero_add]; exact hrun
          · by_cases e : i = next
            · subst e; exact .inr ⟨Nat.le_refl _, Nat.lt_succ_self _⟩
            · rw [upd_other _ _ e] at hi; exact .inl hi
          · refine ⟨some ⟨b, 0, none⟩, nn + m, cap, rfl, rfl, hfit, fun e => (by cases e), fun ad had => ?_⟩
            cases had
            exact ⟨h1, b, 0, z1, upd_same _ _ _, fun _ => rfl, fun _ => by omega⟩
          · rw [hws]; exact hm2
      · -- it is copied
        obtain ⟨us, hf, hnr, hul, bx, cx, hxe⟩ := appNew_ok (P := P) hmd hnew hx rfl
        -- the old cells
        have hos : ∃ os : List Value, (Builtin.firstCells e1 nn (.slice base nn cap)).run P w.drew = .ok os.toArray w.drew ∧ RelL E old os ∧ os.length = nn * e1 := by
          have hx1 : RelC E (.sl i1 0 e1 (.c (.ofNat nn)) true) (.slice base nn cap) := ⟨base, nn, cap, rfl, rfl, hcap, hnil, hbase⟩
          have hpart : part l1 0 (nn * e1) = some old := by
            unfold part
            have : dropL l1 0 = l1 := by cases l1 <;> rfl
            rw [this]; exact hold
          have hap : appNew gs i1 0 e1 e1 nn = some old := by
            unfold appNew
            split
            · rename_i hn0
              rw [beqN] at hn0
              subst hn0
              have : old = [] := List.length_eq_zero_iff.1 (by rw [htg.1]; simp)
              rw [this]
            · rw [show Nat.beq e1 e1 = true from beqN.2 rfl]
              simp only [hg1, sLoad, hpart]
          obtain ⟨os, k1, k2, k3, _⟩ := appNew_ok (P := P) hmd hap hx1 rfl
          exact ⟨os, k1, k2, k3⟩
        obtain ⟨os, ho, hor, hol⟩ := hos
        obtain ⟨cap', cs, k1, k2, k3, k4⟩ := run_app_new (w := w) (ty := ty) hel hes hby hc3 hts ht' hxe hf ho (by omega) hc2 hzall hzs hul hol
        refine ⟨_, _, k4, post_app_new hm hfrn h1 (gs' := upd gs i1 none) (fun i g hg => ?_) (hor.append hnr) k1 k2 (by rw [List.length_append, hor.len, hnr.len, hol, hul, hmul]) (fun k hk => ?_) (hws _)⟩
        · by_cases e : i = i1
          · subst e; rw [upd_same] at hg; cases hg
          · rw [upd_other _ _ e] at hg; exact hg
        · exact k3 k (by simpa using hk)
end

end Go.Proofs.Ytngdmcbjponlhaa
