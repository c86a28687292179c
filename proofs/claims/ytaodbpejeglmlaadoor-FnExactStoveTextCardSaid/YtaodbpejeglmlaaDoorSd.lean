/- Loads and stores of the executor's memory. Nothing is assumed. -/
import Derived.Test.YtaodbpejeglmlaaDoorSc
namespace Go.Proofs.YtaodbpejeglmlaaDoor
open Go

theorem getD_cons_zero (x : SC) (l : List SC) : (x :: l).getD 0 .any = x := rfl
theorem getD_cons_succ (x : SC) (l : List SC) (k : Nat) : (x :: l).getD (k + 1) .any = l.getD k .any := rfl
theorem splice_len : ∀ {l : List SC} {o : Nat} {new r : List SC}, splice l o new = some r → r.length = l.length
  | [], _, [], r, h => by cases h; rfl
  | _ :: _, _, [], r, h => by cases h; rfl
  | [], _, _ :: _, r, h => by cases h
  | x :: l, 0, y :: new, r, h => by
    change (Option.rec none (fun r => some (y :: r)) (splice l 0 new) : Option (List SC)) = some r at h
    cases hm : splice l 0 new with
    | none => rw [hm] at h; cases h
    | some q => rw [hm] at h; cases h; simp [splice_len hm]
  | x :: l, o + 1, y :: new, r, h => by
    change (Option.rec none (fun r => some (x :: r)) (splice l o (y :: new)) : Option (List SC)) = some r at h
    cases hm : splice l o (y :: new) with
    | none => rw [hm] at h; cases h
    | some q => rw [hm] at h; cases h; simp [splice_len hm]
theorem splice_get : ∀ {l : List SC} {o : Nat} {new r : List SC}, splice l o new = some r → ∀ m, r.getD m .any = if o ≤ m ∧ m < o + new.length then new.getD (m - o) .any else l.getD m .any
  | [], o, [], r, h, m => by cases h; rw [if_neg (by simp)]
  | x :: l, o, [], r, h, m => by cases h; rw [if_neg (by simp)]
  | [], _, _ :: _, r, h, _ => by cases h
  | x :: l, 0, y :: new, r, h, m => by
    change (Option.rec none (fun r => some (y :: r)) (splice l 0 new) : Option (List SC)) = some r at h
    cases hm : splice l 0 new with
    | none => rw [hm] at h; cases h
    | some q =>
      rw [hm] at h; cases h
      cases m with
      | zero => rw [if_pos (by simp)]; rfl
      | succ m =>
        have := splice_get hm m
        rw [getD_cons_succ, this]
        by_cases hc : m < new.length
        · rw [if_pos (by omega), if_pos (by simp; omega)]; simp
        · rw [if_neg (by omega), if_neg (by simp; omega)]; rfl
  | x :: l, o + 1, y :: new, r, h, m => by
    change (Option.rec none (fun r => some (x :: r)) (splice l o (y :: new)) : Option (List SC)) = some r at h
    cases hm : splice l o (y :: new) with
    | none => rw [hm] at h; cases h
    | some q =>
      rw [hm] at h; cases h
      cases m with
      | zero => rw [if_neg (by omega)]; rfl
      | succ m =>
        have := splice_get hm m
        rw [getD_cons_succ, this]
        by_cases hc : o ≤ m ∧ m < o + (y :: new).length
        · rw [if_pos hc, if_pos (by omega), show m + 1 - (o + 1) = m - o by omega]
        · rw [if_neg hc, if_neg (by omega)]; rfl
theorem takeL_get : ∀ {l : List SC} {n : Nat} {r : List SC}, takeL l n = some r → r.length = n ∧ ∀ m, m < n → r.getD m .any = l.getD m .any
  | [], 0, r, h => by cases h; exact ⟨rfl, fun m hm => by omega⟩
  | x :: l, 0, r, h => by cases h; exact ⟨rfl, fun m hm => by omega⟩
  | [], _ + 1, r, h => by cases h
  | x :: l, n + 1, r, h => by
    change (Option.rec none (fun r => some (x :: r)) (takeL l n) : Option (List SC)) = some r at h
    cases hm : takeL l n with
    | none => rw [hm] at h; cases h
    | some q =>
      rw [hm] at h; cases h
      have := takeL_get hm
      exact ⟨by simp [this.1], fun m hmn => by
        cases m with
        | zero => rfl
        | succ m => exact this.2 m (by omega)⟩
theorem dropL_get : ∀ (l : List SC) (n m : Nat), (dropL l n).getD m .any = l.getD (n + m) .any
  | [], n, m => by cases n <;> simp [dropL]
  | x :: l, 0, m => by show (x :: l).getD m .any = _; simp
  | x :: l, n + 1, m => by
    change (dropL l n).getD m .any = _
    rw [dropL_get l n m, show n + 1 + m = (n + m) + 1 by omega]; rfl
theorem part_get {l r : List SC} {o n : Nat} (h : part l o n = some r) : r.length = n ∧ ∀ m, m < n → r.getD m .any = l.getD (o + m) .any := by
  have := takeL_get h
  exact ⟨this.1, fun m hm => by rw [this.2 m hm, dropL_get]⟩
theorem mergeL_get {b : Bool} : ∀ {l m r : List SC}, mergeL b l m = some r → ∀ k, k < r.length → r.getD k .any = mergeC b (l.getD k .any) (m.getD k .any)
  | [], [], r, h, k, hk => by cases h; simp at hk
  | [], _ :: _, r, h, _, _ => by cases h
  | _ :: _, [], r, h, _, _ => by cases h
  | x :: l, y :: m, r, h, k, hk => by
    change (Option.rec none (fun r => some (mergeC b x y :: r)) (mergeL b l m) : Option (List SC)) = some r at h
    cases hm : mergeL b l m with
    | none => rw [hm] at h; cases h
    | some q =>
      rw [hm] at h; cases h
      cases k with
      | zero => rfl
      | succ k => exact mergeL_get hm k (by simpa using hk)
theorem getD_lt {l : List SC} {k : Nat} (h : k < l.length) : l.getD k .any = l[k] := by simp [List.getD, h]
theorem RelL.of_getD {E : EM} {l : List SC} {vs : List Value} (hl : l.length = vs.length) (h : ∀ k, k < l.length → ∃ v, vs[k]? = some v ∧ RelC E (l.getD k .any) v) : RelL E l vs :=
  RelL.of_get hl fun k hk => by obtain ⟨v, h1, h2⟩ := h k hk; rw [getD_lt hk] at h2; exact ⟨v, h1, h2⟩
theorem RelL.getD {E : EM} {l : List SC} {vs : List Value} (h : RelL E l vs) (k : Nat) (hk : k < l.length) : ∃ v, vs[k]? = some v ∧ RelC E (l.getD k .any) v := by
  rw [getD_lt hk]; exact h.get k hk

/-- Which cells of a segment's body a row that is chosen shows. -/
theorem selRow_get {l : List SC} {o st sz : Nat} {idx : Int} : ∀ {c j : Nat} {r : List SC}, selRow l o st sz idx c j = some r → ∀ {i : Nat}, idx = (i : Nat) → j ≤ i → i < j + c →
    r.length = sz ∧ ∀ (E : EM) m v, m < sz → RelC E (l.getD (o + i * st + m) .any) v → RelC E (r.getD m .any) v
  | 0, _, _, h, _, _, _, _ => by cases h
  | 1, j, r, h, i, hi, h1, h2 => by
    obtain rfl : i = j := by omega
    have := part_get (show part l (o + i * st) sz = some r from h)
    exact ⟨this.1, fun E m v hm hv => by rw [this.2 m hm]; exact hv⟩
  | c + 2, j, r, h, i, hi, h1, h2 => by
    simp only [selRow] at h
    split at h <;> try (cases h; done)
    rename_i p hp
    split at h <;> try (cases h; done)
    rename_i q hq
    have hpg := part_get hp
    have hl := mergeL_len h
    refine ⟨hl.1.symm.trans hpg.1, fun E m v hm hv => ?_⟩
    rw [mergeL_get h m (by omega)]
    by_cases e : i = j
    · subst e
      rw [show decide (idx = (i : Int)) = true by simp [hi]]
      exact RelC.mergeL' (fun _ => by rw [hpg.2 m hm]; exact hv) (fun e => by cases e)
    · rw [show decide (idx = (j : Int)) = false by simp [hi]; omega]
      have := selRow_get hq hi (by omega) (by omega)
      exact RelC.mergeL' (fun e => by cases e) (fun _ => this.2 E m v hm hv)

theorem body_vals {E : EM} {b o z : Nat} {g : Seg} {w : World} {cs : Array Value} {T : TypeId} {fr : Nat × Nat} (s : SegAt E b o z g w cs T fr) (k : Nat) (hk : k < g.body.len) :
    ∃ v, w.cell? ⟨b, o + k, none⟩ = some v ∧ RelC E (g.body.at k) v := by
  obtain ⟨v, h1, h2⟩ := s.cell k hk
  exact ⟨v, by simp [World.cell?, s.heap, h1], h2⟩
theorem part_len {l r : List SC} {o n : Nat} (h : part l o n = some r) (m : Nat) (hm : m < n) : o + m < l.length := by
  rcases part_le h with h' | h' <;> omega
theorem selRow_len {l : List SC} {o st sz : Nat} {idx : Int} : ∀ {c j : Nat} {r : List SC}, selRow l o st sz idx c j = some r → ∀ {i : Nat}, j ≤ i → i < j + c → ∀ m, m < sz → o + i * st + m < l.length
  | 0, _, _, h, _, _, _ => by cases h
  | 1, j, r, h, i, h1, h2 => by
    obtain rfl : i = j := by omega
    exact part_len (show part l (o + i * st) sz = some r from h)
  | c + 2, j, r, h, i, h1, h2 => by
    simp only [selRow] at h
    split at h <;> try (cases h; done)
    rename_i p hp
    split at h <;> try (cases h; done)
    rename_i q hq
    by_cases e : i = j
    · subst e; exact part_len hp
    · exact selRow_len hq (by omega) (by omega)
theorem rows_at {st : Nat} {n : Int} {row : Int → List SC} {i off m : Nat} (h : off + m < st) : (SBody.rows st n row).at (i * st + (off + m)) = (row (i : Int)).getD (off + m) .any := by
  have h0 : 0 < st := by omega
  simp only [SBody.at]
  rw [show (i * st + (off + m)) / st = i by rw [Nat.add_comm, Nat.add_mul_div_right _ _ h0, Nat.div_eq_of_lt h, Nat.zero_add],
    show (i * st + (off + m)) % st = off + m by rw [Nat.add_comm, Nat.add_mul_mod_self_right, Nat.mod_eq_of_lt h]]

def AllT (l : List Bool) : Prop := ∀ b ∈ l, b = true
theorem AllT.nil : AllT [] := fun _ h => by simp at h
theorem AllT.append {l m : List Bool} (h : AllT (l ++ m)) : AllT l ∧ AllT m := ⟨fun b hb => h b (by simp [hb]), fun b hb => h b (by simp [hb])⟩
theorem AllT.head {b : Bool} {l : List Bool} (h : AllT (b :: l)) : b = true := h b (by simp)
theorem AllT.tail {b : Bool} {l : List Bool} (h : AllT (b :: l)) : AllT l := fun c hc => h c (by simp [hc])

/-- What a load sees. -/
theorem sLoad_ok {w0 w : World} {T0 : Nat → Nat → Prop} {E : EM} {sg : Nat → Option Seg} (h : MemRel w0 T0 E sg w) {i : Nat} {g : Seg} (hg : sg i = some g) {p : SC} (hi : ptrId p = some i) {v : Value} (hv : RelC E p v)
    {sz : Nat} {r : List SC} {ob : List Bool} (hl : sLoad g.body p sz = some (r, ob)) (hob : AllT ob) :
    ∃ b o', v = .pointer (some ⟨b, o', none⟩) ∧ ∃ vs : List Value, vs.length = sz ∧ RelL E r vs ∧ ∀ j, j < sz → w.cell? ⟨b, o' + j, none⟩ = vs[j]? := by
  obtain ⟨b, o, z, cs, T, fr, hE, s⟩ := h.segs i g hg
  -- the common end
  have fin : ∀ (o' : Nat), r.length = sz → (∀ m, m < sz → ∃ u, w.cell? ⟨b, o' + m, none⟩ = some u ∧ RelC E (r.getD m .any) u) →
      ∃ vs : List Value, vs.length = sz ∧ RelL E r vs ∧ ∀ j, j < sz → w.cell? ⟨b, o' + j, none⟩ = vs[j]? := by
    intro o' hlen hall
    refine ⟨(List.range sz).map fun m => (w.cell? ⟨b, o' + m, none⟩).getD undef, by simp, RelL.of_getD (by simp [hlen]) fun k hk => ?_, fun j hj => ?_⟩
    · obtain ⟨u, h1, h2⟩ := hall k (by omega)
      exact ⟨u, by simp [List.getElem?_range (show k < sz by omega), h1], h2⟩
    · obtain ⟨u, h1, _⟩ := hall j hj
      simp [List.getElem?_range hj, h1]
  cases hb : g.body with
  | cells l =>
    rw [hb] at hl
    have hcell : ∀ k, k < l.length → ∃ u, w.cell? ⟨b, o + k, none⟩ = some u ∧ RelC E (l.getD k .any) u := fun k hk => by
      have := body_vals s k (by rw [hb]; exact hk)
      rw [hb] at this; exact this
    cases p <;> simp only [ptrId, Option.some.injEq] at hi <;> try (cases hi; done)
    · obtain rfl := hi.symm
      rename_i off
      simp only [sLoad] at hl
      split at hl <;> try (cases hl; done)
      rename_i q hq
      cases hl
      obtain ⟨b', o', z', e, rfl⟩ := hv
      rw [hE] at e; cases e
      have hpg := part_get hq
      exact ⟨b, o + off, rfl, fin _ hpg.1 fun m hm => by
        obtain ⟨u, h1, h2⟩ := hcell (off + m) (part_len hq m hm)
        exact ⟨u, by rw [Nat.add_assoc]; exact h1, by rw [hpg.2 m hm]; exact h2⟩⟩
    · obtain rfl := hi.symm
      rename_i off st cnt idx
      simp only [sLoad] at hl
      split at hl <;> try (cases hl; done)
      rename_i q hq
      cases hl
      obtain ⟨b', o', z', e, n, hn, hlt, rfl⟩ := hv
      rw [hE] at e; cases e
      have hsg := selRow_get hq hn (Nat.zero_le _) (by omega)
      exact ⟨b, o + off + n * st, rfl, fin _ hsg.1 fun m hm => by
        obtain ⟨u, h1, h2⟩ := hcell (off + n * st + m) (selRow_len hq (Nat.zero_le _) (by omega) m hm)
        exact ⟨u, by rw [show o + off + n * st + m = o + (off + n * st + m) by omega]; exact h1, hsg.2 E m u hm h2⟩⟩
    · simp [sLoad] at hl
  | rows st n row =>
    rw [hb] at hl
    cases p <;> simp only [ptrId, Option.some.injEq] at hi <;> try (cases hi; done)
    · simp [sLoad] at hl
    · simp [sLoad] at hl
    · obtain rfl := hi.symm
      rename_i off st' idx
      simp only [sLoad] at hl
      split at hl <;> try (cases hl; done)
      rename_i hst
      split at hl <;> try (cases hl; done)
      rename_i q hq
      cases hl
      simp only [Bool.and_eq_true, beqN, Nat.ble_eq] at hst
      obtain ⟨rfl, hle⟩ := hst
      obtain ⟨b', o', z', e, k, hk, rfl⟩ := hv
      rw [hE] at e; cases e
      have hbd := hob.head
      simp only [decide_eq_true_eq] at hbd
      have hpg := part_get hq
      refine ⟨b, o + off + k * st, rfl, fin _ hpg.1 fun m hm => ?_⟩
      have hlt : k * st + (off + m) < st * n.toNat := by
        have h1 : k + 1 ≤ n.toNat := by omega
        have h2 : st * (k + 1) ≤ st * n.toNat := Nat.mul_le_mul_left _ h1
        rw [Nat.mul_add, Nat.mul_comm st k] at h2
        omega
      obtain ⟨u, h1, h2⟩ := body_vals s (k * st + (off + m)) (by rw [hb]; exact hlt)
      rw [hb, rows_at (by omega), ← hk] at h2
      exact ⟨u, by rw [show o + off + k * st + m = o + (k * st + (off + m)) by omega]; exact h1, by rw [hpg.2 m hm]; exact h2⟩

theorem putRow_len {o st : Nat} {idx : Int} {new : List SC} : ∀ {c j : Nat} {l r : List SC}, putRow l o st idx new c j = some r → r.length = l.length
  | 0, _, _, _, h => by cases h; rfl
  | c + 1, j, l, r, h => by
    simp only [putRow] at h
    split at h <;> try (cases h; done)
    split at h <;> try (cases h; done)
    split at h <;> try (cases h; done)
    rename_i l' hl'
    rw [putRow_len h, splice_len hl']
theorem putRow_room {o st : Nat} {idx : Int} {new : List SC} : ∀ {c j : Nat} {l r : List SC}, putRow l o st idx new c j = some r → ∀ i, j ≤ i → i < j + c → o + i * st + new.length ≤ l.length ∨ new.length = 0
  | 0, _, _, _, h, i, h1, h2 => by omega
  | c + 1, j, l, r, h, i, h1, h2 => by
    simp only [putRow] at h
    split at h <;> try (cases h; done)
    rename_i p hp
    split at h <;> try (cases h; done)
    split at h <;> try (cases h; done)
    rename_i l' hl'
    by_cases e : i = j
    · subst e; exact part_le hp
    · have := putRow_room h i (by omega) (by omega)
      rwa [splice_len hl'] at this
theorem putRow_keep {E : EM} {o st : Nat} {idx : Int} {new : List SC} {i : Nat} (hi : idx = (i : Nat)) : ∀ {c j : Nat} {l r : List SC}, putRow l o st idx new c j = some r → (i < j ∨ j + c ≤ i) → ∀ k v, RelC E (l.getD k .any) v → RelC E (r.getD k .any) v
  | 0, _, _, _, h, _, k, v, hv => by cases h; exact hv
  | c + 1, j, l, r, h, hn, k, v, hv => by
    simp only [putRow] at h
    split at h <;> try (cases h; done)
    rename_i p hp
    split at h <;> try (cases h; done)
    rename_i q hq
    split at h <;> try (cases h; done)
    rename_i l' hl'
    refine putRow_keep hi h (by omega) k v ?_
    rw [splice_get hl']
    split
    · rename_i hk
      have hlen := mergeL_len hq
      rw [mergeL_get hq _ (by omega)]
      refine RelC.mergeL' (fun e => ?_) (fun _ => ?_)
      · simp [hi] at e; omega
      · rw [(part_get hp).2 _ (by omega), show o + j * st + (k - (o + j * st)) = k by omega]; exact hv
    · exact hv
theorem putRow_get {E : EM} {o st : Nat} {idx : Int} {new : List SC} {i : Nat} (hi : idx = (i : Nat)) : ∀ {c j : Nat} {l r : List SC}, putRow l o st idx new c j = some r → j ≤ i → i < j + c → ∀ k v,
    (if o + i * st ≤ k ∧ k < o + i * st + new.length then RelC E (new.getD (k - (o + i * st)) .any) v else RelC E (l.getD k .any) v) → RelC E (r.getD k .any) v
  | 0, _, _, _, h, h1, h2, k, v, hv => by omega
  | c + 1, j, l, r, h, h1, h2, k, v, hv => by
    simp only [putRow] at h
    split at h <;> try (cases h; done)
    rename_i p hp
    split at h <;> try (cases h; done)
    rename_i q hq
    split at h <;> try (cases h; done)
    rename_i l' hl'
    have hlen := mergeL_len hq
    by_cases e : i = j
    · subst e
      refine putRow_keep hi h (by omega) k v ?_
      rw [splice_get hl', ← hlen.1]
      split
      · rename_i hk
        rw [if_pos hk] at hv
        rw [mergeL_get hq _ (by omega)]
        exact RelC.mergeL' (fun _ => hv) (fun e => by simp [hi] at e)
      · rename_i hk
        rw [if_neg hk] at hv
        exact hv
    · refine putRow_get hi h (by omega) (by omega) k v ?_
      split
      · rename_i hk; rw [if_pos hk] at hv; exact hv
      · rename_i hk
        rw [if_neg hk] at hv
        rw [splice_get hl', ← hlen.1]
        split
        · rename_i hk2
          rw [mergeL_get hq _ (by omega)]
          refine RelC.mergeL' (fun e' => ?_) (fun _ => ?_)
          · simp [hi] at e'; omega
          · rw [(part_get hp).2 _ (by omega), show o + j * st + (k - (o + j * st)) = k by omega]; exact hv
        · exact hv

theorem putR_rel {E : EM} {row : Int → List SC} {idx j : Int} {o c : Nat} {new : List SC} {u : Value} (h : if j = idx ∧ o ≤ c ∧ c < o + new.length then RelC E (new.getD (c - o) .any) u else RelC E ((row j).getD c .any) u) :
    RelC E ((putR row idx o new j).getD c .any) u := by
  have hone : u.oneCell' = true := by
    split at h
    · exact h.one
    · exact h.one
  have hany : RelC E (([] : List SC).getD c .any) u := by
    show RelC E .any u
    exact hone
  unfold putR
  cases hp : part (row j) o new.length with
  | none => exact hany
  | some old =>
    cases hm : mergeL (decide (j = idx)) new old with
    | none => simp only [hm]; exact hany
    | some m =>
      cases hs : splice (row j) o m with
      | none => simp only [hm, hs]; exact hany
      | some r =>
        simp only [hm, hs]
        have hl := mergeL_len hm
        rw [splice_get hs]
        by_cases hc : o ≤ c ∧ c < o + m.length
        · rw [if_pos hc, mergeL_get hm (c - o) (by omega), (part_get hp).2 (c - o) (by omega), show o + (c - o) = c by omega]
          refine RelC.mergeL' (fun hb => ?_) fun hb => ?_
          · rw [if_pos ⟨of_decide_eq_true hb, hc.1, by omega⟩] at h; exact h
          · rw [if_neg (fun hh => of_decide_eq_false hb hh.1)] at h; exact h
        · rw [if_neg hc]
          rw [if_neg (fun hh => hc ⟨hh.2.1, by omega⟩)] at h; exact h
/-- What a store leaves. -/
theorem sStore_ok {w0 w : World} {T0 : Nat → Nat → Prop} {E : EM} {sg : Nat → Option Seg} (h : MemRel w0 T0 E sg w) {i : Nat} {g : Seg} (hg : sg i = some g) (hrw : g.rw = true) {p : SC} (hi : ptrId p = some i) {v : Value} (hv : RelC E p v)
    {new : List SC} {us : List Value} (hn : RelL E new us) {body : SBody} {ob : List Bool} (hl : sStore g.body p new = some (body, ob)) (hob : AllT ob) (P : Program) :
    ∃ b o', v = .pointer (some ⟨b, o', none⟩) ∧ ∃ w', (storeCells ⟨b, o', none⟩ us).run P w = .ok () w' ∧ MemRel w0 T0 E (upd sg i (some ⟨true, g.own, body⟩)) w' := by
  obtain ⟨b, o, z, cs, T, fr, hE, s⟩ := h.segs i g hg
  have hlen := hn.len
  have hone := hn.one
  -- the common end: the place 'q' behind 'o', the new body
  have fin : ∀ q, (q + us.length ≤ z ∨ us.length = 0 ∧ q ≤ z) → body.len = g.body.len →
      (∀ k u, k < body.len → (if q ≤ k ∧ k < q + us.length then RelC E (new.getD (k - q) .any) u else RelC E (g.body.at k) u) → RelC E (body.at k) u) →
      ∃ w', (storeCells ⟨b, o + q, none⟩ us).run P w = .ok () w' ∧ MemRel w0 T0 E (upd sg i (some ⟨true, g.own, body⟩)) w' := by
    intro q hq hbl hbody
    have hfit := s.fit
    obtain ⟨w', cs', hrun, hput⟩ := run_put P b (o + q) T fr us 0 w cs s.heap (by omega) (fun k h1 h2 => s.fz hrw k (by omega) (by omega)) hone
    refine ⟨w', hrun, h.put hg hrw hE hput (by omega) (by rw [hbl]; exact s.le) fun k hk => ?_⟩
    rw [hput.at_]
    by_cases hc : o + q + 0 ≤ o + k ∧ o + k < o + q + 0 + us.length
    · rw [if_pos hc]
      obtain ⟨u, h1, h2⟩ := hn.getD (k - q) (by omega)
      refine ⟨u, by rw [show o + k - (o + q + 0) = k - q by omega]; exact h1, hbody k u hk ?_⟩
      rw [if_pos (by omega)]; exact h2
    · rw [if_neg hc]
      obtain ⟨u, h1, h2⟩ := s.cell k (by omega)
      refine ⟨u, h1, hbody k u hk ?_⟩
      rw [if_neg (by omega)]; exact h2
  cases hb : g.body with
  | cells l =>
    rw [hb] at hl
    have hlz : l.length ≤ z := by have := s.le; rw [hb] at this; exact this
    cases p <;> simp only [ptrId, Option.some.injEq] at hi <;> try (cases hi; done)
    · obtain rfl := hi.symm
      rename_i off
      simp only [sStore] at hl
      split at hl <;> try (cases hl; done)
      rename_i q hq
      cases hl
      obtain ⟨b', o', z', e, rfl⟩ := hv
      rw [hE] at e; cases e
      refine ⟨b, o + off, rfl, ?_⟩
      rcases splice_le hq with h0 | h0
      · subst h0
        cases us with
        | cons _ _ => simp at hlen
        | nil =>
          refine ⟨w, by simp [storeCells], ?_⟩
          have hql : q = l := by cases l <;> (cases hq; rfl)
          subst hql
          have : upd sg i (some ⟨true, g.own, .cells q⟩) = sg := by
            funext j
            by_cases e : j = i
            · subst e; rw [upd_same, hg]; cases g; simp_all
            · rw [upd_other _ _ e]
          rw [this]; exact h
      · refine fin off (.inl (by omega)) (by rw [hb]; exact splice_len hq) fun k u hk hu => ?_
        simp only [SBody.at] at *
        rw [splice_get hq, hlen]
        rw [hb] at hu
        split
        · rename_i hc; rw [if_pos hc] at hu; exact hu
        · rename_i hc; rw [if_neg hc] at hu; exact hu
    · obtain rfl := hi.symm
      rename_i off st cnt idx
      simp only [sStore] at hl
      split at hl <;> try (cases hl; done)
      rename_i q hq
      cases hl
      obtain ⟨b', o', z', e, n, hn', hlt, rfl⟩ := hv
      rw [hE] at e; cases e
      refine ⟨b, o + off + n * st, rfl, ?_⟩
      rw [Nat.add_assoc]
      rcases putRow_room hq n (Nat.zero_le _) (by omega) with h0 | h0
      · refine fin (off + n * st) (.inl (by omega)) (by rw [hb]; exact putRow_len hq) fun k u hk hu => ?_
        simp only [SBody.at] at *
        rw [hb] at hu
        refine putRow_get hn' hq (Nat.zero_le _) (by omega) k u ?_
        rw [hlen]; exact hu
      · cases us with
        | cons _ _ => simp at hlen; omega
        | nil =>
          refine ⟨w, by simp [storeCells], ?_⟩
          -- nothing is written
          refine ⟨fun j gj hgj => ?_, fun j k gj gk b1 o1 z1 b2 o2 z2 hjk hgj hgk hr hb1 hb2 => ?_, fun j gj b1 o1 z1 hgj hr hb1 => ?_, h.fr, h.tab⟩
          · by_cases e : j = i
            · subst e
              rw [upd_same] at hgj; cases hgj
              refine ⟨b, o, z, cs, T, fr, hE, ⟨s.heap, by show q.length ≤ z; rw [putRow_len hq]; exact hlz, s.fit, s.own, fun _ => s.fz hrw, fun k hk => ?_⟩⟩
              have hk' : k < l.length := by rw [← putRow_len hq]; exact hk
              obtain ⟨u, h1, h2⟩ := s.cell k (by rw [hb]; exact hk')
              rw [hb] at h2
              refine ⟨u, h1, putRow_get hn' hq (Nat.zero_le _) (by omega) k u ?_⟩
              rw [if_neg (by omega)]; exact h2
            · rw [upd_other _ _ e] at hgj; exact h.segs j gj hgj
          · have hg1 : ∃ g1, sg j = some g1 ∧ g1.rw = gj.rw := by
              by_cases e : j = i
              · subst e; rw [upd_same] at hgj; cases hgj; exact ⟨g, hg, hrw⟩
              · rw [upd_other _ _ e] at hgj; exact ⟨gj, hgj, rfl⟩
            have hg2 : ∃ g2, sg k = some g2 ∧ g2.rw = gk.rw := by
              by_cases e : k = i
              · subst e; rw [upd_same] at hgk; cases hgk; exact ⟨g, hg, hrw⟩
              · rw [upd_other _ _ e] at hgk; exact ⟨gk, hgk, rfl⟩
            obtain ⟨g1, h1, r1⟩ := hg1
            obtain ⟨g2, h2, r2⟩ := hg2
            exact h.disj j k g1 g2 b1 o1 z1 b2 o2 z2 hjk h1 h2 (by rw [r1, r2]; exact hr) hb1 hb2
          · by_cases e : j = i
            · subst e; exact h.tch j g b1 o1 z1 hg hrw hb1
            · rw [upd_other _ _ e] at hgj; exact h.tch j gj b1 o1 z1 hgj hr hb1
    · simp [sStore] at hl
  | rows st n row =>
    rw [hb] at hl
    cases p <;> simp only [ptrId, Option.some.injEq] at hi <;> try (cases hi; done)
    · simp [sStore] at hl
    · simp [sStore] at hl
    · obtain rfl := hi.symm
      rename_i off st' idx
      simp only [sStore] at hl
      split at hl <;> try (cases hl; done)
      rename_i hst
      split at hl <;> try (cases hl; done)
      rename_i q hq
      cases hl
      simp only [Bool.and_eq_true, beqN, Nat.ble_eq] at hst
      obtain ⟨rfl, hle⟩ := hst
      obtain ⟨b', o', z', e, m, hm, rfl⟩ := hv
      rw [hE] at e; cases e
      have hbd := hob.head
      simp only [decide_eq_true_eq] at hbd
      have hz : st * n.toNat ≤ z := by have := s.le; rw [hb] at this; exact this
      have hmn : st * (m + 1) ≤ st * n.toNat := Nat.mul_le_mul_left _ (by omega)
      rw [Nat.mul_add, Nat.mul_comm st m] at hmn
      refine ⟨b, o + off + m * st, rfl, ?_⟩
      rw [Nat.add_assoc]
      refine fin (off + m * st) (.inl (by omega)) (by rw [hb]; rfl) fun k u hk hu => ?_
      rw [hb] at hu
      simp only [SBody.at] at *
      by_cases h0 : st = 0
      · subst h0; simp [SBody.len] at hk
      · have hst0 : 0 < st := Nat.pos_of_ne_zero h0
        have hdm := Nat.div_add_mod k st
        have hmod := Nat.mod_lt k hst0
        refine putR_rel ?_
        by_cases e : k / st = m
        · have e1 : ((k / st : Nat) : Int) = idx := by rw [hm, e]
          have hk' : k = m * st + k % st := by rw [Nat.mul_comm]; rw [e] at hdm; omega
          by_cases hc : off + m * st ≤ k ∧ k < off + m * st + us.length
          · rw [if_pos hc] at hu
            rw [if_pos ⟨e1, by omega, by omega⟩]
            rwa [show k % st - off = k - (off + m * st) by omega]
          · rw [if_neg hc] at hu
            rw [if_neg (fun hh => hc (by have := hh.2; omega))]
            exact hu
        · rw [if_neg (fun hh => e (by have := hh.1; rw [hm] at this; omega))]
          rw [if_neg] at hu
          · exact hu
          · rintro ⟨h1, h2⟩
            apply e
            have h3 : m * st ≤ k := by omega
            have h4 : k < (m + 1) * st := by rw [Nat.add_mul]; omega
            exact Nat.div_eq_of_lt_le h3 h4

end Go.Proofs.YtaodbpejeglmlaaDoor
