/- Layers, merges of layers, and what one operation does to the whole state. Nothing is assumed. -/
import Derived.Test.YtohmpnnncpjjlaaSk
namespace Go.Proofs.Ytohmpnnncpjjlaa
open Go

/-! ### trees -/
section
variable {α : Type}
theorem Tr.get_nil (i : Nat) : (Tr.nil : Tr α).get i = none := rfl
theorem Tr.get_zero (v : Option α) (l r : Tr α) : (Tr.node v l r).get 0 = v := rfl
theorem Tr.get_succ (v : Option α) (l r : Tr α) (j : Nat) : (Tr.node v l r).get (j + 1) = (if j % 2 = 0 then l.get (j / 2) else r.get (j / 2)) := by
  change (Bool.rec (r.get (j / 2)) (l.get (j / 2)) (Nat.beq (j % 2) 0) : Option α) = _
  by_cases h : j % 2 = 0
  · rw [if_pos h, beqN.2 h]
  · rw [if_neg h]
    have : Nat.beq (j % 2) 0 = false := by
      cases hb : Nat.beq (j % 2) 0
      · rfl
      · exact absurd (beqN.1 hb) h
    rw [this]
theorem Tr.one_get (x : α) : ∀ (f i j : Nat), i < f → (Tr.one x f i).get j = if j = i then some x else none
  | 0, i, j, h => by omega
  | f + 1, 0, j, _ => by
    change (Tr.node (some x) .nil .nil : Tr α).get j = _
    cases j with
    | zero => rfl
    | succ j => rw [Tr.get_succ, if_neg (show ¬ (j + 1 = 0) by omega)]; split <;> rfl
  | f + 1, i + 1, j, h => by
    change (Bool.rec (.node none .nil (Tr.one x f (i / 2))) (.node none (Tr.one x f (i / 2)) .nil) (Nat.beq (i % 2) 0) : Tr α).get j = _
    by_cases hi : i % 2 = 0
    · rw [beqN.2 hi]
      cases j with
      | zero => rw [if_neg (by omega)]; rfl
      | succ j =>
        rw [Tr.get_succ]
        by_cases hj : j % 2 = 0
        · rw [if_pos hj, Tr.one_get x f _ _ (by omega)]
          by_cases e : j = i
          · subst e; simp
          · rw [if_neg (by omega), if_neg (by omega)]
        · rw [if_neg hj, if_neg (by omega)]; rfl
    · have hb : Nat.beq (i % 2) 0 = false := by
        cases hb : Nat.beq (i % 2) 0
        · rfl
        · exact absurd (beqN.1 hb) hi
      rw [hb]
      cases j with
      | zero => rw [if_neg (by omega)]; rfl
      | succ j =>
        rw [Tr.get_succ]
        by_cases hj : j % 2 = 0
        · rw [if_pos hj, if_neg (by omega)]; rfl
        · rw [if_neg hj, Tr.one_get x f _ _ (by omega)]
          by_cases e : j = i
          · subst e; simp
          · rw [if_neg (by omega), if_neg (by omega)]
theorem Tr.get_set (x : α) : ∀ (t : Tr α) (i j : Nat), (t.set x i).get j = if j = i then some x else t.get j
  | .nil, i, j => by
    change (Tr.one x (i + 1) i).get j = _
    rw [Tr.one_get x _ _ _ (Nat.lt_succ_self _)]; rfl
  | .node v l r, 0, j => by
    change (Tr.node (some x) l r).get j = _
    cases j with
    | zero => rfl
    | succ j => rw [if_neg (show ¬ (j + 1 = 0) by omega), Tr.get_succ, Tr.get_succ]
  | .node v l r, i + 1, j => by
    change (Bool.rec (.node v l (r.set x (i / 2))) (.node v (l.set x (i / 2)) r) (Nat.beq (i % 2) 0) : Tr α).get j = _
    by_cases hi : i % 2 = 0
    · rw [beqN.2 hi]
      cases j with
      | zero => rw [if_neg (by omega)]; rfl
      | succ j =>
        rw [Tr.get_succ, Tr.get_succ]
        by_cases hj : j % 2 = 0
        · rw [if_pos hj, if_pos hj, Tr.get_set x l]
          by_cases e : j = i
          · subst e; simp
          · rw [if_neg (by omega), if_neg (by omega)]
        · rw [if_neg hj, if_neg hj, if_neg (by omega)]
    · have hb : Nat.beq (i % 2) 0 = false := by
        cases hb : Nat.beq (i % 2) 0
        · rfl
        · exact absurd (beqN.1 hb) hi
      rw [hb]
      cases j with
      | zero => rw [if_neg (by omega)]; rfl
      | succ j =>
        rw [Tr.get_succ, Tr.get_succ]
        by_cases hj : j % 2 = 0
        · rw [if_pos hj, if_pos hj, if_neg (by omega)]
        · rw [if_neg hj, if_neg hj, Tr.get_set x r]
          by_cases e : j = i
          · subst e; simp
          · rw [if_neg (by omega), if_neg (by omega)]
theorem Tr.oneK_eq {β : Type} (x : α) : ∀ (f i : Nat) (k : Tr α → β), Tr.oneK x f i k = k (Tr.one x f i)
  | 0, _, _ => rfl
  | f + 1, 0, _ => rfl
  | f + 1, i + 1, k => by
    change (Bool.rec (Tr.oneK x f (i / 2) (fun r => k (.node none .nil r))) (Tr.oneK x f (i / 2) (fun l => k (.node none l .nil))) (Nat.beq (i % 2) 0) : β) = k (Bool.rec (.node none .nil (Tr.one x f (i / 2))) (.node none (Tr.one x f (i / 2)) .nil) (Nat.beq (i % 2) 0) : Tr α)
    cases Nat.beq (i % 2) 0
    · exact Tr.oneK_eq x f _ _
    · exact Tr.oneK_eq x f _ _
theorem Tr.setK_eq {β : Type} (x : α) : ∀ (t : Tr α) (i : Nat) (k : Tr α → β), t.setK x i k = k (t.set x i)
  | .nil, i, k => Tr.oneK_eq x (i + 1) i k
  | .node _ _ _, 0, _ => rfl
  | .node v l r, i + 1, k => by
    change (Bool.rec (r.setK x (i / 2) (fun r' => k (.node v l r'))) (l.setK x (i / 2) (fun l' => k (.node v l' r))) (Nat.beq (i % 2) 0) : β) = k (Bool.rec (.node v l (r.set x (i / 2))) (.node v (l.set x (i / 2)) r) (Nat.beq (i % 2) 0) : Tr α)
    cases Nat.beq (i % 2) 0
    · exact Tr.setK_eq x r _ _
    · exact Tr.setK_eq x l _ _
theorem Tr.keys_acc : ∀ (t : Tr α) (a b : Nat) (acc : List Nat) (k : Nat), k ∈ acc → k ∈ t.keys a b acc
  | .nil, _, _, _, _, h => h
  | .node none l r, a, b, acc, k, h => Tr.keys_acc l _ _ _ k (Tr.keys_acc r _ _ _ k h)
  | .node (some _) l r, a, b, acc, k, h => List.mem_cons_of_mem _ (Tr.keys_acc l _ _ _ k (Tr.keys_acc r _ _ _ k h))
theorem Tr.mem_keys : ∀ (t : Tr α) (a b : Nat) (acc : List Nat) (j : Nat) (x : α), t.get j = some x → a * j + b ∈ t.keys a b acc
  | .nil, _, _, _, _, _, h => by cases h
  | .node v l r, a, b, acc, 0, x, h => by
    rw [Tr.get_zero] at h
    subst h
    rw [Nat.mul_zero, Nat.zero_add]
    exact List.mem_cons_self
  | .node v l r, a, b, acc, j + 1, x, h => by
    rw [Tr.get_succ] at h
    have key : a * (j + 1) + b ∈ l.keys (2 * a) (a + b) (r.keys (2 * a) (2 * a + b) acc) := by
      split at h
      · have := Tr.mem_keys l (2 * a) (a + b) (r.keys (2 * a) (2 * a + b) acc) (j / 2) x h
        have e : 2 * a * (j / 2) + (a + b) = a * (j + 1) + b := by
          have h2 : j = 2 * (j / 2) := by omega
          have e1 : 2 * a * (j / 2) = a * (2 * (j / 2)) := by rw [Nat.mul_comm 2 a, Nat.mul_assoc]
          rw [e1, ← h2, Nat.mul_add]; omega
        rw [e] at this; exact this
      · have := Tr.mem_keys r (2 * a) (2 * a + b) acc (j / 2) x h
        have e : 2 * a * (j / 2) + (2 * a + b) = a * (j + 1) + b := by
          have h2 : j = 2 * (j / 2) + 1 := by omega
          have e1 : 2 * a * (j / 2) = a * (2 * (j / 2)) := by rw [Nat.mul_comm 2 a, Nat.mul_assoc]
          have e2 : a * (j + 1) = a * (2 * (j / 2)) + 2 * a := by
            conv => lhs; rw [h2]
            rw [Nat.mul_add, Nat.mul_add]; omega
          rw [e1, e2]; omega
        rw [e] at this
        exact Tr.keys_acc l _ _ _ _ this
    cases v with
    | none => exact key
    | some _ => exact List.mem_cons_of_mem _ key
end

/-! ### layers -/
theorem getT_cons (y : Ly) (R : List Ly) (k : Nat) : getT (y :: R) k = (y.t.get k).getD (getT R k) := by
  change (Option.rec (motive := fun _ => SV) (getT R k) (fun v => v) (y.t.get k)) = _
  cases y.t.get k <;> rfl
theorem getS_cons (y : Ly) (R : List Ly) (k : Nat) : getS (y :: R) k = (y.s.get k).getD (getS R k) := by
  change (Option.rec (motive := fun _ => Option Seg) (getS R k) (fun v => v) (y.s.get k)) = _
  cases y.s.get k <;> rfl
theorem getT_setT (T : Top) (k : Nat) (v : SV) (R : List Ly) : getT ((T.setT k v).ly :: R) = upd (getT (T.ly :: R)) k v := by
  funext j
  rw [getT_cons]
  show ((T.ly.t.set v k).get j).getD _ = _
  rw [Tr.get_set]
  by_cases e : j = k
  · subst e; rw [if_pos rfl, upd_same]; rfl
  · rw [if_neg e, upd_other _ _ e, getT_cons]
theorem getS_setT (T : Top) (k : Nat) (v : SV) (R : List Ly) : getS ((T.setT k v).ly :: R) = getS (T.ly :: R) := rfl
theorem getS_setS (T : Top) (k : Nat) (v : Option Seg) (R : List Ly) : getS ((T.setS k v).ly :: R) = upd (getS (T.ly :: R)) k v := by
  funext j
  rw [getS_cons]
  show ((T.ly.s.set v k).get j).getD _ = _
  rw [Tr.get_set]
  by_cases e : j = k
  · subst e; rw [if_pos rfl, upd_same]; rfl
  · rw [if_neg e, upd_other _ _ e, getS_cons]
theorem getT_setS (T : Top) (k : Nat) (v : Option Seg) (R : List Ly) : getT ((T.setS k v).ly :: R) = getT (T.ly :: R) := rfl
theorem setSs_cons (T : Top) (p : Nat × Option Seg) (l : List (Nat × Option Seg)) : T.setSs (p :: l) = (T.setS p.1 p.2).setSs l := rfl
theorem getT_setSs (R : List Ly) : ∀ (l : List (Nat × Option Seg)) (T : Top), getT ((T.setSs l).ly :: R) = getT (T.ly :: R)
  | [], _ => rfl
  | p :: l, T => by rw [setSs_cons, getT_setSs R l, getT_setS]
theorem getS_setSs (R : List Ly) : ∀ (l : List (Nat × Option Seg)) (T : Top), getS ((T.setSs l).ly :: R) = updSs (getS (T.ly :: R)) l
  | [], _ => rfl
  | (i, v) :: l, T => by rw [setSs_cons, getS_setSs R l, getS_setS]; rfl
def appT (dst : Option Tmp) (e : Eff) (tm : Nat → SV) : Nat → SV :=
  match dst with
  | some d => upd tm d e.val
  | none => tm
theorem getT_applyE (T : Top) (dst : Option Tmp) (e : Eff) (R : List Ly) : getT ((applyE T dst e).ly :: R) = appT dst e (getT (T.ly :: R)) := by
  cases dst with
  | none => exact getT_setSs R e.ws T
  | some d => exact (getT_setSs R e.ws (T.setT d e.val)).trans (getT_setT T d e.val R)
theorem getS_applyE (T : Top) (dst : Option Tmp) (e : Eff) (R : List Ly) : getS ((applyE T dst e).ly :: R) = updSs (getS (T.ly :: R)) e.ws := by
  cases dst with
  | none => exact getS_setSs R e.ws T
  | some d => exact (getS_setSs R e.ws (T.setT d e.val)).trans (by rw [getS_setT])
theorem setSsK_eq {β : Type} : ∀ (l : List (Nat × Option Seg)) (T : Top) (f : Top → β), T.setSsK l f = f (T.setSs l)
  | [], _, _ => rfl
  | p :: l, T, f => by
    change T.setSK p.1 p.2 (fun T' => T'.setSsK l f) = f ((T.setS p.1 p.2).setSs l)
    unfold Top.setSK
    rw [Tr.setK_eq]
    exact setSsK_eq l _ f
theorem applyK_eq {β : Type} (T : Top) (dst : Option Tmp) (e : Eff) (f : Top → β) : applyK T dst e f = f (applyE T dst e) := by
  cases dst with
  | none => exact setSsK_eq e.ws T _
  | some d =>
    change T.setTK d e.val (fun T1 => T1.setSsK e.ws fun T2 => f ⟨T2.ly, e.next⟩) = _
    unfold Top.setTK
    rw [Tr.setK_eq]
    exact setSsK_eq e.ws _ _

/-! ### merges of layers -/
theorem mergeTs_get (b : Bool) (l1 l2 : List Ly) (R : List Ly) : ∀ (ks : List Nat) (T : Top) (k : Nat), getT ((mergeTs b l1 l2 ks T).ly :: R) k = if k ∈ ks then mergeV b (getT l1 k) (getT l2 k) else getT (T.ly :: R) k
  | [], T, k => by simp [mergeTs]
  | j :: ks, T, k => by
    change getT ((mergeTs b l1 l2 ks (T.setT j (mergeV b (getT l1 j) (getT l2 j)))).ly :: R) k = _
    rw [mergeTs_get b l1 l2 R ks, getT_setT]
    by_cases h : k ∈ ks
    · rw [if_pos h, if_pos (List.mem_cons_of_mem _ h)]
    · rw [if_neg h]
      by_cases e : k = j
      · subst e; rw [upd_same, if_pos List.mem_cons_self]
      · rw [upd_other _ _ e, if_neg (by simp [e, h])]
theorem mergeTs_S (b : Bool) (l1 l2 : List Ly) (R : List Ly) : ∀ (ks : List Nat) (T : Top), getS ((mergeTs b l1 l2 ks T).ly :: R) = getS (T.ly :: R) ∧ (mergeTs b l1 l2 ks T).next = T.next
  | [], T => ⟨rfl, rfl⟩
  | j :: ks, T => mergeTs_S b l1 l2 R ks (T.setT j (mergeV b (getT l1 j) (getT l2 j)))
theorem mergeSs_get (b : Bool) (l1 l2 : List Ly) (R : List Ly) : ∀ (ks : List Nat) (T : Top) (k : Nat), getS ((mergeSs b l1 l2 ks T).ly :: R) k = if k ∈ ks then mergeSeg b (getS l1 k) (getS l2 k) else getS (T.ly :: R) k
  | [], T, k => by simp [mergeSs]
  | j :: ks, T, k => by
    change getS ((mergeSs b l1 l2 ks (T.setS j (mergeSeg b (getS l1 j) (getS l2 j)))).ly :: R) k = _
    rw [mergeSs_get b l1 l2 R ks, getS_setS]
    by_cases h : k ∈ ks
    · rw [if_pos h, if_pos (List.mem_cons_of_mem _ h)]
    · rw [if_neg h]
      by_cases e : k = j
      · subst e; rw [upd_same, if_pos List.mem_cons_self]
      · rw [upd_other _ _ e, if_neg (by simp [e, h])]
theorem mergeSs_T (b : Bool) (l1 l2 : List Ly) (R : List Ly) : ∀ (ks : List Nat) (T : Top), getT ((mergeSs b l1 l2 ks T).ly :: R) = getT (T.ly :: R) ∧ (mergeSs b l1 l2 ks T).next = T.next
  | [], T => ⟨rfl, rfl⟩
  | j :: ks, T => mergeSs_T b l1 l2 R ks (T.setS j (mergeSeg b (getS l1 j) (getS l2 j)))
theorem getT_empty (n : Nat) (R : List Ly) : getT ((Top.empty n).ly :: R) = getT R := by funext k; rw [getT_cons]; rfl
theorem getS_empty (n : Nat) (R : List Ly) : getS ((Top.empty n).ly :: R) = getS R := by funext k; rw [getS_cons]; rfl
theorem key1 {α : Type} (t : Tr α) (acc : List Nat) {k : Nat} (h : k ∉ t.keys 1 0 acc) : t.get k = none := by
  cases hg : t.get k with
  | none => rfl
  | some x => exact absurd (by have := Tr.mem_keys t 1 0 acc k x hg; simpa using this) h
theorem mergeTop_T (b : Bool) (R : List Ly) (o1 o2 : Top) (k : Nat) : getT ((mergeTop b R o1 o2).ly :: R) k = mergeV b (getT (o1.ly :: R) k) (getT (o2.ly :: R) k) ∨ (getT ((mergeTop b R o1 o2).ly :: R) k = getT (o1.ly :: R) k ∧ getT ((mergeTop b R o1 o2).ly :: R) k = getT (o2.ly :: R) k) := by
  unfold mergeTop
  rw [(mergeSs_T b _ _ R _ _).1, mergeTs_get]
  by_cases h : k ∈ o1.ly.t.keys 1 0 (o2.ly.t.keys 1 0 [])
  · rw [if_pos h]; exact .inl rfl
  · rw [if_neg h, getT_empty]
    have h1 := key1 _ _ h
    have h2 := key1 o2.ly.t [] (fun hk => h (Tr.keys_acc _ _ _ _ _ hk))
    exact .inr ⟨by rw [getT_cons, h1]; rfl, by rw [getT_cons, h2]; rfl⟩
theorem mergeTop_S (b : Bool) (R : List Ly) (o1 o2 : Top) (k : Nat) : getS ((mergeTop b R o1 o2).ly :: R) k = mergeSeg b (getS (o1.ly :: R) k) (getS (o2.ly :: R) k) ∨ (getS ((mergeTop b R o1 o2).ly :: R) k = getS (o1.ly :: R) k ∧ getS ((mergeTop b R o1 o2).ly :: R) k = getS (o2.ly :: R) k) := by
  unfold mergeTop
  rw [mergeSs_get]
  by_cases h : k ∈ o1.ly.s.keys 1 0 (o2.ly.s.keys 1 0 [])
  · rw [if_pos h]; exact .inl rfl
  · rw [if_neg h, (mergeTs_S b _ _ R _ _).1, getS_empty]
    have h1 := key1 _ _ h
    have h2 := key1 o2.ly.s [] (fun hk => h (Tr.keys_acc _ _ _ _ _ hk))
    exact .inr ⟨by rw [getS_cons, h1]; rfl, by rw [getS_cons, h2]; rfl⟩
theorem mergeTop_next (b : Bool) (R : List Ly) (o1 o2 : Top) : (mergeTop b R o1 o2).next = max o1.next o2.next := by
  unfold mergeTop
  rw [(mergeSs_T b _ _ R _ _).2, (mergeTs_S b _ _ R _ _).2]; rfl
theorem commitT_get (o : Ly) (R : List Ly) : ∀ (ks : List Nat) (T : Top) (k : Nat), getT ((commitT [o] ks T).ly :: R) k = if k ∈ ks then getT [o] k else getT (T.ly :: R) k
  | [], T, k => by simp [commitT]
  | j :: ks, T, k => by
    change getT ((commitT [o] ks (T.setT j (getT [o] j))).ly :: R) k = _
    rw [commitT_get o R ks, getT_setT]
    by_cases h : k ∈ ks
    · rw [if_pos h, if_pos (List.mem_cons_of_mem _ h)]
    · rw [if_neg h]
      by_cases e : k = j
      · subst e; rw [upd_same, if_pos List.mem_cons_self]
      · rw [upd_other _ _ e, if_neg (by simp [e, h])]
theorem commitT_S (o : Ly) (R : List Ly) : ∀ (ks : List Nat) (T : Top), getS ((commitT [o] ks T).ly :: R) = getS (T.ly :: R) ∧ (commitT [o] ks T).next = T.next
  | [], T => ⟨rfl, rfl⟩
  | j :: ks, T => commitT_S o R ks (T.setT j (getT [o] j))
theorem commitS_get (o : Ly) (R : List Ly) : ∀ (ks : List Nat) (T : Top) (k : Nat), getS ((commitS [o] ks T).ly :: R) k = if k ∈ ks then getS [o] k else getS (T.ly :: R) k
  | [], T, k => by simp [commitS]
  | j :: ks, T, k => by
    change getS ((commitS [o] ks (T.setS j (getS [o] j))).ly :: R) k = _
    rw [commitS_get o R ks, getS_setS]
    by_cases h : k ∈ ks
    · rw [if_pos h, if_pos (List.mem_cons_of_mem _ h)]
    · rw [if_neg h]
      by_cases e : k = j
      · subst e; rw [upd_same, if_pos List.mem_cons_self]
      · rw [upd_other _ _ e, if_neg (by simp [e, h])]
theorem commitS_T (o : Ly) (R : List Ly) : ∀ (ks : List Nat) (T : Top), getT ((commitS [o] ks T).ly :: R) = getT (T.ly :: R) ∧ (commitS [o] ks T).next = T.next
  | [], T => ⟨rfl, rfl⟩
  | j :: ks, T => commitS_T o R ks (T.setS j (getS [o] j))
-- a key that is there, and one that is not
theorem mem_key1 {α : Type} (t : Tr α) {k : Nat} {x : α} (h : t.get k = some x) : k ∈ t.keys 1 0 [] := by
  have := Tr.mem_keys t 1 0 [] k x h; simpa using this
theorem keys_get {α : Type} : ∀ (t : Tr α) (a b : Nat) (acc : List Nat) (k : Nat), k ∈ t.keys a b acc → k ∈ acc ∨ ∃ j x, k = a * j + b ∧ t.get j = some x
  | .nil, _, _, _, _, h => .inl h
  | .node v l r, a, b, acc, k, h => by
    have sub : k ∈ l.keys (2 * a) (a + b) (r.keys (2 * a) (2 * a + b) acc) → k ∈ acc ∨ ∃ j x, k = a * j + b ∧ (Tr.node v l r).get j = some x := by
      intro h
      rcases keys_get l _ _ _ k h with h | ⟨j, x, e, hx⟩
      · rcases keys_get r _ _ _ k h with h | ⟨j, x, e, hx⟩
        · exact .inl h
        · refine .inr ⟨2 * j + 1 + 1, x, ?_, ?_⟩
          · rw [e, Nat.mul_add, Nat.mul_add, Nat.mul_comm 2 a, Nat.mul_assoc]; omega
          · rw [Tr.get_succ, if_neg (by omega), show (2 * j + 1) / 2 = j by omega]; exact hx
      · refine .inr ⟨2 * j + 1, x, ?_, ?_⟩
        · rw [e, Nat.mul_add, Nat.mul_comm 2 a, Nat.mul_assoc]; omega
        · rw [Tr.get_succ, if_pos (by omega), show 2 * j / 2 = j by omega]; exact hx
    cases v with
    | none => exact sub h
    | some y =>
      rcases List.mem_cons.1 h with h | h
      · exact .inr ⟨0, y, by rw [h]; simp, rfl⟩
      · exact sub h
theorem commit_T (T o : Top) (R : List Ly) : getT ((commit T o).ly :: R) = getT (o.ly :: T.ly :: R) := by
  funext k
  unfold commit
  rw [(commitS_T o.ly R _ _).1, commitT_get]
  by_cases h : k ∈ o.ly.t.keys 1 0 []
  · rw [if_pos h]
    rcases keys_get _ _ _ _ _ h with h' | ⟨j, x, e, hx⟩
    · simp at h'
    · have : k = j := by omega
      subst this
      rw [getT_cons, getT_cons, hx]; rfl
  · rw [if_neg h, getT_cons o.ly, key1 _ _ h]; rfl
theorem commit_S (T o : Top) (R : List Ly) : getS ((commit T o).ly :: R) = getS (o.ly :: T.ly :: R) := by
  funext k
  unfold commit
  rw [commitS_get, (commitT_S o.ly R _ _).1]
  by_cases h : k ∈ o.ly.s.keys 1 0 []
  · rw [if_pos h]
    rcases keys_get _ _ _ _ _ h with h' | ⟨j, x, e, hx⟩
    · simp at h'
    · have : k = j := by omega
      subst this
      rw [getS_cons, getS_cons, hx]; rfl
  · rw [if_neg h, getS_cons o.ly, key1 _ _ h]; rfl
theorem commit_next (T o : Top) : (commit T o).next = o.next := by
  unfold commit
  rw [(commitS_T o.ly [] _ _).2, (commitT_S o.ly [] _ _).2]

/-! ### weaker segments -/
structure SegLe (g g' : Seg) : Prop where
  rw : g'.rw = true → g.rw = true
  own : g'.own = true → g.own = true
  len : g'.body.len = g.body.len
  at_ : ∀ (E : EM) k v, k < g.body.len → RelC E (g.body.at k) v → RelC E (g'.body.at k) v
theorem SegLe.refl (g : Seg) : SegLe g g := ⟨id, id, rfl, fun _ _ _ _ h => h⟩
theorem mergeSeg_l {s1 s2 : Option Seg} {g : Seg} {b : Bool} (h : mergeSeg b s1 s2 = some g) (hb : b = true) : ∃ g1, s1 = some g1 ∧ SegLe g1 g := by
  unfold mergeSeg at h
  split at h <;> try (cases h; done)
  split at h <;> cases h
  rename_i w o l w' o' m r hr
  have hl := mergeL_len hr
  refine ⟨_, rfl, fun h => (by simp at h; exact h.1), fun h => (by simp at h; exact h.1), hl.1.symm, fun E k v hk hv => ?_⟩
  simp only [SBody.at, SBody.len] at *
  rw [mergeL_get hr k (by omega)]
  exact RelC.mergeL' (fun _ => hv) (fun e => by rw [hb] at e; cases e)
theorem mergeSeg_r {s1 s2 : Option Seg} {g : Seg} {b : Bool} (h : mergeSeg b s1 s2 = some g) (hb : b = false) : ∃ g1, s2 = some g1 ∧ SegLe g1 g := by
  unfold mergeSeg at h
  split at h <;> try (cases h; done)
  split at h <;> cases h
  rename_i w o l w' o' m r hr
  have hl := mergeL_len hr
  refine ⟨_, rfl, fun h => (by simp at h; exact h.2), fun h => (by simp at h; exact h.2), hl.2.symm, fun E k v hk hv => ?_⟩
  simp only [SBody.at, SBody.len] at *
  rw [mergeL_get hr k (by omega)]
  exact RelC.mergeL' (fun e => by rw [hb] at e; cases e) (fun _ => hv)
theorem MemRel.weaken {w0 w : World} {T0 : Nat → Nat → Prop} {E : EM} {sg sg' : Nat → Option Seg} (h : MemRel w0 T0 E sg w) (hs : ∀ i g', sg' i = some g' → ∃ g, sg i = some g ∧ SegLe g g') : MemRel w0 T0 E sg' w where
  segs i g' hg' := by
    obtain ⟨g, hg, l⟩ := hs i g' hg'
    obtain ⟨b, o, z, cs, T, fr, e, s⟩ := h.segs i g hg
    refine ⟨b, o, z, cs, T, fr, e, s.heap, by rw [l.len]; exact s.le, s.fit, fun ho => s.own (l.own ho), fun hr => s.fz (l.rw hr), fun k hk => ?_⟩
    rw [l.len] at hk
    obtain ⟨v, h1, h2⟩ := s.cell k hk
    exact ⟨v, h1, l.at_ E k v hk h2⟩
  disj i j g' k' b o z b' o' z' hij hg' hk' hr := by
    obtain ⟨g, hg, l⟩ := hs i g' hg'
    obtain ⟨k, hk, m⟩ := hs j k' hk'
    exact h.disj i j g k b o z b' o' z' hij hg hk (hr.imp l.rw m.rw)
  tch i g' b o z hg' hr := by
    obtain ⟨g, hg, l⟩ := hs i g' hg'
    exact h.tch i g b o z hg (l.rw hr)
  fr := h.fr

/-- 'T'' says no more than 'tm', 'sg'. -/
structure Le (tm : Nat → SV) (sg : Nat → Option Seg) (tm' : Nat → SV) (sg' : Nat → Option Seg) : Prop where
  tm : ∀ (E : EM) t v, RelV E (tm t) v → RelV E (tm' t) v
  sg : ∀ i g', sg' i = some g' → ∃ g, sg i = some g ∧ SegLe g g'
theorem Le.refl (tm : Nat → SV) (sg : Nat → Option Seg) : Le tm sg tm sg := ⟨fun _ _ _ h => h, fun i g h => ⟨g, h, SegLe.refl g⟩⟩
theorem SegLe.trans {a b c : Seg} (h : SegLe a b) (h' : SegLe b c) : SegLe a c :=
  ⟨fun x => h.rw (h'.rw x), fun x => h.own (h'.own x), h'.len.trans h.len, fun E k v hk hv => h'.at_ E k v (by rw [h.len]; exact hk) (h.at_ E k v hk hv)⟩
theorem Le.trans {tm tm' tm'' : Nat → SV} {sg sg' sg'' : Nat → Option Seg} (h : Le tm sg tm' sg') (h' : Le tm' sg' tm'' sg'') : Le tm sg tm'' sg'' :=
  ⟨fun E t v hv => h'.tm E t v (h.tm E t v hv), fun i g'' hg => by
    obtain ⟨g', h1, h2⟩ := h'.sg i g'' hg
    obtain ⟨g, h3, h4⟩ := h.sg i g' h1
    exact ⟨g, h3, h4.trans h2⟩⟩
theorem mergeTop_le1 (R : List Ly) (o1 o2 : Top) {b : Bool} (hb : b = true) : Le (getT (o1.ly :: R)) (getS (o1.ly :: R)) (getT ((mergeTop b R o1 o2).ly :: R)) (getS ((mergeTop b R o1 o2).ly :: R)) := by
  refine ⟨fun E t v hv => ?_, fun i g' hg' => ?_⟩
  · rcases mergeTop_T b R o1 o2 t with h | ⟨h, _⟩
    · rw [h]; exact RelV.merge (fun _ => hv) (fun e => by rw [hb] at e; cases e)
    · rw [h]; exact hv
  · rcases mergeTop_S b R o1 o2 i with h | ⟨h, _⟩
    · rw [h] at hg'; exact mergeSeg_l hg' hb
    · rw [h] at hg'; exact ⟨g', hg', SegLe.refl _⟩
theorem mergeTop_le2 (R : List Ly) (o1 o2 : Top) {b : Bool} (hb : b = false) : Le (getT (o2.ly :: R)) (getS (o2.ly :: R)) (getT ((mergeTop b R o1 o2).ly :: R)) (getS ((mergeTop b R o1 o2).ly :: R)) := by
  refine ⟨fun E t v hv => ?_, fun i g' hg' => ?_⟩
  · rcases mergeTop_T b R o1 o2 t with h | ⟨_, h⟩
    · rw [h]; exact RelV.merge (fun e => by rw [hb] at e; cases e) (fun _ => hv)
    · rw [h]; exact hv
  · rcases mergeTop_S b R o1 o2 i with h | ⟨_, h⟩
    · rw [h] at hg'; exact mergeSeg_r hg' hb
    · rw [h] at hg'; exact ⟨g', hg', SegLe.refl _⟩
theorem commit_le (T o : Top) (R : List Ly) : Le (getT (o.ly :: T.ly :: R)) (getS (o.ly :: T.ly :: R)) (getT ((commit T o).ly :: R)) (getS ((commit T o).ly :: R)) := by
  rw [commit_T, commit_S]; exact Le.refl _ _

end Go.Proofs.Ytohmpnnncpjjlaa
