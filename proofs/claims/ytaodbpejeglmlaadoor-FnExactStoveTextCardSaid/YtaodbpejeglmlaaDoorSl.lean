/- Layers, merges of layers, and what one operation does to the whole state. Nothing is assumed. -/
import Derived.Test.YtaodbpejeglmlaaDoorSk
namespace Go.Proofs.YtaodbpejeglmlaaDoor
open Go

/-! ### trees -/
section
variable {α : Type}
theorem Tr.get_nil (i : Nat) : (Tr.nil : Tr α).get i = none := rfl
theorem Tr.get_zero (v : Option α) (l r : Tr α) : (Tr.node v l r).get 0 = v := rfl
theorem Tr.get_succ (v : Option α) (l r : Tr α) (j : Nat) : (Tr.node v l r).get (j + 1) = (if j % 2 = 0 then l.get (j / 2) else r.get (j / 2)) := by
  change (Bool.rec (r.get (j / 2)) (l.get (j / 2)) (Nat.beq (j % 2) 0) : Option α) = _
  by_cases h : j % 2 = 0
  · rw [if_pos h, beqN.2 h]
  · rw [if_neg h]
    have : Nat.beq (j % 2) 0 = false := by
      cases hb : Nat.beq (j % 2) 0
      · rfl
      · exact absurd (beqN.1 hb) h
    rw [this]
theorem Tr.one_get (x : α) : ∀ (f i j : Nat), i < f → (Tr.one x f i).get j = if j = i then some x else none
  | 0, i, j, h => by omega
  | f + 1, 0, j, _ => by
    change (Tr.node (some x) .nil .nil : Tr α).get j = _
    cases j with
    | zero => rfl
    | succ j => rw [Tr.get_succ, if_neg (show ¬ (j + 1 = 0) by omega)]; split <;> rfl
  | f + 1, i + 1, j, h => by
    change (Bool.rec (.node none .nil (Tr.one x f (i / 2))) (.node none (Tr.one x f (i / 2)) .nil) (Nat.beq (i % 2) 0) : Tr α).get j = _
    by_cases hi : i % 2 = 0
    · rw [beqN.2 hi]
      cases j with
      | zero => rw [if_neg (by omega)]; rfl
      | succ j =>
        rw [Tr.get_succ]
        by_cases hj : j % 2 = 0
        · rw [if_pos hj, Tr.one_get x f _ _ (by omega)]
          by_cases e : j = i
          · subst e; simp
          · rw [if_neg (by omega), if_neg (by omega)]
        · rw [if_neg hj, if_neg (by omega)]; rfl
    · have hb : Nat.beq (i % 2) 0 = false := by
        cases hb : Nat.beq (i % 2) 0
        · rfl
        · exact absurd (beqN.1 hb) hi
      rw [hb]
      cases j with
      | zero => rw [if_neg (by omega)]; rfl
      | succ j =>
        rw [Tr.get_succ]
        by_cases hj : j % 2 = 0
        · rw [if_pos hj, if_neg (by omega)]; rfl
        · rw [if_neg hj, Tr.one_get x f _ _ (by omega)]
          by_cases e : j = i
          · subst e; simp
          · rw [if_neg (by omega), if_neg (by omega)]
theorem Tr.get_set (x : α) : ∀ (t : Tr α) (i j : Nat), (t.set x i).get j = if j = i then some x else t.get j
  | .nil, i, j => by
    change (Tr.one x (i + 1) i).get j = _
    rw [Tr.one_get x _ _ _ (Nat.lt_succ_self _)]; rfl
  | .node v l r, 0, j => by
    change (Tr.node (some x) l r).get j = _
    cases j with
    | zero => rfl
    | succ j => rw [if_neg (show ¬ (j + 1 = 0) by omega), Tr.get_succ, Tr.get_succ]
  | .node v l r, i + 1, j => by
    change (Bool.rec (.node v l (r.set x (i / 2))) (.node v (l.set x (i / 2)) r) (Nat.beq (i % 2) 0) : Tr α).get j = _
    by_cases hi : i % 2 = 0
    · rw [beqN.2 hi]
      cases j with
      | zero => rw [if_neg (by omega)]; rfl
      | succ j =>
        rw [Tr.get_succ, Tr.get_succ]
        by_cases hj : j % 2 = 0
        · rw [if_pos hj, if_pos hj, Tr.get_set x l]
          by_cases e : j = i
          · subst e; simp
          · rw [if_neg (by omega), if_neg (by omega)]
        · rw [if_neg hj, if_neg hj, if_neg (by omega)]
    · have hb : Nat.beq (i % 2) 0 = false := by
        cases hb : Nat.beq (i % 2) 0
        · rfl
        · exact absurd (beqN.1 hb) hi
      rw [hb]
      cases j with
      | zero => rw [if_neg (by omega)]; rfl
      | succ j =>
        rw [Tr.get_succ, Tr.get_succ]
        by_cases hj : j % 2 = 0
        · rw [if_pos hj, if_pos hj, if_neg (by omega)]
        · rw [if_neg hj, if_neg hj, Tr.get_set x r]
          by_cases e : j = i
          · subst e; simp
          · rw [if_neg (by omega), if_neg (by omega)]
theorem Tr.oneK_eq {β : Type} (x : α) : ∀ (f i : Nat) (k : Tr α → β), Tr.oneK x f i k = k (Tr.one x f i)
  | 0, _, _ => rfl
  | f + 1, 0, _ => rfl
  | f + 1, i + 1, k => by
    change (Bool.rec (Tr.oneK x f (i / 2) (fun r => k (.node none .nil r))) (Tr.oneK x f (i / 2) (fun l => k (.node none l .nil))) (Nat.beq (i % 2) 0) : β) = k (Bool.rec (.node none .nil (Tr.one x f (i / 2))) (.node none (Tr.one x f (i / 2)) .nil) (Nat.beq (i % 2) 0) : Tr α)
    cases Nat.beq (i % 2) 0
    · exact Tr.oneK_eq x f _ _
    · exact Tr.oneK_eq x f _ _
theorem Tr.setK_eq {β : Type} (x : α) : ∀ (t : Tr α) (i : Nat) (k : Tr α → β), t.setK x i k = k (t.set x i)
  | .nil, i, k => Tr.oneK_eq x (i + 1) i k
  | .node _ _ _, 0, _ => rfl
  | .node v l r, i + 1, k => by
    change (Bool.rec (r.setK x (i / 2) (fun r' => k (.node v l r'))) (l.setK x (i / 2) (fun l' => k (.node v l' r))) (Nat.beq (i % 2) 0) : β) = k (Bool.rec (.node v l (r.set x (i / 2))) (.node v (l.set x (i / 2)) r) (Nat.beq (i % 2) 0) : Tr α)
    cases Nat.beq (i % 2) 0
    · exact Tr.setK_eq x r _ _
    · exact Tr.setK_eq x l _ _
theorem Tr.keys_acc : ∀ (t : Tr α) (a b : Nat) (acc : List Nat) (k : Nat), k ∈ acc → k ∈ t.keys a b acc
  | .nil, _, _, _, _, h => h
  | .node none l r, a, b, acc, k, h => Tr.keys_acc l _ _ _ k (Tr.keys_acc r _ _ _ k h)
  | .node (some _) l r, a, b, acc, k, h => List.mem_cons_of_mem _ (Tr.keys_acc l _ _ _ k (Tr.keys_acc r _ _ _ k h))
theorem Tr.mem_keys : ∀ (t : Tr α) (a b : Nat) (acc : List Nat) (j : Nat) (x : α), t.get j = some x → a * j + b ∈ t.keys a b acc
  | .nil, _, _, _, _, _, h => by cases h
  | .node v l r, a, b, acc, 0, x, h => by
    rw [Tr.get_zero] at h
    subst h
    rw [Nat.mul_zero, Nat.zero_add]
    exact List.mem_cons_self
  | .node v l r, a, b, acc, j + 1, x, h => by
    rw [Tr.get_succ] at h
    have key : a * (j + 1) + b ∈ l.keys (2 * a) (a + b) (r.keys (2 * a) (2 * a + b) acc) := by
      split at h
      · have := Tr.mem_keys l (2 * a) (a + b) (r.keys (2 * a) (2 * a + b) acc) (j / 2) x h
        have e : 2 * a * (j / 2) + (a + b) = a * (j + 1) + b := by
          have h2 : j = 2 * (j / 2) := by omega
          have e1 : 2 * a * (j / 2) = a * (2 * (j / 2)) := by rw [Nat.mul_comm 2 a, Nat.mul_assoc]
          rw [e1, ← h2, Nat.mul_add]; omega
        rw [e] at this; exact this
      · have := Tr.mem_keys r (2 * a) (2 * a + b) acc (j / 2) x h
        have e : 2 * a * (j / 2) + (2 * a + b) = a * (j + 1) + b := by
          have h2 : j = 2 * (j / 2) + 1 := by omega
          have e1 : 2 * a * (j / 2) = a * (2 * (j / 2)) := by rw [Nat.mul_comm 2 a, Nat.mul_assoc]
          have e2 : a * (j + 1) = a * (2 * (j / 2)) + 2 * a := by
            conv => lhs; rw [h2]
            rw [Nat.mul_add, Nat.mul_add]; omega
          rw [e1, e2]; omega
        rw [e] at this
        exact Tr.keys_acc l _ _ _ _ this
    cases v with
    | none => exact key
    | some _ => exact List.mem_cons_of_mem _ key
end

/-! ### layers -/
theorem getT_cons (y : Ly) (R : List Ly) (k : Nat) : getT (y :: R) k = (y.t.get k).getD (getT R k) := by
  change (Option.rec (motive := fun _ => SV) (getT R k) (fun v => v) (y.t.get k)) = _
  cases y.t.get k <;> rfl
/-- What is seen through a layer. -/
noncomputable def resV (v : Option SD) (g : Option Seg) : Option Seg :=
  match v with
  | none => g
  | some v => resD v g
theorem getS_cons (y : Ly) (R : List Ly) (k : Nat) : getS (y :: R) k = resV (y.s.get k) (getS R k) := by
  change (Option.rec (motive := fun _ => Option Seg) (getS R k) (fun v => resD v (getS R k)) (y.s.get k)) = _
  cases y.s.get k <;> rfl
theorem getT_setT (T : Top) (k : Nat) (v : SV) (R : List Ly) : getT ((T.setT k v).ly :: R) = upd (getT (T.ly :: R)) k v := by
  funext j
  rw [getT_cons]
  show ((T.ly.t.set v k).get j).getD _ = _
  rw [Tr.get_set]
  by_cases e : j = k
  · subst e; rw [if_pos rfl, upd_same]; rfl
  · rw [if_neg e, upd_other _ _ e, getT_cons]
theorem getS_setT (T : Top) (k : Nat) (v : SV) (R : List Ly) : getS ((T.setT k v).ly :: R) = getS (T.ly :: R) := rfl
theorem getS_setD (T : Top) (k : Nat) (v : SD) (R : List Ly) : getS ((T.setD k v).ly :: R) = upd (getS (T.ly :: R)) k (resD v (getS R k)) := by
  funext j
  rw [getS_cons]
  show resV ((T.ly.s.set v k).get j) _ = _
  rw [Tr.get_set]
  by_cases e : j = k
  · subst e; rw [if_pos rfl, upd_same]; rfl
  · rw [if_neg e, upd_other _ _ e, getS_cons]
theorem getT_setD (T : Top) (k : Nat) (v : SD) (R : List Ly) : getT ((T.setD k v).ly :: R) = getT (T.ly :: R) := rfl
theorem getS_setS (T : Top) (k : Nat) (v : Option Seg) (R : List Ly) : getS ((T.setS k v).ly :: R) = upd (getS (T.ly :: R)) k v := by
  unfold Top.setS
  rw [getS_setD]
  cases v <;> rfl
theorem getT_setS (T : Top) (k : Nat) (v : Option Seg) (R : List Ly) : getT ((T.setS k v).ly :: R) = getT (T.ly :: R) := rfl
theorem setSs_cons (T : Top) (p : Nat × Option Seg) (l : List (Nat × Option Seg)) : T.setSs (p :: l) = (T.setS p.1 p.2).setSs l := rfl
theorem getT_setSs (R : List Ly) : ∀ (l : List (Nat × Option Seg)) (T : Top), getT ((T.setSs l).ly :: R) = getT (T.ly :: R)
  | [], _ => rfl
  | p :: l, T => by rw [setSs_cons, getT_setSs R l, getT_setS]
theorem getS_setSs (R : List Ly) : ∀ (l : List (Nat × Option Seg)) (T : Top), getS ((T.setSs l).ly :: R) = updSs (getS (T.ly :: R)) l
  | [], _ => rfl
  | (i, v) :: l, T => by rw [setSs_cons, getS_setSs R l, getS_setS]; rfl
def appT (dst : Option Tmp) (e : Eff) (tm : Nat → SV) : Nat → SV :=
  match dst with
  | some d => upd tm d e.val
  | none => tm
theorem getT_applyE (T : Top) (dst : Option Tmp) (e : Eff) (R : List Ly) : getT ((applyE T dst e).ly :: R) = appT dst e (getT (T.ly :: R)) := by
  cases dst with
  | none => exact getT_setSs R e.ws T
  | some d => exact (getT_setSs R e.ws (T.setT d e.val)).trans (getT_setT T d e.val R)
theorem getS_applyE (T : Top) (dst : Option Tmp) (e : Eff) (R : List Ly) : getS ((applyE T dst e).ly :: R) = updSs (getS (T.ly :: R)) e.ws := by
  cases dst with
  | none => exact getS_setSs R e.ws T
  | some d => exact (getS_setSs R e.ws (T.setT d e.val)).trans (by rw [getS_setT])
theorem setSsK_eq {β : Type} : ∀ (l : List (Nat × Option Seg)) (T : Top) (f : Top → β), T.setSsK l f = f (T.setSs l)
  | [], _, _ => rfl
  | p :: l, T, f => by
    change T.setSK p.1 p.2 (fun T' => T'.setSsK l f) = f ((T.setS p.1 p.2).setSs l)
    unfold Top.setSK Top.setDK
    rw [Tr.setK_eq]
    exact setSsK_eq l _ f
theorem applyK_eq {β : Type} (T : Top) (dst : Option Tmp) (e : Eff) (f : Top → β) : applyK T dst e f = f (applyE T dst e) := by
  cases dst with
  | none => exact setSsK_eq e.ws T _
  | some d =>
    change T.setTK d e.val (fun T1 => T1.setSsK e.ws fun T2 => f ⟨T2.ly, e.next⟩) = _
    unfold Top.setTK
    rw [Tr.setK_eq]
    exact setSsK_eq e.ws _ _

/-! ### cells that are new -/
theorem setC_len : ∀ (l : List SC) (j : Nat) (x : SC), (setC l j x).length = l.length
  | [], _, _ => rfl
  | _ :: _, 0, _ => rfl
  | y :: l, j + 1, x => congrArg (· + 1) (setC_len l j x)
theorem setC_get : ∀ (l : List SC) (j : Nat) (x : SC) (k : Nat), (setC l j x).getD k .any = if k = j ∧ j < l.length then x else l.getD k .any
  | [], j, x, k => by simp [setC]
  | y :: l, 0, x, k => by
    cases k with
    | zero =>
      show x = _
      simp
    | succ k =>
      show l.getD k .any = _
      simp
  | y :: l, j + 1, x, k => by
    cases k with
    | zero =>
      show y = _
      simp
    | succ k =>
      have := setC_get l j x k
      show (setC l j x).getD k .any = _
      rw [this]
      simp
theorem patch_cons (p : Nat × SC) (d : List (Nat × SC)) (l : List SC) : patch (p :: d) l = setC (patch d l) p.1 p.2 := rfl
theorem patch_len : ∀ (d : List (Nat × SC)) (l : List SC), (patch d l).length = l.length
  | [], _ => rfl
  | p :: d, l => by rw [patch_cons, setC_len, patch_len d l]
theorem patch_out : ∀ (d : List (Nat × SC)) (l : List SC) (k : Nat), k ∉ fsts d → (patch d l).getD k .any = l.getD k .any
  | [], _, _, _ => rfl
  | p :: d, l, k, h => by
    have h' : k ∉ p.1 :: fsts d := h
    rw [List.mem_cons, not_or] at h'
    rw [patch_cons, setC_get, if_neg (fun e => h'.1 e.1), patch_out d l k h'.2]
theorem patch_in : ∀ (d : List (Nat × SC)) (l : List SC) (k : Nat) (x : SC), k ∈ fsts d → k < l.length → (∀ y, (k, y) ∈ d → y = x) → (patch d l).getD k .any = x
  | [], _, _, _, h, _, _ => by cases h
  | p :: d, l, k, x, h, hl, hx => by
    rw [patch_cons, setC_get, patch_len]
    by_cases e : k = p.1
    · rw [if_pos ⟨e, by omega⟩]
      exact hx p.2 (by rw [e]; exact List.mem_cons_self)
    · rw [if_neg (fun h => e h.1)]
      have h' : k ∈ p.1 :: fsts d := h
      exact patch_in d l k x ((List.mem_cons.1 h').resolve_left e) hl fun y hy => hx y (List.mem_cons_of_mem _ hy)
theorem patch_append : ∀ (d d' : List (Nat × SC)) (l : List SC), patch (d ++ d') l = patch d (patch d' l)
  | [], _, _ => rfl
  | p :: d, d', l => by
    show setC (patch (d ++ d') l) p.1 p.2 = setC (patch d (patch d' l)) p.1 p.2
    rw [patch_append d d' l]
theorem patchS_append (d d' : List (Nat × SC)) (g : Option Seg) : patchS (d ++ d') g = patchS d (patchS d' g) := by
  cases g with
  | none => rfl
  | some g =>
    cases hb : g.body with
    | cells l => simp only [patchS, patchB, hb, patch_append]
    | rows st n row => simp only [patchS, patchB, hb]
theorem cellsD_append : ∀ (l : List SC) (o : Nat) (acc : List (Nat × SC)), cellsD o l acc = cellsD o l [] ++ acc
  | [], _, _ => rfl
  | x :: l, o, acc => by
    show (o, x) :: cellsD (o + 1) l acc = (o, x) :: (cellsD (o + 1) l [] ++ acc)
    rw [cellsD_append l (o + 1) acc]
theorem patchS_nil (g : Option Seg) : patchS [] g = g := by
  cases g with
  | none => rfl
  | some g => obtain ⟨w, o, b⟩ := g; cases b <;> rfl
theorem putD_res (o : Nat) (l : List SC) (v : Option SD) (g : Option Seg) : resD (putD o l v) g = patchS (cellsD o l []) (resV v g) := by
  cases v with
  | none => rfl
  | some v => cases v with
    | gone => rfl
    | full g' => rfl
    | diff d =>
      show patchS (cellsD o l d) g = patchS (cellsD o l []) (patchS d g)
      rw [cellsD_append l o d, patchS_append]
theorem cellsD_mem : ∀ (l : List SC) (o k : Nat) (y : SC), (k, y) ∈ cellsD o l [] → o ≤ k ∧ k < o + l.length ∧ y = l.getD (k - o) .any
  | [], _, _, _, h => by cases h
  | x :: l, o, k, y, h => by
    rcases List.mem_cons.1 h with h | h
    · cases h; exact ⟨Nat.le_refl _, by simp, by simp⟩
    · obtain ⟨h1, h2, h3⟩ := cellsD_mem l (o + 1) k y h
      refine ⟨by omega, by simp; omega, ?_⟩
      rw [h3, show k - o = (k - (o + 1)) + 1 by omega]; rfl
theorem mem_fsts' {k : Nat} : ∀ {d : List (Nat × SC)}, k ∈ fsts d ↔ ∃ y, (k, y) ∈ d
  | [] => by simp [fsts]
  | p :: d => by
    have : k ∈ fsts (p :: d) ↔ k = p.1 ∨ k ∈ fsts d := List.mem_cons
    rw [this, mem_fsts' (d := d)]
    constructor
    · rintro (h | ⟨y, h⟩)
      · exact ⟨p.2, by rw [h]; exact List.mem_cons_self⟩
      · exact ⟨y, List.mem_cons_of_mem _ h⟩
    · rintro ⟨y, h⟩
      rcases List.mem_cons.1 h with h | h
      · exact .inl (by rw [← h])
      · exact .inr ⟨y, h⟩
theorem cellsD_has : ∀ (l : List SC) (o k : Nat), o ≤ k → k < o + l.length → k ∈ fsts (cellsD o l [])
  | [], o, k, h1, h2 => by simp at h2; omega
  | x :: l, o, k, h1, h2 => by
    show k ∈ o :: fsts (cellsD (o + 1) l [])
    by_cases e : k = o
    · rw [e]; exact List.mem_cons_self
    · exact List.mem_cons_of_mem _ (cellsD_has l (o + 1) k (by omega) (by simp at h2; omega))
theorem splice_patch {c l r : List SC} {o : Nat} (h : splice c o l = some r) : patch (cellsD o l []) c = r := by
  have hlen := splice_len h
  refine List.ext_getElem (by rw [patch_len, hlen]) fun k h1 h2 => ?_
  rw [← getD_lt h1, ← getD_lt h2, splice_get h k]
  have hk : k < c.length := by rw [patch_len] at h1; exact h1
  by_cases hin : o ≤ k ∧ k < o + l.length
  · rw [if_pos hin]
    exact patch_in _ _ _ _ (cellsD_has l o k hin.1 hin.2) hk fun y hy => (cellsD_mem l o k y hy).2.2
  · rw [if_neg hin]
    refine patch_out _ _ _ fun hm => hin ?_
    obtain ⟨y, hy⟩ := mem_fsts'.1 hm
    have := cellsD_mem l o k y hy
    exact ⟨this.1, this.2.1⟩
/-- A store at a known place is told of by its hint. -/
theorem hint_ok {cx : Cx} {gt : Nat → SV} {gs : Nat → Option Seg} {next : Nat} {op : Op} {e : Eff} (h : sop cx gt gs next op = some e) {i o : Nat} {l : List SC} (hh : hintOf gt op = some (i, o, l)) : e.ws = [(i, patchS (cellsD o l []) (gs i))] := by
  unfold hintOf at hh
  split at hh <;> try (cases hh; done)
  rename_i t a x
  split at hh <;> try (cases hh; done)
  rename_i i' o' hp
  split at hh <;> cases hh
  rename_i hl
  replace h : bindC (ev gt a) (fun p => oStore cx.P gs next t p (evL gt x)) = some e := h
  have hev : ev gt a = some (.c (.ptr i o)) := by
    unfold evC at hp
    split at hp <;> cases hp
    assumption
  rw [hev] at h
  replace h : oStore cx.P gs next t (.ptr i o) (evL gt x) = some e := h
  rw [hl] at h
  unfold oStore at h
  obtain ⟨j, hj, h⟩ := bindO_some h
  cases hj
  obtain ⟨g, hg, h⟩ := bindO_some h
  obtain ⟨n, _, h⟩ := bindO_some h
  obtain ⟨l', hl', h⟩ := bindO_some h
  cases hl'
  split at h <;> try (cases h; done)
  rename_i hrw
  unfold oStore2 at h
  split at h <;> try (cases h; done)
  obtain ⟨r, hr, h⟩ := bindO_some h
  cases h
  rw [hg]
  obtain ⟨w, ow, b⟩ := g
  simp only at hrw hr
  subst hrw
  cases b with
  | cells c =>
    simp only [sStore] at hr
    cases hq : splice c o l with
    | none => rw [hq] at hr; cases hr
    | some q =>
    rw [hq] at hr
    cases hr
    show [(i, some (⟨true, ow, .cells q⟩ : Seg))] = [(i, some ⟨true, ow, .cells (patch (cellsD o l []) c)⟩)]
    rw [splice_patch hq]
  | rows st n row => simp [sStore] at hr
theorem getT_applyH (T : Top) (dst : Option Tmp) (e : Eff) (h : Option (Nat × Nat × List SC)) (R : List Ly) : getT ((applyH T dst e h).ly :: R) = appT dst e (getT (T.ly :: R)) := by
  cases h with
  | none => exact getT_applyE T dst e R
  | some p =>
    obtain ⟨i, o, l⟩ := p
    cases dst with
    | none => rfl
    | some d => exact getT_setT T d e.val R
theorem getS_applyH {cx : Cx} (T : Top) (dst : Option Tmp) (e : Eff) (R : List Ly) {op : Op} {next : Nat} (h : sop cx (getT (T.ly :: R)) (getS (T.ly :: R)) next op = some e) : getS ((applyH T dst e (hintOf (getT (T.ly :: R)) op)).ly :: R) = updSs (getS (T.ly :: R)) e.ws := by
  cases hh : hintOf (getT (T.ly :: R)) op with
  | none => exact getS_applyE T dst e R
  | some p =>
    obtain ⟨i, o, l⟩ := p
    rw [hint_ok h hh]
    show _ = upd (getS (T.ly :: R)) i _
    have key : ∀ T1 : Top, T1.ly.s = T.ly.s → getS ((T1.setD i (putD o l (T.ly.s.get i))).ly :: R) = upd (getS (T.ly :: R)) i (patchS (cellsD o l []) (getS (T.ly :: R) i)) := by
      intro T1 h1
      rw [getS_setD, putD_res, ← getS_cons]
      congr 1
      funext k
      rw [getS_cons, getS_cons, h1]
    cases dst with
    | none => exact key T rfl
    | some d => exact key (T.setT d e.val) rfl
theorem applyHK_eq {β : Type} (T : Top) (dst : Option Tmp) (e : Eff) (h : Option (Nat × Nat × List SC)) (f : Top → β) : applyHK T dst e h f = f (applyH T dst e h) := by
  cases h with
  | none => exact applyK_eq T dst e f
  | some p =>
    obtain ⟨i, o, l⟩ := p
    cases dst with
    | none =>
      show Tr.setK (putD o l (T.ly.s.get i)) T.ly.s i (fun s => f ⟨⟨T.ly.t, s⟩, e.next⟩) = _
      rw [Tr.setK_eq]; rfl
    | some d =>
      show Tr.setK e.val T.ly.t d (fun t => Tr.setK (putD o l (T.ly.s.get i)) T.ly.s i (fun s => f ⟨⟨t, s⟩, e.next⟩)) = _
      rw [Tr.setK_eq, Tr.setK_eq]; rfl
theorem applyH_next (T : Top) (dst : Option Tmp) (e : Eff) (h : Option (Nat × Nat × List SC)) : (applyH T dst e h).next = e.next := by
  cases h with
  | none => rfl
  | some p => rfl

/-! ### merges of layers -/
theorem mergeTs_get (b : Bool) (l1 l2 : List Ly) (R : List Ly) : ∀ (ks : List Nat) (T : Top) (k : Nat), getT ((mergeTs b l1 l2 ks T).ly :: R) k = if k ∈ ks then mergeV b (getT l1 k) (getT l2 k) else getT (T.ly :: R) k
  | [], T, k => by simp [mergeTs]
  | j :: ks, T, k => by
    change getT ((mergeTs b l1 l2 ks (T.setT j (mergeV b (getT l1 j) (getT l2 j)))).ly :: R) k = _
    rw [mergeTs_get b l1 l2 R ks, getT_setT]
    by_cases h : k ∈ ks
    · rw [if_pos h, if_pos (List.mem_cons_of_mem _ h)]
    · rw [if_neg h]
      by_cases e : k = j
      · subst e; rw [upd_same, if_pos List.mem_cons_self]
      · rw [upd_other _ _ e, if_neg (by simp [e, h])]
theorem mergeTs_S (b : Bool) (l1 l2 : List Ly) (R : List Ly) : ∀ (ks : List Nat) (T : Top), getS ((mergeTs b l1 l2 ks T).ly :: R) = getS (T.ly :: R) ∧ (mergeTs b l1 l2 ks T).next = T.next
  | [], T => ⟨rfl, rfl⟩
  | j :: ks, T => mergeTs_S b l1 l2 R ks (T.setT j (mergeV b (getT l1 j) (getT l2 j)))
theorem mergeSs_get (b : Bool) (y1 y2 : Ly) (R : List Ly) : ∀ (ks : List Nat) (T : Top) (k : Nat), getS ((mergeSs b y1 y2 R ks T).ly :: R) k = if k ∈ ks then resD (mergeD b (y1.s.get k) (y2.s.get k) (getS (y1 :: R) k) (getS (y2 :: R) k)) (getS R k) else getS (T.ly :: R) k
  | [], T, k => by simp [mergeSs]
  | j :: ks, T, k => by
    change getS ((mergeSs b y1 y2 R ks (T.setD j (mergeD b (y1.s.get j) (y2.s.get j) (getS (y1 :: R) j) (getS (y2 :: R) j)))).ly :: R) k = _
    rw [mergeSs_get b y1 y2 R ks, getS_setD]
    by_cases h : k ∈ ks
    · rw [if_pos h, if_pos (List.mem_cons_of_mem _ h)]
    · rw [if_neg h]
      by_cases e : k = j
      · subst e; rw [upd_same, if_pos List.mem_cons_self]
      · rw [upd_other _ _ e, if_neg (by simp [e, h])]
theorem mergeSs_T (b : Bool) (y1 y2 : Ly) (R : List Ly) : ∀ (ks : List Nat) (T : Top), getT ((mergeSs b y1 y2 R ks T).ly :: R) = getT (T.ly :: R) ∧ (mergeSs b y1 y2 R ks T).next = T.next
  | [], T => ⟨rfl, rfl⟩
  | j :: ks, T => mergeSs_T b y1 y2 R ks (T.setD j (mergeD b (y1.s.get j) (y2.s.get j) (getS (y1 :: R) j) (getS (y2 :: R) j)))
theorem getT_empty (n : Nat) (R : List Ly) : getT ((Top.empty n).ly :: R) = getT R := by funext k; rw [getT_cons]; rfl
theorem getS_empty (n : Nat) (R : List Ly) : getS ((Top.empty n).ly :: R) = getS R := by funext k; rw [getS_cons]; rfl
theorem key1 {α : Type} (t : Tr α) (acc : List Nat) {k : Nat} (h : k ∉ t.keys 1 0 acc) : t.get k = none := by
  cases hg : t.get k with
  | none => rfl
  | some x => exact absurd (by have := Tr.mem_keys t 1 0 acc k x hg; simpa using this) h
theorem mergeTop_T (b : Bool) (R : List Ly) (o1 o2 : Top) (k : Nat) : getT ((mergeTop b R o1 o2).ly :: R) k = mergeV b (getT (o1.ly :: R) k) (getT (o2.ly :: R) k) ∨ (getT ((mergeTop b R o1 o2).ly :: R) k = getT (o1.ly :: R) k ∧ getT ((mergeTop b R o1 o2).ly :: R) k = getT (o2.ly :: R) k) := by
  unfold mergeTop
  rw [(mergeSs_T b _ _ R _ _).1, mergeTs_get]
  by_cases h : k ∈ o1.ly.t.keys 1 0 (o2.ly.t.keys 1 0 [])
  · rw [if_pos h]; exact .inl rfl
  · rw [if_neg h, getT_empty]
    have h1 := key1 _ _ h
    have h2 := key1 o2.ly.t [] (fun hk => h (Tr.keys_acc _ _ _ _ _ hk))
    exact .inr ⟨by rw [getT_cons, h1]; rfl, by rw [getT_cons, h2]; rfl⟩
theorem mergeTop_S (b : Bool) (R : List Ly) (o1 o2 : Top) (k : Nat) : getS ((mergeTop b R o1 o2).ly :: R) k = resD (mergeD b (o1.ly.s.get k) (o2.ly.s.get k) (getS (o1.ly :: R) k) (getS (o2.ly :: R) k)) (getS R k) ∨ (getS ((mergeTop b R o1 o2).ly :: R) k = getS (o1.ly :: R) k ∧ getS ((mergeTop b R o1 o2).ly :: R) k = getS (o2.ly :: R) k) := by
  unfold mergeTop
  rw [mergeSs_get]
  by_cases h : k ∈ o1.ly.s.keys 1 0 (o2.ly.s.keys 1 0 [])
  · rw [if_pos h]; exact .inl rfl
  · rw [if_neg h, (mergeTs_S b _ _ R _ _).1, getS_empty]
    have h1 := key1 _ _ h
    have h2 := key1 o2.ly.s [] (fun hk => h (Tr.keys_acc _ _ _ _ _ hk))
    exact .inr ⟨by rw [getS_cons, h1]; rfl, by rw [getS_cons, h2]; rfl⟩
theorem mergeTop_next (b : Bool) (R : List Ly) (o1 o2 : Top) : (mergeTop b R o1 o2).next = max o1.next o2.next := by
  unfold mergeTop
  rw [(mergeSs_T b _ _ R _ _).2, (mergeTs_S b _ _ R _ _).2]; rfl
theorem commitT_get (o : Ly) (R : List Ly) : ∀ (ks : List Nat) (T : Top) (k : Nat), getT ((commitT [o] ks T).ly :: R) k = if k ∈ ks then getT [o] k else getT (T.ly :: R) k
  | [], T, k => by simp [commitT]
  | j :: ks, T, k => by
    change getT ((commitT [o] ks (T.setT j (getT [o] j))).ly :: R) k = _
    rw [commitT_get o R ks, getT_setT]
    by_cases h : k ∈ ks
    · rw [if_pos h, if_pos (List.mem_cons_of_mem _ h)]
    · rw [if_neg h]
      by_cases e : k = j
      · subst e; rw [upd_same, if_pos List.mem_cons_self]
      · rw [upd_other _ _ e, if_neg (by simp [e, h])]
theorem commitT_S (o : Ly) (R : List Ly) : ∀ (ks : List Nat) (T : Top), getS ((commitT [o] ks T).ly :: R) = getS (T.ly :: R) ∧ (commitT [o] ks T).next = T.next
  | [], T => ⟨rfl, rfl⟩
  | j :: ks, T => commitT_S o R ks (T.setT j (getT [o] j))
theorem commitS_get (y o : Ly) (R : List Ly) : ∀ (ks : List Nat) (T : Top) (k : Nat), getS ((commitS y o ks T).ly :: R) k = if k ∈ ks then resD (commitD (y.s.get k) (o.s.get k)) (getS R k) else getS (T.ly :: R) k
  | [], T, k => by simp [commitS]
  | j :: ks, T, k => by
    change getS ((commitS y o ks (T.setD j (commitD (y.s.get j) (o.s.get j)))).ly :: R) k = _
    rw [commitS_get y o R ks, getS_setD]
    by_cases h : k ∈ ks
    · rw [if_pos h, if_pos (List.mem_cons_of_mem _ h)]
    · rw [if_neg h]
      by_cases e : k = j
      · subst e; rw [upd_same, if_pos List.mem_cons_self]
      · rw [upd_other _ _ e, if_neg (by simp [e, h])]
theorem commitS_T (y o : Ly) (R : List Ly) : ∀ (ks : List Nat) (T : Top), getT ((commitS y o ks T).ly :: R) = getT (T.ly :: R) ∧ (commitS y o ks T).next = T.next
  | [], T => ⟨rfl, rfl⟩
  | j :: ks, T => commitS_T y o R ks (T.setD j (commitD (y.s.get j) (o.s.get j)))
theorem commitD_res (t o : Option SD) (g : Option Seg) : resD (commitD t o) g = resV o (resV t g) := by
  cases o with
  | none => cases t with
    | none => exact patchS_nil g
    | some v => rfl
  | some o => cases o with
    | gone => rfl
    | full g' => rfl
    | diff d => cases t with
      | none => rfl
      | some v => cases v with
        | gone => rfl
        | full g' => rfl
        | diff d0 => exact patchS_append d d0 g
-- a key that is there, and one that is not
theorem mem_key1 {α : Type} (t : Tr α) {k : Nat} {x : α} (h : t.get k = some x) : k ∈ t.keys 1 0 [] := by
  have := Tr.mem_keys t 1 0 [] k x h; simpa using this
theorem keys_get {α : Type} : ∀ (t : Tr α) (a b : Nat) (acc : List Nat) (k : Nat), k ∈ t.keys a b acc → k ∈ acc ∨ ∃ j x, k = a * j + b ∧ t.get j = some x
  | .nil, _, _, _, _, h => .inl h
  | .node v l r, a, b, acc, k, h => by
    have sub : k ∈ l.keys (2 * a) (a + b) (r.keys (2 * a) (2 * a + b) acc) → k ∈ acc ∨ ∃ j x, k = a * j + b ∧ (Tr.node v l r).get j = some x := by
      intro h
      rcases keys_get l _ _ _ k h with h | ⟨j, x, e, hx⟩
      · rcases keys_get r _ _ _ k h with h | ⟨j, x, e, hx⟩
        · exact .inl h
        · refine .inr ⟨2 * j + 1 + 1, x, ?_, ?_⟩
          · rw [e, Nat.mul_add, Nat.mul_add, Nat.mul_comm 2 a, Nat.mul_assoc]; omega
          · rw [Tr.get_succ, if_neg (by omega), show (2 * j + 1) / 2 = j by omega]; exact hx
      · refine .inr ⟨2 * j + 1, x, ?_, ?_⟩
        · rw [e, Nat.mul_add, Nat.mul_comm 2 a, Nat.mul_assoc]; omega
        · rw [Tr.get_succ, if_pos (by omega), show 2 * j / 2 = j by omega]; exact hx
    cases v with
    | none => exact sub h
    | some y =>
      rcases List.mem_cons.1 h with h | h
      · exact .inr ⟨0, y, by rw [h]; simp, rfl⟩
      · exact sub h
theorem commit_T (T o : Top) (R : List Ly) : getT ((commit T o).ly :: R) = getT (o.ly :: T.ly :: R) := by
  funext k
  unfold commit
  rw [(commitS_T T.ly o.ly R _ _).1, commitT_get]
  by_cases h : k ∈ o.ly.t.keys 1 0 []
  · rw [if_pos h]
    rcases keys_get _ _ _ _ _ h with h' | ⟨j, x, e, hx⟩
    · simp at h'
    · have : k = j := by omega
      subst this
      rw [getT_cons, getT_cons, hx]; rfl
  · rw [if_neg h, getT_cons o.ly, key1 _ _ h]; rfl
theorem commit_S (T o : Top) (R : List Ly) : getS ((commit T o).ly :: R) = getS (o.ly :: T.ly :: R) := by
  funext k
  unfold commit
  rw [commitS_get, (commitT_S o.ly R _ _).1]
  by_cases h : k ∈ o.ly.s.keys 1 0 []
  · rw [if_pos h, commitD_res, getS_cons, getS_cons]
  · rw [if_neg h, getS_cons o.ly, key1 _ _ h]; rfl
theorem commit_next (T o : Top) : (commit T o).next = o.next := by
  unfold commit
  rw [(commitS_T T.ly o.ly [] _ _).2, (commitT_S o.ly [] _ _).2]

/-! ### weaker segments -/
structure SegLe (g g' : Seg) : Prop where
  rw : g'.rw = true → g.rw = true
  own : g'.own = true → g.own = true
  len : g'.body.len = g.body.len
  at_ : ∀ (E : EM) k v, k < g.body.len → RelC E (g.body.at k) v → RelC E (g'.body.at k) v
theorem SegLe.refl (g : Seg) : SegLe g g := ⟨id, id, rfl, fun _ _ _ _ h => h⟩
theorem mergeR_l {E : EM} {l m : List SC} {c : Nat} {v : Value} (hv : RelC E (l.getD c .any) v) : RelC E ((mergeR true l m).getD c .any) v := by
  unfold mergeR
  split
  · rename_i r hr
    have hl := mergeL_len hr
    by_cases hc : c < r.length
    · rw [mergeL_get hr c hc]
      exact RelC.mergeL' (fun _ => hv) (fun e => by cases e)
    · have : r.getD c .any = .any := by simp [List.getD, List.getElem?_eq_none (by omega : r.length ≤ c)]
      rw [this]; exact hv.any_of
  · exact hv.any_of
theorem mergeR_r {E : EM} {l m : List SC} {c : Nat} {v : Value} (hv : RelC E (m.getD c .any) v) : RelC E ((mergeR false l m).getD c .any) v := by
  unfold mergeR
  split
  · rename_i r hr
    have hl := mergeL_len hr
    by_cases hc : c < r.length
    · rw [mergeL_get hr c hc]
      exact RelC.mergeL' (fun e => by cases e) (fun _ => hv)
    · have : r.getD c .any = .any := by simp [List.getD, List.getElem?_eq_none (by omega : r.length ≤ c)]
      rw [this]; exact hv.any_of
  · exact hv.any_of
theorem mergeSeg_l {s1 s2 : Option Seg} {g : Seg} {b : Bool} (h : mergeSeg b s1 s2 = some g) (hb : b = true) : ∃ g1, s1 = some g1 ∧ SegLe g1 g := by
  unfold mergeSeg at h
  split at h <;> try (cases h; done)
  · split at h <;> cases h
    rename_i w o l w' o' m r hr
    have hl := mergeL_len hr
    refine ⟨_, rfl, fun h => (by simp at h; exact h.1), fun h => (by simp at h; exact h.1), hl.1.symm, fun E k v hk hv => ?_⟩
    simp only [SBody.at, SBody.len] at *
    rw [mergeL_get hr k (by omega)]
    exact RelC.mergeL' (fun _ => hv) (fun e => by rw [hb] at e; cases e)
  · split at h <;> cases h
    rename_i hst
    rw [beqN] at hst
    subst hst hb
    exact ⟨_, rfl, fun h => (by simp at h; exact h.1), fun h => (by simp at h; exact h.1), rfl, fun E k v hk hv => mergeR_l hv⟩
theorem mergeSeg_r {s1 s2 : Option Seg} {g : Seg} {b : Bool} (h : mergeSeg b s1 s2 = some g) (hb : b = false) : ∃ g1, s2 = some g1 ∧ SegLe g1 g := by
  unfold mergeSeg at h
  split at h <;> try (cases h; done)
  · split at h <;> cases h
    rename_i w o l w' o' m r hr
    have hl := mergeL_len hr
    refine ⟨_, rfl, fun h => (by simp at h; exact h.2), fun h => (by simp at h; exact h.2), hl.2.symm, fun E k v hk hv => ?_⟩
    simp only [SBody.at, SBody.len] at *
    rw [mergeL_get hr k (by omega)]
    exact RelC.mergeL' (fun e => by rw [hb] at e; cases e) (fun _ => hv)
  · split at h <;> cases h
    rename_i hst
    rw [beqN] at hst
    subst hst hb
    exact ⟨_, rfl, fun h => (by simp at h; exact h.2), fun h => (by simp at h; exact h.2), rfl, fun E k v hk hv => mergeR_r hv⟩
theorem mem_onceN {k : Nat} : ∀ {l : List Nat}, k ∈ l → k ∈ onceN l
  | [], h => h
  | n :: l, h => by
    show k ∈ (Bool.rec (n :: onceN l) (onceN l) (inN n (onceN l)) : List Nat)
    have ih : k ∈ l → k ∈ onceN l := mem_onceN
    have hin : ∀ {m : List Nat}, inN n m = true → n ∈ m := by
      intro m
      induction m with
      | nil => intro h; cases h
      | cons x m ihm =>
        intro h
        replace h : (Bool.rec (inN n m) true (Nat.beq n x) : Bool) = true := h
        cases hb : Nat.beq n x with
        | true => rw [beqN.1 hb]; exact List.mem_cons_self
        | false => rw [hb] at h; exact List.mem_cons_of_mem _ (ihm h)
    cases hb : inN n (onceN l) with
    | true =>
      rcases List.mem_cons.1 h with h | h
      · rw [h]; exact hin hb
      · exact ih h
    | false =>
      rcases List.mem_cons.1 h with h | h
      · rw [h]; exact List.mem_cons_self
      · exact List.mem_cons_of_mem _ (ih h)
theorem mergeAt_mem {b : Bool} {l m : List SC} {k : Nat} {y : SC} : ∀ {ps : List Nat}, (k, y) ∈ mergeAt b l m ps → y = mergeC b (l.getD k .any) (m.getD k .any)
  | [], h => by cases h
  | j :: ps, h => by
    replace h : (k, y) ∈ (j, mergeC b (l.getD j .any) (m.getD j .any)) :: mergeAt b l m ps := h
    rcases List.mem_cons.1 h with h | h
    · cases h; rfl
    · exact mergeAt_mem h
theorem mergeAt_fsts {b : Bool} {l m : List SC} : ∀ (ps : List Nat), fsts (mergeAt b l m ps) = ps
  | [] => rfl
  | j :: ps => congrArg (j :: ·) (mergeAt_fsts ps)
/-- What two layers see of one ground, cell by cell. -/
theorem mergeD_ok {b : Bool} {d1 d2 : Option SD} {g0 : Option Seg} {g' : Seg} (h : resD (mergeD b d1 d2 (resV d1 g0) (resV d2 g0)) g0 = some g') :
    (b = true → ∃ g, resV d1 g0 = some g ∧ SegLe g g') ∧ (b = false → ∃ g, resV d2 g0 = some g ∧ SegLe g g') := by
  have full : resD (mergeF b (resV d1 g0) (resV d2 g0)) g0 = some g' → (b = true → ∃ g, resV d1 g0 = some g ∧ SegLe g g') ∧ (b = false → ∃ g, resV d2 g0 = some g ∧ SegLe g g') := by
    intro h
    unfold mergeF at h
    cases hm : mergeSeg b (resV d1 g0) (resV d2 g0) with
    | none => rw [hm] at h; cases h
    | some q =>
      rw [hm] at h
      cases h
      exact ⟨mergeSeg_l hm, mergeSeg_r hm⟩
  unfold mergeD at h
  split at h
  · rename_i p1 p2 hp1 hp2
    split at h
    · rename_i w1 o1 l w2 o2 m h1 h2
      -- the ground
      have view : ∀ {d : Option SD} {p : List Nat}, posD d = some p → ∃ x, fsts x = p ∧ resV d g0 = patchS x g0 := by
        intro d p hd
        cases d with
        | none => cases hd; exact ⟨[], rfl, (patchS_nil g0).symm⟩
        | some v => cases v with
          | gone => cases hd
          | full g => cases hd
          | diff x => cases hd; exact ⟨x, rfl, rfl⟩
      obtain ⟨x1, e1, v1⟩ := view hp1
      obtain ⟨x2, e2, v2⟩ := view hp2
      rw [v1] at h1
      rw [v2] at h2
      cases g0 with
      | none => cases h1
      | some g =>
        obtain ⟨w, o, bd⟩ := g
        cases bd with
        | rows st n row => cases h1
        | cells c =>
          cases h1
          cases h2
          cases h
          have key : ∀ (x : List (Nat × SC)) (k : Nat), (fsts x = p1 ∨ fsts x = p2) → k < c.length → k ∉ onceN (p1 ++ p2) → (patch x c).getD k .any = c.getD k .any := by
            intro x k hx hk hn
            refine patch_out x c k fun hm => hn (mem_onceN ?_)
            rcases hx with hx | hx <;> rw [hx] at hm
            · exact List.mem_append_left _ hm
            · exact List.mem_append_right _ hm
          have at_ : ∀ (x : List (Nat × SC)) (hx : fsts x = p1 ∨ fsts x = p2) (hsel : ∀ (E : EM) k v, RelC E ((patch x c).getD k .any) v → RelC E (mergeC b ((patch x1 c).getD k .any) ((patch x2 c).getD k .any)) v) (E : EM) (k : Nat) (v : Value), k < (patch x c).length → RelC E ((patch x c).getD k .any) v →
              RelC E ((patch (mergeAt b (patch x1 c) (patch x2 c) (onceN (p1 ++ p2))) c).getD k .any) v := by
            intro x hx hsel E k v hk hv
            rw [patch_len] at hk
            by_cases hin : k ∈ onceN (p1 ++ p2)
            · rw [patch_in _ c k _ (by rw [mergeAt_fsts]; exact hin) hk fun y hy => mergeAt_mem hy]
              exact hsel E k v hv
            · rw [patch_out _ c k (by rw [mergeAt_fsts]; exact hin), ← key x k hx hk hin]
              exact hv
          refine ⟨fun hb => ⟨_, v1, id, id, ?_, ?_⟩, fun hb => ⟨_, v2, id, id, ?_, ?_⟩⟩
          · show (patch _ c).length = (patch x1 c).length
            rw [patch_len, patch_len]
          · exact at_ x1 (.inl e1) fun E k v hv => RelC.mergeL' (fun _ => hv) (fun e => by rw [hb] at e; cases e)
          · show (patch _ c).length = (patch x2 c).length
            rw [patch_len, patch_len]
          · exact at_ x2 (.inr e2) fun E k v hv => RelC.mergeL' (fun e => by rw [hb] at e; cases e) (fun _ => hv)
    · cases h
  · exact full h
theorem MemRel.weaken {w0 w : World} {T0 : Nat → Nat → Prop} {E : EM} {sg sg' : Nat → Option Seg} (h : MemRel w0 T0 E sg w) (hs : ∀ i g', sg' i = some g' → ∃ g, sg i = some g ∧ SegLe g g') : MemRel w0 T0 E sg' w where
  segs i g' hg' := by
    obtain ⟨g, hg, l⟩ := hs i g' hg'
    obtain ⟨b, o, z, cs, T, fr, e, s⟩ := h.segs i g hg
    refine ⟨b, o, z, cs, T, fr, e, s.heap, by rw [l.len]; exact s.le, s.fit, fun ho => s.own (l.own ho), fun hr => s.fz (l.rw hr), fun k hk => ?_⟩
    rw [l.len] at hk
    obtain ⟨v, h1, h2⟩ := s.cell k hk
    exact ⟨v, h1, l.at_ E k v hk h2⟩
  disj i j g' k' b o z b' o' z' hij hg' hk' hr := by
    obtain ⟨g, hg, l⟩ := hs i g' hg'
    obtain ⟨k, hk, m⟩ := hs j k' hk'
    exact h.disj i j g k b o z b' o' z' hij hg hk (hr.imp l.rw m.rw)
  tch i g' b o z hg' hr := by
    obtain ⟨g, hg, l⟩ := hs i g' hg'
    exact h.tch i g b o z hg (l.rw hr)
  fr := h.fr
  tab := h.tab

/-- 'T'' says no more than 'tm', 'sg'. -/
structure Le (tm : Nat → SV) (sg : Nat → Option Seg) (tm' : Nat → SV) (sg' : Nat → Option Seg) : Prop where
  tm : ∀ (E : EM) t v, RelV E (tm t) v → RelV E (tm' t) v
  sg : ∀ i g', sg' i = some g' → ∃ g, sg i = some g ∧ SegLe g g'
theorem Le.refl (tm : Nat → SV) (sg : Nat → Option Seg) : Le tm sg tm sg := ⟨fun _ _ _ h => h, fun i g h => ⟨g, h, SegLe.refl g⟩⟩
theorem SegLe.trans {a b c : Seg} (h : SegLe a b) (h' : SegLe b c) : SegLe a c :=
  ⟨fun x => h.rw (h'.rw x), fun x => h.own (h'.own x), h'.len.trans h.len, fun E k v hk hv => h'.at_ E k v (by rw [h.len]; exact hk) (h.at_ E k v hk hv)⟩
theorem Le.trans {tm tm' tm'' : Nat → SV} {sg sg' sg'' : Nat → Option Seg} (h : Le tm sg tm' sg') (h' : Le tm' sg' tm'' sg'') : Le tm sg tm'' sg'' :=
  ⟨fun E t v hv => h'.tm E t v (h.tm E t v hv), fun i g'' hg => by
    obtain ⟨g', h1, h2⟩ := h'.sg i g'' hg
    obtain ⟨g, h3, h4⟩ := h.sg i g' h1
    exact ⟨g, h3, h4.trans h2⟩⟩
theorem mergeTop_le1 (R : List Ly) (o1 o2 : Top) {b : Bool} (hb : b = true) : Le (getT (o1.ly :: R)) (getS (o1.ly :: R)) (getT ((mergeTop b R o1 o2).ly :: R)) (getS ((mergeTop b R o1 o2).ly :: R)) := by
  refine ⟨fun E t v hv => ?_, fun i g' hg' => ?_⟩
  · rcases mergeTop_T b R o1 o2 t with h | ⟨h, _⟩
    · rw [h]; exact RelV.merge (fun _ => hv) (fun e => by rw [hb] at e; cases e)
    · rw [h]; exact hv
  · rcases mergeTop_S b R o1 o2 i with h | ⟨h, _⟩
    · rw [h, getS_cons, getS_cons] at hg'
      rw [getS_cons]
      exact (mergeD_ok hg').1 hb
    · rw [h] at hg'; exact ⟨g', hg', SegLe.refl _⟩
theorem mergeTop_le2 (R : List Ly) (o1 o2 : Top) {b : Bool} (hb : b = false) : Le (getT (o2.ly :: R)) (getS (o2.ly :: R)) (getT ((mergeTop b R o1 o2).ly :: R)) (getS ((mergeTop b R o1 o2).ly :: R)) := by
  refine ⟨fun E t v hv => ?_, fun i g' hg' => ?_⟩
  · rcases mergeTop_T b R o1 o2 t with h | ⟨_, h⟩
    · rw [h]; exact RelV.merge (fun e => by rw [hb] at e; cases e) (fun _ => hv)
    · rw [h]; exact hv
  · rcases mergeTop_S b R o1 o2 i with h | ⟨_, h⟩
    · rw [h, getS_cons, getS_cons] at hg'
      rw [getS_cons]
      exact (mergeD_ok hg').2 hb
    · rw [h] at hg'; exact ⟨g', hg', SegLe.refl _⟩
theorem commit_le (T o : Top) (R : List Ly) : Le (getT (o.ly :: T.ly :: R)) (getS (o.ly :: T.ly :: R)) (getT ((commit T o).ly :: R)) (getS ((commit T o).ly :: R)) := by
  rw [commit_T, commit_S]; exact Le.refl _ _

end Go.Proofs.YtaodbpejeglmlaaDoor
