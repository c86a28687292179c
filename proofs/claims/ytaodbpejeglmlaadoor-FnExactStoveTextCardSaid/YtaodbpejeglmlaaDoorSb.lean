/- What the executor's values say of the model's values, what its memory says of a world. Nothing is assumed. -/
import Derived.Test.YtaodbpejeglmlaaDoorSa
namespace Go.Proofs.YtaodbpejeglmlaaDoor
open Go

theorem beqN {a b : Nat} : Nat.beq a b = true ↔ a = b := ⟨Nat.eq_of_beq_eq_true, fun h => by subst h; exact Nat.beq_refl a⟩

/-! ### values -/
/-- The place of each segment: its block, where it begins, how many cells it may take. -/
abbrev EM := Nat → Option (Nat × Nat × Nat)
def FR (k : FloatKind) (x : Nat) (v : Value) : Prop := ∃ r, v = .float k r ∧ r < 2 ^ k.format.width ∧ can k r = x
def RelC (E : EM) : SC → Value → Prop
  | .any, v => v.oneCell' = true
  | .bool b, v => v = .bool b.val
  | .int k n, v => v = .int k n.val
  | .flt k x, v => FR k x v
  | .str s, v => v = .string s
  | .nilp, v => v = .pointer none
  | .ptr id off, v => ∃ b o z, E id = some (b, o, z) ∧ v = .pointer (some ⟨b, o + off, none⟩)
  | .ptrx id off st cnt idx, v => ∃ b o z, E id = some (b, o, z) ∧ ∃ i : Nat, idx = i ∧ i < cnt ∧ v = .pointer (some ⟨b, o + off + i * st, none⟩)
  | .ptrr id off st idx, v => ∃ b o z, E id = some (b, o, z) ∧ ∃ i : Nat, idx = i ∧ v = .pointer (some ⟨b, o + off + i * st, none⟩)
  | .sl id off es len full, v => ∃ base n cap, v = .slice base n cap ∧ len.val = (n : Nat) ∧ n ≤ cap ∧ (base = none → cap = 0) ∧
      ∀ a, base = some a → id ≠ 0 ∧ ∃ b o z, E id = some (b, o, z) ∧ (cap ≠ 0 → a = ⟨b, o + off, none⟩) ∧ (full = true → off + cap * es = z)
  | .slr id es idx len, v => ∃ base n cap, v = .slice base n cap ∧ len = (n : Nat) ∧ n ≤ cap ∧ (base = none → cap = 0) ∧ ∃ i : Nat, idx = i ∧ ∀ a, base = some a → ∃ b o z, E id = some (b, o, z) ∧ (cap ≠ 0 → a = ⟨b, o + i * es, none⟩)
def RelL (E : EM) : List SC → List Value → Prop
  | [], [] => True
  | x :: l, v :: m => RelC E x v ∧ RelL E l m
  | _, _ => False
def RelE (E : EM) : SE → Value → Prop
  | .c x, v => RelC E x v
  | .a l, v => ∃ vs : Array Value, v = .agg vs ∧ RelL E l vs.toList
def RelEs (E : EM) : List SE → List Value → Prop
  | [], [] => True
  | x :: l, v :: m => RelE E x v ∧ RelEs E l m
  | _, _ => False
def RelV (E : EM) : SV → Value → Prop
  | .any, _ => True
  | .undef, v => v = undef
  | .c x, v => RelC E x v
  | .a l, v => ∃ vs : Array Value, v = .agg vs ∧ RelL E l vs.toList
  | .tup l, v => ∃ vs : Array Value, v = .tuple vs ∧ RelEs E l vs.toList
def RelVs (E : EM) : List SV → List Value → Prop
  | [], [] => True
  | x :: l, v :: m => RelV E x v ∧ RelVs E l m
  | _, _ => False

def Ext (E E' : EM) : Prop := ∀ i x, E i = some x → E' i = some x
theorem Ext.refl (E : EM) : Ext E E := fun _ _ h => h
theorem Ext.trans {E E' E'' : EM} (h : Ext E E') (h' : Ext E' E'') : Ext E E'' := fun i x e => h' i x (h i x e)

theorem RelC.mono {E E' : EM} (h : Ext E E') : ∀ {x : SC} {v : Value}, RelC E x v → RelC E' x v
  | .any, _, r => r
  | .bool _, _, r => r
  | .int _ _, _, r => r
  | .flt _ _, _, r => r
  | .str _, _, r => r
  | .nilp, _, r => r
  | .ptr _ _, _, ⟨b, o, z, e, r⟩ => ⟨b, o, z, h _ _ e, r⟩
  | .ptrx _ _ _ _ _, _, ⟨b, o, z, e, r⟩ => ⟨b, o, z, h _ _ e, r⟩
  | .ptrr _ _ _ _, _, ⟨b, o, z, e, r⟩ => ⟨b, o, z, h _ _ e, r⟩
  | .sl _ _ _ _ _, _, ⟨base, n, cap, hv, hn, hc, h0, h1⟩ => ⟨base, n, cap, hv, hn, hc, h0, fun a ha => let ⟨g, b, o, z, e, r⟩ := h1 a ha; ⟨g, b, o, z, h _ _ e, r⟩⟩
  | .slr _ _ _ _, _, ⟨base, n, cap, hv, hn, hc, h0, i, hi, h1⟩ => ⟨base, n, cap, hv, hn, hc, h0, i, hi, fun a ha => let ⟨b, o, z, e, r⟩ := h1 a ha; ⟨b, o, z, h _ _ e, r⟩⟩
theorem RelL.mono {E E' : EM} (h : Ext E E') : ∀ {l : List SC} {m : List Value}, RelL E l m → RelL E' l m
  | [], [], _ => trivial
  | _ :: _, _ :: _, r => ⟨r.1.mono h, RelL.mono h r.2⟩
  | [], _ :: _, r => r
  | _ :: _, [], r => r
theorem RelE.mono {E E' : EM} (h : Ext E E') : ∀ {x : SE} {v : Value}, RelE E x v → RelE E' x v
  | .c _, _, r => RelC.mono h r
  | .a _, _, ⟨vs, hv, r⟩ => ⟨vs, hv, r.mono h⟩
theorem RelEs.mono {E E' : EM} (h : Ext E E') : ∀ {l : List SE} {m : List Value}, RelEs E l m → RelEs E' l m
  | [], [], _ => trivial
  | _ :: _, _ :: _, r => ⟨r.1.mono h, RelEs.mono h r.2⟩
  | [], _ :: _, r => r
  | _ :: _, [], r => r
theorem RelV.mono {E E' : EM} (h : Ext E E') : ∀ {x : SV} {v : Value}, RelV E x v → RelV E' x v
  | .any, _, _ => trivial
  | .undef, _, r => r
  | .c _, _, r => RelC.mono h r
  | .a _, _, ⟨vs, hv, r⟩ => ⟨vs, hv, r.mono h⟩
  | .tup _, _, ⟨vs, hv, r⟩ => ⟨vs, hv, r.mono h⟩
theorem RelVs.mono {E E' : EM} (h : Ext E E') : ∀ {l : List SV} {m : List Value}, RelVs E l m → RelVs E' l m
  | [], [], _ => trivial
  | _ :: _, _ :: _, r => ⟨r.1.mono h, RelVs.mono h r.2⟩
  | [], _ :: _, r => r
  | _ :: _, [], r => r

theorem RelC.one {E : EM} : ∀ {x : SC} {v : Value}, RelC E x v → v.oneCell' = true
  | .any, _, r => r
  | .bool _, _, r => by cases r; rfl
  | .int _ _, _, r => by cases r; rfl
  | .flt _ _, _, ⟨_, r, _⟩ => by cases r; rfl
  | .str _, _, r => by cases r; rfl
  | .nilp, _, r => by cases r; rfl
  | .ptr _ _, _, ⟨_, _, _, _, r⟩ => by cases r; rfl
  | .ptrx _ _ _ _ _, _, ⟨_, _, _, _, _, _, _, r⟩ => by cases r; rfl
  | .ptrr _ _ _ _, _, ⟨_, _, _, _, _, _, r⟩ => by cases r; rfl
  | .sl _ _ _ _ _, _, ⟨_, _, _, r, _⟩ => by cases r; rfl
  | .slr _ _ _ _, _, ⟨_, _, _, r, _⟩ => by cases r; rfl
theorem cells_of_one {v : Value} (h : v.oneCell' = true) : v.cells = #[v] := by
  cases v <;> first | rfl | (simp [Value.oneCell'] at h)
theorem RelL.len {E : EM} : ∀ {l : List SC} {m : List Value}, RelL E l m → l.length = m.length
  | [], [], _ => rfl
  | _ :: _, _ :: _, r => by simp [RelL.len r.2]
  | [], _ :: _, r => r.elim
  | _ :: _, [], r => r.elim
theorem RelL.get {E : EM} : ∀ {l : List SC} {m : List Value}, RelL E l m → ∀ k (h : k < l.length), ∃ v, m[k]? = some v ∧ RelC E (l[k]'h) v
  | [], _, _, k, h => by simp at h
  | x :: l, [], r, _, _ => r.elim
  | x :: l, v :: m, r, 0, _ => ⟨v, rfl, r.1⟩
  | x :: l, v :: m, r, k + 1, h => by
    obtain ⟨u, h1, h2⟩ := RelL.get r.2 k (by simpa using h)
    exact ⟨u, by simpa using h1, by simpa using h2⟩
theorem RelL.of_get {E : EM} : ∀ {l : List SC} {m : List Value}, l.length = m.length → (∀ k (h : k < l.length), ∃ v, m[k]? = some v ∧ RelC E (l[k]'h) v) → RelL E l m
  | [], [], _, _ => trivial
  | [], _ :: _, h, _ => by simp at h
  | _ :: _, [], h, _ => by simp at h
  | x :: l, v :: m, h, r => by
    refine ⟨?_, RelL.of_get (by simpa using h) fun k hk => ?_⟩
    · obtain ⟨u, h1, h2⟩ := r 0 (by simp)
      simp only [List.getElem?_cons_zero, Option.some.injEq] at h1
      subst h1; exact h2
    · obtain ⟨u, h1, h2⟩ := r (k + 1) (by simpa using hk)
      exact ⟨u, by simpa using h1, by simpa using h2⟩
theorem RelL.append {E : EM} : ∀ {l l' : List SC} {m m' : List Value}, RelL E l m → RelL E l' m' → RelL E (l ++ l') (m ++ m')
  | [], _, [], _, _, h => h
  | [], _, _ :: _, _, r, _ => r.elim
  | _ :: _, _, [], _, r, _ => r.elim
  | _ :: _, _, _ :: _, _, r, h => ⟨r.1, RelL.append r.2 h⟩
theorem RelL.one {E : EM} : ∀ {l : List SC} {m : List Value}, RelL E l m → ∀ v ∈ m, v.oneCell' = true
  | [], [], _, v, h => by simp at h
  | [], _ :: _, r, _, _ => r.elim
  | _ :: _, [], r, _, _ => r.elim
  | _ :: _, u :: m, r, v, h => by
    rcases List.mem_cons.1 h with h | h
    · subst h; exact r.1.one
    · exact RelL.one r.2 v h

/-! ### merges -/
theorem mergeSB_val (b : Bool) (x y : SB) : (mergeSB b x y).val = bif b then x.val else y.val := by
  cases x <;> cases y <;> cases b <;> rfl
theorem mergeSI_val (b : Bool) (x y : SI) : (mergeSI b x y).val = bif b then x.val else y.val := by
  cases x <;> cases y <;> try rfl
  rename_i m n
  simp only [mergeSI]
  by_cases h : m = n
  · subst h; simp [SI.val]
  · simp [h, SI.val]
theorem RelC.any_of {E : EM} {x : SC} {v : Value} (h : RelC E x v) : RelC E .any v := h.one
theorem RelC.mergeL' {E : EM} {b : Bool} {x y : SC} {v : Value} (hx : b = true → RelC E x v) (hy : b = false → RelC E y v) : RelC E (mergeC b x y) v := by
  cases b
  all_goals
    first | (replace hx := hx rfl; clear hy) | (replace hy := hy rfl; clear hx)
    cases x <;> cases y <;> simp only [mergeC] <;> first | (exact hx.any_of) | (exact hy.any_of) | skip
    all_goals first | (simp only [RelC, mergeSB_val, cond_true, cond_false] at *; assumption) | skip
    all_goals split <;> first | (exact hx.any_of) | (exact hy.any_of) | skip
    all_goals first
      | (rename_i hk
         simp only [decide_eq_true_eq] at hk
         subst hk; simp only [RelC, mergeSI_val, cond_true, cond_false] at *; assumption)
      | (rename_i hk
         simp only [Bool.and_eq_true, beqN] at hk
         obtain ⟨rfl, rfl⟩ := hk; simp only [RelC, mergeSI_val, cond_true, cond_false] at *; assumption)
      | (rename_i hk
         simp only [Bool.and_eq_true, beqN] at hk
         obtain ⟨⟨rfl, rfl⟩, rfl⟩ := hk
         simp only [RelC, mergeSI_val, cond_true, cond_false, Bool.and_eq_true] at *
         first
           | (obtain ⟨base, n, cap, h1, h2, h3, h4, h5⟩ := hx
              exact ⟨base, n, cap, h1, h2, h3, h4, fun a ha => let ⟨g, b, o, z, e1, e2, e3⟩ := h5 a ha; ⟨g, b, o, z, e1, e2, fun hf => e3 hf.1⟩⟩)
           | (obtain ⟨base, n, cap, h1, h2, h3, h4, h5⟩ := hy
              exact ⟨base, n, cap, h1, h2, h3, h4, fun a ha => let ⟨g, b, o, z, e1, e2, e3⟩ := h5 a ha; ⟨g, b, o, z, e1, e2, fun hf => e3 hf.2⟩⟩))
      | skip
    all_goals
      split
      · rename_i h0
        simp only [beqN] at h0
        subst h0
        simp only [RelC, mergeSI_val, cond_true, cond_false] at *
        first
          | (obtain ⟨base, n, cap, h1, h2, h3, h4, h5⟩ := hx
             exact ⟨base, n, cap, h1, h2, h3, h4, fun a ha => absurd rfl (h5 a ha).1⟩)
          | exact hy
      · split
        · rename_i h0
          simp only [beqN] at h0
          subst h0
          simp only [RelC, mergeSI_val, cond_true, cond_false] at *
          first
            | (obtain ⟨base, n, cap, h1, h2, h3, h4, h5⟩ := hy
               exact ⟨base, n, cap, h1, h2, h3, h4, fun a ha => absurd rfl (h5 a ha).1⟩)
            | exact hx
        · first | (exact hx.any_of) | (exact hy.any_of)
theorem mergeL_len {b : Bool} : ∀ {l m r : List SC}, mergeL b l m = some r → l.length = r.length ∧ m.length = r.length
  | [], [], r, h => by cases h; exact ⟨rfl, rfl⟩
  | [], _ :: _, r, h => by cases h
  | _ :: _, [], r, h => by cases h
  | x :: l, y :: m, r, h => by
    change (Option.rec none (fun r => some (mergeC b x y :: r)) (mergeL b l m) : Option (List SC)) = some r at h
    cases hm : mergeL b l m with
    | none => rw [hm] at h; cases h
    | some q => rw [hm] at h; cases h; have := mergeL_len hm; simp [this]
theorem RelL.merge {E : EM} {b : Bool} : ∀ {l m r : List SC} {vs : List Value}, mergeL b l m = some r → (b = true → RelL E l vs) → (b = false → RelL E m vs) → RelL E r vs
  | [], [], r, vs, h, hx, hy => by cases h; cases b <;> simp_all
  | [], _ :: _, r, vs, h, hx, hy => by cases h
  | _ :: _, [], r, vs, h, hx, hy => by cases h
  | x :: l, y :: m, r, vs, h, hx, hy => by
    change (Option.rec none (fun r => some (mergeC b x y :: r)) (mergeL b l m) : Option (List SC)) = some r at h
    cases hm : mergeL b l m with
    | none => rw [hm] at h; cases h
    | some q =>
      rw [hm] at h; cases h
      cases vs with
      | nil => cases b <;> simp_all [RelL]
      | cons v vs => exact ⟨RelC.mergeL' (fun hb => (hx hb).1) (fun hb => (hy hb).1), RelL.merge hm (fun hb => (hx hb).2) (fun hb => (hy hb).2)⟩
theorem RelE.merge {E : EM} {b : Bool} {x y z : SE} {v : Value} (h : mergeE b x y = some z) (hx : b = true → RelE E x v) (hy : b = false → RelE E y v) : RelE E z v := by
  cases x <;> cases y <;> simp only [mergeE] at h <;> try (cases h; done)
  · cases h; exact RelC.mergeL' hx hy
  · split at h
    · rename_i l m r hr; cases h
      cases b
      · obtain ⟨vs, h1, h2⟩ := hy rfl; exact ⟨vs, h1, RelL.merge hr (fun e => by cases e) (fun _ => h2)⟩
      · obtain ⟨vs, h1, h2⟩ := hx rfl; exact ⟨vs, h1, RelL.merge hr (fun _ => h2) (fun e => by cases e)⟩
    · cases h
theorem RelEs.merge {E : EM} {b : Bool} : ∀ {l m r : List SE} {vs : List Value}, mergeEs b l m = some r → (b = true → RelEs E l vs) → (b = false → RelEs E m vs) → RelEs E r vs
  | [], [], r, vs, h, hx, hy => by cases h; cases b <;> simp_all
  | [], _ :: _, r, vs, h, hx, hy => by cases h
  | _ :: _, [], r, vs, h, hx, hy => by cases h
  | x :: l, y :: m, r, vs, h, hx, hy => by
    simp only [mergeEs] at h
    split at h <;> try (cases h; done)
    split at h <;> try (cases h; done)
    rename_i z hz _ q hq
    cases h
    cases vs with
    | nil => cases b <;> simp_all [RelEs]
    | cons v vs => exact ⟨RelE.merge hz (fun hb => (hx hb).1) (fun hb => (hy hb).1), RelEs.merge hq (fun hb => (hx hb).2) (fun hb => (hy hb).2)⟩
theorem RelV.merge {E : EM} {b : Bool} {x y : SV} {v : Value} (hx : b = true → RelV E x v) (hy : b = false → RelV E y v) : RelV E (mergeV b x y) v := by
  cases x <;> cases y <;> simp only [mergeV] <;> try trivial
  · cases b
    · exact hy rfl
    · exact hx rfl
  · exact RelC.mergeL' hx hy
  · split
    · rename_i r hr
      cases b
      · obtain ⟨vs, h1, h2⟩ := hy rfl; exact ⟨vs, h1, RelL.merge hr (fun e => by cases e) (fun _ => h2)⟩
      · obtain ⟨vs, h1, h2⟩ := hx rfl; exact ⟨vs, h1, RelL.merge hr (fun _ => h2) (fun e => by cases e)⟩
    · trivial
  · split
    · rename_i r hr
      cases b
      · obtain ⟨vs, h1, h2⟩ := hy rfl; exact ⟨vs, h1, RelEs.merge hr (fun e => by cases e) (fun _ => h2)⟩
      · obtain ⟨vs, h1, h2⟩ := hx rfl; exact ⟨vs, h1, RelEs.merge hr (fun _ => h2) (fun e => by cases e)⟩
    · trivial

/-! ### the lists of cells -/
theorem RelL.take {E : EM} : ∀ {l : List SC} {n : Nat} {r : List SC} {vs : List Value}, takeL l n = some r → RelL E l vs → RelL E r (vs.take n) ∧ r.length = n
  | [], 0, r, vs, h, _ => by cases h; simp [RelL]
  | x :: l, 0, r, vs, h, _ => by cases h; simp [RelL]
  | [], _ + 1, r, vs, h, _ => by cases h
  | x :: l, n + 1, r, vs, h, hr => by
    change (Option.rec none (fun r => some (x :: r)) (takeL l n) : Option (List SC)) = some r at h
    cases hm : takeL l n with
    | none => rw [hm] at h; cases h
    | some q =>
      rw [hm] at h; cases h
      cases vs with
      | nil => exact hr.elim
      | cons v vs => have := RelL.take hm hr.2; exact ⟨⟨hr.1, this.1⟩, by simp [this.2]⟩
theorem RelL.drop {E : EM} : ∀ {l : List SC} {n : Nat} {vs : List Value}, RelL E l vs → RelL E (dropL l n) (vs.drop n)
  | [], n, [], _ => by cases n <;> simp [dropL, RelL]
  | [], _, _ :: _, h => h.elim
  | _ :: _, _, [], h => h.elim
  | x :: l, 0, v :: vs, h => h
  | x :: l, n + 1, v :: vs, h => RelL.drop (l := l) (n := n) (vs := vs) h.2
theorem RelL.part {E : EM} {l r : List SC} {o n : Nat} {vs : List Value} (h : part l o n = some r) (hr : RelL E l vs) : RelL E r ((vs.drop o).take n) ∧ r.length = n :=
  RelL.take h hr.drop
theorem dropL_len : ∀ (l : List SC) (n : Nat), (dropL l n).length = l.length - n
  | [], n => by cases n <;> simp [dropL]
  | _ :: _, 0 => rfl
  | x :: l, n + 1 => by
    change (dropL l n).length = _
    rw [dropL_len l n]; simp
theorem takeL_le : ∀ {l : List SC} {n : Nat} {r : List SC}, takeL l n = some r → n ≤ l.length
  | _, 0, _, _ => Nat.zero_le _
  | [], _ + 1, r, h => by cases h
  | x :: l, n + 1, r, h => by
    change (Option.rec none (fun r => some (x :: r)) (takeL l n) : Option (List SC)) = some r at h
    cases hm : takeL l n with
    | none => rw [hm] at h; cases h
    | some q => have := takeL_le hm; simpa using this
theorem part_le {l r : List SC} {o n : Nat} (h : part l o n = some r) : o + n ≤ l.length ∨ n = 0 := by
  have := takeL_le h
  rw [dropL_len] at this
  omega
/-- What 'splice' does to the values. -/
theorem RelL.splice {E : EM} : ∀ {l : List SC} {o : Nat} {new r : List SC} {vs us : List Value}, splice l o new = some r → RelL E l vs → RelL E new us → RelL E r (vs.take o ++ us ++ vs.drop (o + us.length)) ∧ r.length = l.length
  | [], o, [], r, vs, us, h, h1, h2 => by
    cases h; cases vs <;> cases us <;> simp_all [RelL]
  | [], o, _ :: _, r, vs, us, h, h1, h2 => by cases h
  | x :: l, o, [], r, vs, us, h, h1, h2 => by
    cases h; cases us with
    | nil => simpa using h1
    | cons _ _ => exact h2.elim
  | x :: l, 0, y :: new, r, vs, us, h, h1, h2 => by
    change (Option.rec none (fun r => some (y :: r)) (Proofs.YtaodbpejeglmlaaDoor.splice l 0 new) : Option (List SC)) = some r at h
    cases hm : Proofs.YtaodbpejeglmlaaDoor.splice l 0 new with
    | none => rw [hm] at h; cases h
    | some q =>
      rw [hm] at h; cases h
      cases vs with
      | nil => exact h1.elim
      | cons v vs => cases us with
        | nil => exact h2.elim
        | cons u us =>
          have := RelL.splice hm h1.2 h2.2
          simp only [List.take_zero, List.nil_append, Nat.zero_add] at this
          exact ⟨by simpa using ⟨h2.1, this.1⟩, by simp [this.2]⟩
  | x :: l, o + 1, y :: new, r, vs, us, h, h1, h2 => by
    change (Option.rec none (fun r => some (x :: r)) (Proofs.YtaodbpejeglmlaaDoor.splice l o (y :: new)) : Option (List SC)) = some r at h
    cases hm : Proofs.YtaodbpejeglmlaaDoor.splice l o (y :: new) with
    | none => rw [hm] at h; cases h
    | some q =>
      rw [hm] at h; cases h
      cases vs with
      | nil => exact h1.elim
      | cons v vs =>
        have := RelL.splice hm h1.2 h2
        refine ⟨?_, by simp [this.2]⟩
        rw [show o + 1 + us.length = (o + us.length) + 1 by omega]
        have e : RelL E q (vs.take o ++ us ++ vs.drop (o + us.length)) := this.1
        exact (⟨h1.1, e⟩ : RelL E (x :: q) (v :: (vs.take o ++ us ++ vs.drop (o + us.length))))
theorem splice_le : ∀ {l : List SC} {o : Nat} {new r : List SC}, splice l o new = some r → new = [] ∨ o + new.length ≤ l.length
  | _, _, [], _, _ => .inl rfl
  | [], _, _ :: _, r, h => by cases h
  | x :: l, 0, y :: new, r, h => by
    change (Option.rec none (fun r => some (y :: r)) (Proofs.YtaodbpejeglmlaaDoor.splice l 0 new) : Option (List SC)) = some r at h
    cases hm : Proofs.YtaodbpejeglmlaaDoor.splice l 0 new with
    | none => rw [hm] at h; cases h
    | some q =>
      rcases splice_le hm with h' | h'
      · subst h'; right; simp
      · right; simp at *; omega
  | x :: l, o + 1, y :: new, r, h => by
    change (Option.rec none (fun r => some (x :: r)) (Proofs.YtaodbpejeglmlaaDoor.splice l o (y :: new)) : Option (List SC)) = some r at h
    cases hm : Proofs.YtaodbpejeglmlaaDoor.splice l o (y :: new) with
    | none => rw [hm] at h; cases h
    | some q =>
      rcases splice_le hm with h' | h'
      · cases h'
      · right; simp at *; omega
theorem svOfC_ok {E : EM} {v : Value} {x : SC} (h : svOfC v = some x) : RelC E x v := by
  unfold svOfC at h
  split at h
  · cases h; rfl
  · cases h; rfl
  · cases h; rfl
  · rename_i k b
    split at h
    · cases h
    · rename_i hn; cases h
      simp only [Bool.or_eq_false_iff, Bool.not_eq_false', Nat.ble_eq] at hn
      exact ⟨b, rfl, by omega, by simp [can, hn.1]⟩
  · cases h; rfl
  · cases h; rfl
  · cases h; exact ⟨none, 0, 0, rfl, rfl, Nat.le_refl _, fun _ => rfl, fun a ha => by cases ha⟩
  · cases h

end Go.Proofs.YtaodbpejeglmlaaDoor
