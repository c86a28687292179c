/- A call that is made with ids of its own. Nothing is assumed. -/
import Derived.Test.YtaodbpejeglmlaaDoorLp
namespace Go.Proofs.YtaodbpejeglmlaaDoor
open Go
noncomputable section

def rnI (f : Nat → Option Nat) (i : Nat) : Option Nat :=
  match Nat.beq i 0 with
  | true => none
  | false => f i
def rnC (f : Nat → Option Nat) : SC → Option SC
  | .any => some .any
  | .bool b => some (.bool b)
  | .int k n => some (.int k n)
  | .flt k x => some (.flt k x)
  | .str s => some (.str s)
  | .nilp => some .nilp
  | .ptr i o => bindO (rnI f i) fun j => some (.ptr j o)
  | .ptrx i o st c x => bindO (rnI f i) fun j => some (.ptrx j o st c x)
  | .ptrr i o st x => bindO (rnI f i) fun j => some (.ptrr j o st x)
  | .sl i o es n fu => match Nat.beq i 0 with
    | true => some (.sl 0 o es n fu)
    | false => bindO (f i) fun j => some (.sl j o es n fu)
  | .slr _ _ _ _ => none
def rnL (f : Nat → Option Nat) (l : List SC) : Option (List SC) :=
  List.rec (motive := fun _ => Option (List SC)) (some []) (fun x _ ih => bindO (rnC f x) fun a => bindO ih fun b => some (a :: b)) l
def rnE (f : Nat → Option Nat) : SE → Option SE
  | .c x => bindO (rnC f x) fun y => some (.c y)
  | .a l => bindO (rnL f l) fun y => some (.a y)
def rnEs (f : Nat → Option Nat) (l : List SE) : Option (List SE) :=
  List.rec (motive := fun _ => Option (List SE)) (some []) (fun x _ ih => bindO (rnE f x) fun a => bindO ih fun b => some (a :: b)) l
def rnV (f : Nat → Option Nat) : SV → Option SV
  | .any => some .any
  | .undef => some .undef
  | .c x => bindO (rnC f x) fun y => some (.c y)
  | .a l => bindO (rnL f l) fun y => some (.a y)
  | .tup l => bindO (rnEs f l) fun y => some (.tup y)
def rnVs (f : Nat → Option Nat) (l : List SV) : Option (List SV) :=
  List.rec (motive := fun _ => Option (List SV)) (some []) (fun x _ ih => bindO (rnV f x) fun a => bindO ih fun b => some (a :: b)) l
def rnS (f : Nat → Option Nat) (g : Seg) : Option (Seg × List Bool) :=
  match g.body with
  | .cells l => bindO (rnL f l) fun m => some (⟨g.rw, g.own, .cells m⟩, [])
  | .rows st n row => some (⟨g.rw, g.own, .rows st n row⟩, [flatR row])
def rnRd (f : Nat → Option Nat) (l : List (Nat × Seg)) : Option (List (Nat × Seg) × List Bool) :=
  List.rec (motive := fun _ => Option (List (Nat × Seg) × List Bool)) (some ([], [])) (fun p _ ih => bindO (f p.1) fun i => bindO (rnS f p.2) fun a => bindO ih fun b => some ((i, a.1) :: b.1, a.2 ++ b.2)) l
def rnWs (f : Nat → Option Nat) (l : List (Nat × Option Seg)) : Option (List (Nat × Option Seg) × List Bool) :=
  List.rec (motive := fun _ => Option (List (Nat × Option Seg) × List Bool)) (some ([], [])) (fun p _ ih => bindO (f p.1) fun i => match p.2 with
    | some g => bindO (rnS f g) fun a => bindO ih fun b => some ((i, some a.1) :: b.1, a.2 ++ b.2)
    | none => bindO ih fun b => some ((i, none) :: b.1, b.2)) l
def posOf : List Nat → Nat → Nat → Option Nat
  | [], _, _ => none
  | k :: l, i, n => match Nat.beq i k with
    | true => some n
    | false => posOf l i (n + 1)
def nthN : List Nat → Nat → Option Nat
  | [], _ => none
  | i :: l, n => Nat.rec (motive := fun _ => Option Nat) (some i) (fun m _ => nthN l m) n
def distN : List Nat → Bool
  | [] => true
  | i :: l => !memN i l && distN l
/-- From the ids of a call's own to those outside. -/
def backN (ids : List Nat) (m base hi j : Nat) : Option Nat :=
  match Nat.beq j 0 with
  | true => none
  | false => match Nat.ble j m with
    | true => nthN ids (j - 1)
    | false => match Nat.ble (j + 1) hi with
      | true => some (base + (j - (m + 1)))
      | false => none
/-- 'S', with the ids that are handed to it called 1, 2, .. -/
def canS (S : CS) : CS := fun base args rd =>
  match (fstsN rd).all (fun i => Nat.ble (i + 1) base && Nat.ble 1 i) && distN (fstsN rd) with
  | false => none
  | true => bindO (rnVs (fun i => posOf (fstsN rd) i 1) args) fun args' => bindO (rnRd (fun i => posOf (fstsN rd) i 1) rd) fun rd' => bindO (S ((fstsN rd).length + 1) args' rd'.1) fun e =>
    match Nat.ble ((fstsN rd).length + 1) e.next with
    | false => none
    | true => bindO (rnV (backN (fstsN rd) (fstsN rd).length base e.next) e.ret) fun ret => bindO (rnWs (backN (fstsN rd) (fstsN rd).length base e.next) e.ws) fun ws =>
      some ⟨ret, ws.1, base + (e.next - ((fstsN rd).length + 1)), rd'.2 ++ (ws.2 ++ e.obs)⟩

section
variable {f : Nat → Option Nat} {E E' : EM}
/-- 'f' leads from 'E' to 'E''. -/
def Leads (f : Nat → Option Nat) (E E' : EM) : Prop := ∀ i j, i ≠ 0 → f i = some j → E' j = E i ∧ j ≠ 0
theorem rnI_some {i j : Nat} (h : rnI f i = some j) : i ≠ 0 ∧ f i = some j := by
  unfold rnI at h
  split at h
  · cases h
  · rename_i hb; exact ⟨fun e => by (rw [beqN.2 e] at hb; cases hb), h⟩
theorem rnC_ok (hf : Leads f E E') {x y : SC} {v : Value} (h : rnC f x = some y) (hv : RelC E x v) : RelC E' y v := by
  cases x with
  | any => cases h; exact hv
  | bool => cases h; exact hv
  | int => cases h; exact hv
  | flt => cases h; exact hv
  | str => cases h; exact hv
  | nilp => cases h; exact hv
  | ptr i o =>
    obtain ⟨j, hj, h⟩ := bindO_some h
    cases h
    obtain ⟨b, q, z, e, hv⟩ := hv
    obtain ⟨h0, hj⟩ := rnI_some hj
    exact ⟨b, q, z, (hf i j h0 hj).1.trans e, hv⟩
  | ptrx i o st c n =>
    obtain ⟨j, hj, h⟩ := bindO_some h
    cases h
    obtain ⟨b, q, z, e, hv⟩ := hv
    obtain ⟨h0, hj⟩ := rnI_some hj
    exact ⟨b, q, z, (hf i j h0 hj).1.trans e, hv⟩
  | ptrr i o st n =>
    obtain ⟨j, hj, h⟩ := bindO_some h
    cases h
    obtain ⟨b, q, z, e, hv⟩ := hv
    obtain ⟨h0, hj⟩ := rnI_some hj
    exact ⟨b, q, z, (hf i j h0 hj).1.trans e, hv⟩
  | slr => cases h
  | sl i o es n fu =>
    simp only [rnC] at h
    split at h
    · rename_i hb
      cases h
      cases beqN.1 hb
      obtain ⟨base, m, cap, h1, h2, h3, h4, h5⟩ := hv
      exact ⟨base, m, cap, h1, h2, h3, h4, fun a ha => absurd rfl (h5 a ha).1⟩
    · rename_i hb
      obtain ⟨j, hj, h⟩ := bindO_some h
      cases h
      have h0 : i ≠ 0 := fun e => by rw [beqN.2 e] at hb; cases hb
      obtain ⟨base, m, cap, h1, h2, h3, h4, h5⟩ := hv
      refine ⟨base, m, cap, h1, h2, h3, h4, fun a ha => ?_⟩
      obtain ⟨_, b, q, z, e, g2, g3⟩ := h5 a ha
      exact ⟨(hf i j h0 hj).2, b, q, z, (hf i j h0 hj).1.trans e, g2, g3⟩
theorem rnL_ok (hf : Leads f E E') : ∀ {l m : List SC} {vs : List Value}, rnL f l = some m → RelL E l vs → RelL E' m vs
  | [], m, [], h, _ => by cases h; trivial
  | [], m, _ :: _, h, hv => hv.elim
  | _ :: _, m, [], h, hv => hv.elim
  | x :: l, m, v :: vs, h, hv => by
    replace h : (bindO (rnC f x) fun a => bindO (rnL f l) fun b => some (a :: b)) = some m := h
    obtain ⟨a, ha, h⟩ := bindO_some h
    obtain ⟨b, hb, h⟩ := bindO_some h
    cases h
    exact ⟨rnC_ok hf ha hv.1, rnL_ok hf hb hv.2⟩
theorem rnL_get (hf : Leads f E E') : ∀ {l m : List SC}, rnL f l = some m → m.length = l.length ∧ ∀ k v, k < l.length → RelC E (l.getD k .any) v → RelC E' (m.getD k .any) v
  | [], m, h => by cases h; exact ⟨rfl, fun k v hk => by simp at hk⟩
  | x :: l, m, h => by
    replace h : (bindO (rnC f x) fun a => bindO (rnL f l) fun b => some (a :: b)) = some m := h
    obtain ⟨a, ha, h⟩ := bindO_some h
    obtain ⟨b, hb, h⟩ := bindO_some h
    cases h
    obtain ⟨h1, h2⟩ := rnL_get hf hb
    refine ⟨by simp [h1], fun k v hk hv => ?_⟩
    cases k with
    | zero => exact rnC_ok hf ha hv
    | succ k => exact h2 k v (by simpa using hk) hv
theorem rnE_ok (hf : Leads f E E') {x y : SE} {v : Value} (h : rnE f x = some y) (hv : RelE E x v) : RelE E' y v := by
  cases x with
  | c x => obtain ⟨a, ha, h⟩ := bindO_some h; cases h; exact rnC_ok hf ha hv
  | a l =>
    obtain ⟨a, ha, h⟩ := bindO_some h; cases h
    obtain ⟨vs, h1, h2⟩ := hv
    exact ⟨vs, h1, rnL_ok hf ha h2⟩
theorem rnEs_ok (hf : Leads f E E') : ∀ {l m : List SE} {vs : List Value}, rnEs f l = some m → RelEs E l vs → RelEs E' m vs
  | [], m, [], h, _ => by cases h; trivial
  | [], m, _ :: _, h, hv => hv.elim
  | _ :: _, m, [], h, hv => hv.elim
  | x :: l, m, v :: vs, h, hv => by
    replace h : (bindO (rnE f x) fun a => bindO (rnEs f l) fun b => some (a :: b)) = some m := h
    obtain ⟨a, ha, h⟩ := bindO_some h
    obtain ⟨b, hb, h⟩ := bindO_some h
    cases h
    exact ⟨rnE_ok hf ha hv.1, rnEs_ok hf hb hv.2⟩
theorem rnV_ok (hf : Leads f E E') {x y : SV} {v : Value} (h : rnV f x = some y) (hv : RelV E x v) : RelV E' y v := by
  cases x with
  | any => cases h; trivial
  | undef => cases h; exact hv
  | c x => obtain ⟨a, ha, h⟩ := bindO_some h; cases h; exact rnC_ok hf ha hv
  | a l =>
    obtain ⟨a, ha, h⟩ := bindO_some h; cases h
    obtain ⟨vs, h1, h2⟩ := hv
    exact ⟨vs, h1, rnL_ok hf ha h2⟩
  | tup l =>
    obtain ⟨a, ha, h⟩ := bindO_some h; cases h
    obtain ⟨vs, h1, h2⟩ := hv
    exact ⟨vs, h1, rnEs_ok hf ha h2⟩
theorem rnVs_ok (hf : Leads f E E') : ∀ {l m : List SV} {vs : List Value}, rnVs f l = some m → RelVs E l vs → RelVs E' m vs
  | [], m, [], h, _ => by cases h; trivial
  | [], m, _ :: _, h, hv => hv.elim
  | _ :: _, m, [], h, hv => hv.elim
  | x :: l, m, v :: vs, h, hv => by
    replace h : (bindO (rnV f x) fun a => bindO (rnVs f l) fun b => some (a :: b)) = some m := h
    obtain ⟨a, ha, h⟩ := bindO_some h
    obtain ⟨b, hb, h⟩ := bindO_some h
    cases h
    exact ⟨rnV_ok hf ha hv.1, rnVs_ok hf hb hv.2⟩
structure SegRn (E E' : EM) (g g' : Seg) : Prop where
  rw : g'.rw = g.rw
  own : g'.own = g.own
  len : g'.body.len = g.body.len
  at_ : ∀ k v, k < g.body.len → RelC E (g.body.at k) v → RelC E' (g'.body.at k) v
theorem rnS_ok (hf : Leads f E E') {g g' : Seg} {ob : List Bool} (h : rnS f g = some (g', ob)) (hob : AllT ob) : SegRn E E' g g' := by
  unfold rnS at h
  split at h
  · rename_i l hb
    obtain ⟨m, hm, h⟩ := bindO_some h
    cases h
    obtain ⟨h1, h2⟩ := rnL_get hf hm
    refine ⟨rfl, rfl, by rw [hb]; exact h1, fun k v hk hv => ?_⟩
    rw [hb] at hk hv
    exact h2 k v hk hv
  · rename_i st n row hb
    cases h
    refine ⟨rfl, rfl, by rw [hb], fun k v hk hv => ?_⟩
    rw [hb] at hv
    exact flatC_ok (flatL_getD (flatR_ok hob.head _) _) hv
theorem SegAt.rn {b o z : Nat} {g g' : Seg} {w : World} {cs : Array Value} {T : TypeId} {fr : Nat × Nat} (s : SegAt E b o z g w cs T fr) (h : SegRn E E' g g') : SegAt E' b o z g' w cs T fr :=
  ⟨s.heap, by rw [h.len]; exact s.le, s.fit, fun ho => s.own (h.own ▸ ho), fun hr => s.fz (h.rw ▸ hr), fun k hk => by
    rw [h.len] at hk
    obtain ⟨v, h1, h2⟩ := s.cell k hk
    exact ⟨v, h1, h.at_ k v hk h2⟩⟩
end
/-- And back. -/
def LeadsB (f : Nat → Option Nat) (E' E : EM) : Prop := ∀ i j, f i = some j → E i = E' j ∧ i ≠ 0
section
variable {f : Nat → Option Nat} {E E' : EM}
theorem rnC_back (hf : LeadsB f E' E) {x y : SC} {v : Value} (h : rnC f x = some y) (hv : RelC E' y v) : RelC E x v := by
  cases x with
  | any => cases h; exact hv
  | bool => cases h; exact hv
  | int => cases h; exact hv
  | flt => cases h; exact hv
  | str => cases h; exact hv
  | nilp => cases h; exact hv
  | ptr i o =>
    obtain ⟨j, hj, h⟩ := bindO_some h
    cases h
    obtain ⟨b, q, z, e, hv⟩ := hv
    exact ⟨b, q, z, (hf i j (rnI_some hj).2).1.trans e, hv⟩
  | ptrx i o st c n =>
    obtain ⟨j, hj, h⟩ := bindO_some h
    cases h
    obtain ⟨b, q, z, e, hv⟩ := hv
    exact ⟨b, q, z, (hf i j (rnI_some hj).2).1.trans e, hv⟩
  | ptrr i o st n =>
    obtain ⟨j, hj, h⟩ := bindO_some h
    cases h
    obtain ⟨b, q, z, e, hv⟩ := hv
    exact ⟨b, q, z, (hf i j (rnI_some hj).2).1.trans e, hv⟩
  | slr => cases h
  | sl i o es n fu =>
    simp only [rnC] at h
    split at h
    · rename_i hb
      cases h
      cases beqN.1 hb
      obtain ⟨base, m, cap, h1, h2, h3, h4, h5⟩ := hv
      exact ⟨base, m, cap, h1, h2, h3, h4, fun a ha => absurd rfl (h5 a ha).1⟩
    · obtain ⟨j, hj, h⟩ := bindO_some h
      cases h
      obtain ⟨base, m, cap, h1, h2, h3, h4, h5⟩ := hv
      refine ⟨base, m, cap, h1, h2, h3, h4, fun a ha => ?_⟩
      obtain ⟨_, b, q, z, e, g2, g3⟩ := h5 a ha
      exact ⟨(hf i j hj).2, b, q, z, (hf i j hj).1.trans e, g2, g3⟩
theorem rnL_back (hf : LeadsB f E' E) : ∀ {l m : List SC}, rnL f l = some m → m.length = l.length ∧ ∀ k v, k < l.length → RelC E' (m.getD k .any) v → RelC E (l.getD k .any) v
  | [], m, h => by cases h; exact ⟨rfl, fun k v hk => by simp at hk⟩
  | x :: l, m, h => by
    replace h : (bindO (rnC f x) fun a => bindO (rnL f l) fun b => some (a :: b)) = some m := h
    obtain ⟨a, ha, h⟩ := bindO_some h
    obtain ⟨b, hb, h⟩ := bindO_some h
    cases h
    obtain ⟨h1, h2⟩ := rnL_back hf hb
    refine ⟨by simp [h1], fun k v hk hv => ?_⟩
    cases k with
    | zero => exact rnC_back hf ha hv
    | succ k => exact h2 k v (by simpa using hk) hv
theorem rnS_back (hf : LeadsB f E' E) {g g' : Seg} {ob : List Bool} (h : rnS f g = some (g', ob)) (hob : AllT ob) : SegRn E' E g' g := by
  unfold rnS at h
  split at h
  · rename_i l hb
    obtain ⟨m, hm, h⟩ := bindO_some h
    cases h
    obtain ⟨h1, h2⟩ := rnL_back hf hm
    refine ⟨rfl, rfl, by rw [hb]; exact h1.symm, fun k v hk hv => ?_⟩
    rw [hb]
    exact h2 k v (by show k < l.length; rw [← h1]; exact hk) hv
  · rename_i st n row hb
    cases h
    refine ⟨rfl, rfl, by rw [hb], fun k v hk hv => ?_⟩
    rw [hb]
    exact flatC_ok (flatL_getD (flatR_ok hob.head _) _) hv
theorem rnRd_back (hf : LeadsB f E' E) (hinj : ∀ i i' j, f i = some j → f i' = some j → i = i') : ∀ {l m : List (Nat × Seg)} {ob : List Bool}, rnRd f l = some (m, ob) → AllT ob →
    ∀ i g, findS i l = some g → ∃ j g', f i = some j ∧ findS j m = some g' ∧ SegRn E' E g' g
  | [], m, ob, h, _, i, g, hi => by cases hi
  | p :: l, m, ob, h, hob, i, g, hi => by
    replace h : (bindO (f p.1) fun i => bindO (rnS f p.2) fun a => bindO (rnRd f l) fun b => some ((i, a.1) :: b.1, a.2 ++ b.2)) = some (m, ob) := h
    obtain ⟨j, hj, h⟩ := bindO_some h
    obtain ⟨a, ha, h⟩ := bindO_some h
    obtain ⟨b, hb, h⟩ := bindO_some h
    cases h
    obtain ⟨i0, g0⟩ := p
    simp only [findS] at hi
    split at hi
    · rename_i hb'
      cases hi
      rw [beqN.1 hb']
      exact ⟨j, a.1, hj, by simp only [findS, beqN.2 rfl], rnS_back hf ha hob.append.1⟩
    · rename_i hb'
      obtain ⟨j', g', h1, h2, h3⟩ := rnRd_back hf hinj hb hob.append.2 i g hi
      refine ⟨j', g', h1, ?_, h3⟩
      simp only [findS]
      split
      · rename_i hb2
        exfalso
        rw [beqN.1 hb2] at h1
        rw [hinj i i0 j h1 hj, beqN.2 rfl] at hb'; cases hb'
      · exact h2
end
theorem posOf_ok : ∀ {l : List Nat} {i n j : Nat}, posOf l i n = some j → n ≤ j ∧ nthN l (j - n) = some i ∧ j < n + l.length
  | [], i, n, j, h => by cases h
  | k :: l, i, n, j, h => by
    simp only [posOf] at h
    split at h
    · rename_i hb; cases h
      rw [Nat.sub_self, beqN.1 hb]
      exact ⟨Nat.le_refl _, rfl, by simp⟩
    · obtain ⟨h1, h2, h3⟩ := posOf_ok h
      refine ⟨by omega, ?_, by simp; omega⟩
      rw [show j - n = (j - (n + 1)) + 1 by omega]
      exact h2
theorem nthN_mem : ∀ {l : List Nat} {n i : Nat}, nthN l n = some i → i ∈ l ∧ n < l.length
  | [], n, i, h => by cases h
  | k :: l, 0, i, h => by cases h; simp
  | k :: l, n + 1, i, h => by
    obtain ⟨h1, h2⟩ := nthN_mem (l := l) (n := n) h
    exact ⟨by simp [h1], by simpa using h2⟩
theorem nthN_inj : ∀ {l : List Nat} {n m i : Nat}, distN l = true → nthN l n = some i → nthN l m = some i → n = m
  | [], n, m, i, _, h, _ => by cases h
  | k :: l, 0, 0, i, _, _, _ => rfl
  | k :: l, 0, m + 1, i, hd, h, h' => by
    cases h
    have := (nthN_mem (l := l) (n := m) h').1
    simp only [distN, Bool.and_eq_true, Bool.not_eq_true'] at hd
    rw [memN_iff.2 this] at hd
    cases hd.1
  | k :: l, n + 1, 0, i, hd, h, h' => by
    cases h'
    have := (nthN_mem (l := l) (n := n) h).1
    simp only [distN, Bool.and_eq_true, Bool.not_eq_true'] at hd
    rw [memN_iff.2 this] at hd
    cases hd.1
  | k :: l, n + 1, m + 1, i, hd, h, h' => by
    simp only [distN, Bool.and_eq_true] at hd
    exact congrArg (· + 1) (nthN_inj (l := l) hd.2 h h')
theorem rnRd_get {f : Nat → Option Nat} {E E' : EM} (hf : Leads f E E') : ∀ {l m : List (Nat × Seg)} {ob : List Bool}, rnRd f l = some (m, ob) → AllT ob → (∀ i i' j, i ∈ fstsN l → i' ∈ fstsN l → f i = some j → f i' = some j → i = i') → distN (fstsN l) = true →
    ∀ j g', findS j m = some g' → ∃ i g, f i = some j ∧ findS i l = some g ∧ SegRn E E' g g'
  | [], m, ob, h, _, _, _, j, g', hj => by cases h; cases hj
  | p :: l, m, ob, h, hob, hinj, hd, j, g', hj => by
    replace h : (bindO (f p.1) fun i => bindO (rnS f p.2) fun a => bindO (rnRd f l) fun b => some ((i, a.1) :: b.1, a.2 ++ b.2)) = some (m, ob) := h
    obtain ⟨i, hi, h⟩ := bindO_some h
    obtain ⟨a, ha, h⟩ := bindO_some h
    obtain ⟨b, hb, h⟩ := bindO_some h
    cases h
    obtain ⟨i0, g0⟩ := p
    simp only [findS] at hj
    split at hj
    · rename_i hb'
      cases hj
      rw [beqN.1 hb']
      exact ⟨i0, g0, hi, by simp only [findS, beqN.2 rfl], rnS_ok hf ha hob.append.1⟩
    · rename_i hb'
      simp only [fstsN, distN, Bool.and_eq_true, Bool.not_eq_true'] at hd
      obtain ⟨i', g, h1, h2, h3⟩ := rnRd_get hf hb hob.append.2 (fun i i' j hi hi' => hinj i i' j (by simp [fstsN, hi]) (by simp [fstsN, hi'])) hd.2 j g' hj
      refine ⟨i', g, h1, ?_, h3⟩
      simp only [findS]
      split
      · rename_i hb2
        exfalso
        rw [beqN.1 hb2] at h1
        rw [hi] at h1
        cases h1
        rw [beqN.2 rfl] at hb'; cases hb'
      · exact h2
theorem Fr.mono {w w' : World} {T T' : Nat → Nat → Prop} (h : Fr w w' T) (ht : ∀ b k, T b k → T' b k) : Fr w w' T' :=
  ⟨h.os, h.out, h.size, fun b hb => (h.old b hb).imp (fun ⟨cs, t, fr, cs', h1, h2, h3, h4⟩ => ⟨cs, t, fr, cs', h1, h2, h3, fun j hj => h4 j fun hT => hj (ht b j hT)⟩) id, h.frz⟩
theorem rnWs_get {f : Nat → Option Nat} {E E' : EM} (hf : Leads f E E') (hinj : ∀ j j' i, f j = some i → f j' = some i → j = j') : ∀ {l m : List (Nat × Option Seg)} {ob : List Bool}, rnWs f l = some (m, ob) → AllT ob → ∀ {F G : Nat → Option Seg},
    (∀ i g', G i = some g' → ∃ j g, f j = some i ∧ F j = some g ∧ SegRn E E' g g') → ∀ i g', updSs G m i = some g' → ∃ j g, f j = some i ∧ updSs F l j = some g ∧ SegRn E E' g g'
  | [], m, ob, h, _, F, G, hFG, i, g', hg => by cases h; exact hFG i g' hg
  | p :: l, m, ob, h, hob, F, G, hFG, i, g', hg => by
    have step : ∀ (j0 i0 : Nat) (v v' : Option Seg), f j0 = some i0 → (∀ g', v' = some g' → ∃ g, v = some g ∧ SegRn E E' g g') → ∀ i g', upd G i0 v' i = some g' → ∃ j g, f j = some i ∧ upd F j0 v j = some g ∧ SegRn E E' g g' := by
      intro j0 i0 v v' hj hv i g' hg
      by_cases e : i = i0
      · subst e
        rw [upd_same] at hg
        obtain ⟨g, h1, h2⟩ := hv g' hg
        exact ⟨j0, g, hj, by rw [upd_same]; exact h1, h2⟩
      · rw [upd_other _ _ e] at hg
        obtain ⟨j, g, h1, h2, h3⟩ := hFG i g' hg
        refine ⟨j, g, h1, ?_, h3⟩
        rw [upd_other]
        · exact h2
        · intro e2; rw [e2, hj] at h1; cases h1; exact e rfl
    obtain ⟨j0, v⟩ := p
    cases v with
    | some g0 =>
      replace h : (bindO (f j0) fun i => bindO (rnS f g0) fun a => bindO (rnWs f l) fun b => some ((i, some a.1) :: b.1, a.2 ++ b.2)) = some (m, ob) := h
      obtain ⟨i0, hi, h⟩ := bindO_some h
      obtain ⟨a, ha, h⟩ := bindO_some h
      obtain ⟨b, hb, h⟩ := bindO_some h
      cases h
      exact rnWs_get hf hinj hb hob.append.2 (F := upd F j0 (some g0)) (G := upd G i0 (some a.1)) (step j0 i0 _ _ hi fun g' hg' => by cases hg'; exact ⟨g0, rfl, rnS_ok hf ha hob.append.1⟩) i g' hg
    | none =>
      replace h : (bindO (f j0) fun i => bindO (rnWs f l) fun b => some ((i, none) :: b.1, b.2)) = some (m, ob) := h
      obtain ⟨i0, hi, h⟩ := bindO_some h
      obtain ⟨b, hb, h⟩ := bindO_some h
      cases h
      exact rnWs_get hf hinj hb hob (F := upd F j0 none) (G := upd G i0 none) (step j0 i0 _ _ hi fun g' hg' => by cases hg') i g' hg
theorem CallOK.can {P : Program} {f : FuncId} {S : CS} (h : CallOK P f S) : CallOK P f (canS S) := by
  intro E base args vals rd w e hs hob hargs hb1 hbe hfr hmem
  unfold canS at hs
  split at hs <;> try (cases hs; done)
  rename_i hids
  simp only [Bool.and_eq_true, List.all_eq_true, Nat.ble_eq] at hids
  obtain ⟨hlt, hdist⟩ := hids
  obtain ⟨args', hargs', hs⟩ := bindO_some hs
  obtain ⟨rd', hrd', hs⟩ := bindO_some hs
  obtain ⟨e1, he1, hs⟩ := bindO_some hs
  split at hs <;> try (cases hs; done)
  rename_i hnx
  rw [Nat.ble_eq] at hnx
  obtain ⟨ret, hret, hs⟩ := bindO_some hs
  obtain ⟨ws, hws, hs⟩ := bindO_some hs
  cases hs
  simp only at hob hbe hfr
  obtain ⟨hob1, hob2⟩ := hob.append
  obtain ⟨hob2, hob3⟩ := hob2.append
  generalize hm : (fstsN rd).length = m at *
  -- the ids of the call's own
  let E1 : EM := fun j => if 1 ≤ j ∧ j ≤ m then (match nthN (fstsN rd) (j - 1) with
    | some i => E i
    | none => none) else none
  have hE1 : ∀ i j, posOf (fstsN rd) i 1 = some j → E1 j = E i := by
    intro i j hj
    obtain ⟨h1, h2, h3⟩ := posOf_ok hj
    show (if 1 ≤ j ∧ j ≤ m then _ else none) = _
    rw [if_pos (by omega), h2]
  have hl1 : Leads (fun i => posOf (fstsN rd) i 1) E E1 := fun i j _ hj => ⟨hE1 i j hj, by have := (posOf_ok hj).1; omega⟩
  have hpinj : ∀ i i' j, posOf (fstsN rd) i 1 = some j → posOf (fstsN rd) i' 1 = some j → i = i' := by
    intro i i' j hi hi'
    have h1 := (posOf_ok hi).2.1
    rw [(posOf_ok hi').2.1] at h1
    exact (Option.some.inj h1).symm
  have hget := rnRd_get hl1 hrd' hob1 (fun i i' j _ _ => hpinj i i' j) hdist
  have hT : ∀ b k, Tch E1 rd'.1 b k → Tch E rd b k := by
    rintro b k ⟨j, g', o, z, h1, h2, h3, h4⟩
    obtain ⟨i, g, k1, k2, k3⟩ := hget j g' h1
    exact ⟨i, g, o, z, k2, by rw [← k3.rw]; exact h2, by rw [← hE1 i j k1]; exact h3, h4⟩
  have hmem1 : MemRel w (Tch E1 rd'.1) E1 (fun j => findS j rd'.1) w := by
    refine ⟨fun j g' hj => ?_, fun i j g k b o z b' o' z' hij hi hj hrw hEi hEj => ?_, fun j g' b o z hj hrw hEj => .inr fun k h1 h2 => ⟨j, g', o, z, hj, hrw, hEj, h1, h2⟩, Fr.refl _ _, hmem.tab.1, fun b k hb hk => hmem.tab.2 b k hb (hT b k hk)⟩
    · obtain ⟨i, g, k1, k2, k3⟩ := hget j g' hj
      obtain ⟨b, o, z, cs, T, fr, e, s⟩ := hmem.segs i g k2
      exact ⟨b, o, z, cs, T, fr, (hE1 i j k1).trans e, s.rn k3⟩
    · obtain ⟨i1, g1, a1, a2, a3⟩ := hget i g hi
      obtain ⟨i2, g2, b1, b2, b3⟩ := hget j k hj
      rw [hE1 i1 i a1] at hEi
      rw [hE1 i2 j b1] at hEj
      refine hmem.disj i1 i2 g1 g2 b o z b' o' z' (fun e => ?_) a2 b2 (by rw [← a3.rw, ← b3.rw]; exact hrw) hEi hEj
      rw [e, b1] at a1
      cases a1; exact hij rfl
  refine (h E1 (m + 1) args' vals rd'.1 w e1 he1 hob3 (rnVs_ok hl1 hargs' hargs) (by omega) hnx (fun i hi _ => if_neg (by omega)) hmem1).mono fun v w' hp => ?_
  obtain ⟨E1', p1, p2, p3, p4⟩ := hp
  let E' : EM := fun i => if base ≤ i ∧ i < base + (e1.next - (m + 1)) then E1' (i - base + (m + 1)) else E i
  have hback : ∀ j i, backN (fstsN rd) m base e1.next j = some i → j ≠ 0 ∧ ((j ≤ m ∧ nthN (fstsN rd) (j - 1) = some i) ∨ (m < j ∧ j < e1.next ∧ i = base + (j - (m + 1)))) := by
    intro j i hji
    unfold backN at hji
    split at hji
    · cases hji
    · rename_i h0
      refine ⟨fun e => by (rw [beqN.2 e] at h0; cases h0), ?_⟩
      split at hji
      · rename_i hb; rw [Nat.ble_eq] at hb; exact .inl ⟨hb, hji⟩
      · rename_i hb
        split at hji
        · rename_i hb2
          rw [Nat.ble_eq] at hb2
          cases hji
          exact .inr ⟨Nat.lt_of_not_le fun hl => by (rw [Nat.ble_eq_true_of_le hl] at hb; cases hb), by omega, rfl⟩
        · cases hji
  have hbE : Leads (backN (fstsN rd) m base e1.next) E1' E' := by
    intro j i h0 hji
    rcases (hback j i hji).2 with ⟨h1, h2⟩ | ⟨h1, h2, rfl⟩
    · have hi := hlt i (nthN_mem h2).1
      refine ⟨?_, by omega⟩
      show (if _ then _ else _) = _
      rw [if_neg (by omega)]
      have e1j : E1 j = E i := by
        show (if 1 ≤ j ∧ j ≤ m then _ else none) = _
        rw [if_pos (by omega), h2]
      cases hx : E i with
      | some x => rw [p1 j x (by rw [e1j, hx])]
      | none =>
        cases hy : E1' j with
        | none => rfl
        | some y =>
          rcases p2 j (by rw [hy]; simp) with h3 | h3
          · rw [e1j, hx] at h3; exact absurd rfl h3
          · omega
    · refine ⟨?_, by omega⟩
      show (if _ then _ else _) = _
      rw [if_pos (by omega)]
      congr 1; omega
  have hinj : ∀ j j' i, backN (fstsN rd) m base e1.next j = some i → backN (fstsN rd) m base e1.next j' = some i → j = j' := by
    intro j j' i h1 h2
    obtain ⟨h0, h1⟩ := hback j i h1
    obtain ⟨h0', h2⟩ := hback j' i h2
    rcases h1 with ⟨a1, a2⟩ | ⟨a1, a2, a3⟩ <;> rcases h2 with ⟨b1, b2⟩ | ⟨b1, b2, b3⟩
    · have := nthN_inj hdist a2 b2; omega
    · have := hlt i (nthN_mem a2).1; omega
    · have := hlt i (nthN_mem b2).1; omega
    · omega
  have hpb : ∀ i j, posOf (fstsN rd) i 1 = some j → backN (fstsN rd) m base e1.next j = some i := by
    intro i j hj
    obtain ⟨h1, h2, h3⟩ := posOf_ok hj
    unfold backN
    split
    · rename_i h0; rw [beqN] at h0; omega
    · split
      · exact h2
      · rename_i hb; rw [Nat.ble_eq_true_of_le (by omega)] at hb; cases hb
  have hlb : LeadsB (fun i => posOf (fstsN rd) i 1) E1' E' := fun i j hj => by
    have h1 := hpb i j hj
    have h2 := hlt i (nthN_mem (posOf_ok hj).2.1).1
    exact ⟨(hbE j i (hback j i h1).1 h1).1, by omega⟩
  have hG : ∀ i g', findS i rd = some g' → ∃ j g, backN (fstsN rd) m base e1.next j = some i ∧ findS j rd'.1 = some g ∧ SegRn E1' E' g g' := by
    intro i g' hg
    obtain ⟨j, g, h1, h2, h3⟩ := rnRd_back hlb hpinj hrd' hob1 i g' hg
    exact ⟨j, g, hpb i j h1, h2, h3⟩
  have hGet := rnWs_get hbE hinj hws hob2 (F := fun j => findS j rd'.1) (G := fun i => findS i rd) hG
  refine ⟨E', fun i x hx => ?_, fun i hi => ?_, rnV_ok hbE hret p3, fun i g' hg => ?_, fun i j g k b o z b' o' z' hij hi hj hrw hEi hEj => ?_, fun i g' b o z hi hrw hEi => ?_, p4.fr.mono hT, hmem.tab⟩
  · show (if _ then _ else _) = _
    rw [if_neg]
    · exact hx
    · intro h; rw [hfr i h.1 h.2] at hx; cases hx
  · by_cases h : base ≤ i ∧ i < base + (e1.next - (m + 1))
    · exact .inr h
    · left
      have : E' i = E i := if_neg h
      rwa [this] at hi
  · obtain ⟨j, g, h1, h2, h3⟩ := hGet i g' hg
    obtain ⟨b, o, z, cs, T, fr, e, s⟩ := p4.segs j g h2
    exact ⟨b, o, z, cs, T, fr, (hbE j i (hback j i h1).1 h1).1.trans e, s.rn h3⟩
  · obtain ⟨j1, g1, a1, a2, a3⟩ := hGet i g hi
    obtain ⟨j2, g2, b1, b2, b3⟩ := hGet j k hj
    rw [(hbE j1 i (hback j1 i a1).1 a1).1] at hEi
    rw [(hbE j2 j (hback j2 j b1).1 b1).1] at hEj
    refine p4.disj j1 j2 g1 g2 b o z b' o' z' (fun e => ?_) a2 b2 (by rw [← a3.rw, ← b3.rw]; exact hrw) hEi hEj
    rw [e, b1] at a1
    cases a1; exact hij rfl
  · obtain ⟨j, g, h1, h2, h3⟩ := hGet i g' hi
    rw [(hbE j i (hback j i h1).1 h1).1] at hEi
    exact (p4.tch j g b o z h2 (by rw [← h3.rw]; exact hrw) hEi).imp id fun h k h4 h5 => hT b k (h k h4 h5)
end
end Go.Proofs.YtaodbpejeglmlaaDoor
