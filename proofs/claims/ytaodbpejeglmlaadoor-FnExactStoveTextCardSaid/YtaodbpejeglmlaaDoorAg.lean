/- What an argument is: structs, slices of structs. Nothing is assumed. -/
import Derived.Test.YtaodbpejeglmlaaDoorSv
import Derived.Test.YtaodbpejeglmlaaDoorLp
import Derived.ChangeArms
import Derived.OpenShut
namespace Go.Proofs.YtaodbpejeglmlaaDoor
open Go Go.RowKit Go.ChangeShapes Go.WideShapes

inductive KK where
  | bool
  | int (k : IntKind)
  | flt (k : FloatKind)
  | sl (t e : TypeId)
def KK.scalar : KK → Bool
  | .sl _ _ => false
  | _ => true
def kdsF (P : Program) (r : TypeId → Option (List KK)) : List Field → List KK → Option (List KK)
  | [], acc => some acc
  | f :: fs, acc => match r f.type with
    | some ts => match Nat.beq f.offset acc.length && Nat.beq (P.cellsOf f.type) ts.length with
      | true => kdsF P r fs (acc ++ ts)
      | false => none
    | none => none
def repK (ts : List KK) : Nat → List KK
  | 0 => []
  | n + 1 => repK ts n ++ ts
/-- The kinds of a type's cells. -/
def kds (P : Program) : Nat → TypeId → Option (List KK)
  | 0, _ => none
  | d + 1, t => match P.underlying t with
    | some .bool => some [.bool]
    | some (.int k) => some [.int k]
    | some (.float k) => some [.flt k]
    | some (.slice e) => some [.sl t e]
    | some (.struct fs) => kdsF P (kds P d) fs.toList []
    | some (.array n e) => match kds P d e with
      | some ts => match Nat.beq (P.cellsOf e) ts.length with
        | true => some (repK ts n)
        | false => none
      | none => none
    | _ => none
theorem repK_len (ts : List KK) : ∀ n, (repK ts n).length = n * ts.length
  | 0 => by simp [repK]
  | n + 1 => by rw [repK, List.length_append, repK_len ts n, Nat.succ_mul]

section
variable {H : Type} {enc : TypeId × Value → H} {P : Program} {w : World} {base : Nat} {spare : Nat → Bool} {held : Bool}
/-- What a cell is. -/
def kok (enc : TypeId × Value → H) (P : Program) (w : World) (base : Nat) (spare : Nat → Bool) (held : Bool) : KK → Value → Prop
  | .bool, v => ∃ b, v = .bool b
  | .int k, v => ∃ n, v = .int k n ∧ k.min ≤ n ∧ n ≤ k.max
  | .flt k, v => ∃ b, v = .float k b ∧ b < 2 ^ k.format.width
  | .sl t e, v => P.underlying t = some (.slice e) ∧ ∃ n x, DataW.trod enc P w base spare held n t [v] = some x
def KOK (enc : TypeId × Value → H) (P : Program) (w : World) (base : Nat) (spare : Nat → Bool) (held : Bool) (ts : List KK) (cs : List Value) (o : Nat) : Prop :=
  ∀ i u, ts[i]? = some u → ∃ v, cs[o + i]? = some v ∧ kok enc P w base spare held u v
theorem KOK.append {ts us : List KK} {cs : List Value} {o : Nat} (h1 : KOK enc P w base spare held ts cs o) (h2 : KOK enc P w base spare held us cs (o + ts.length)) : KOK enc P w base spare held (ts ++ us) cs o := by
  intro i u hi
  rw [List.getElem?_append] at hi
  split at hi
  · exact h1 i u hi
  · rename_i hl
    obtain ⟨v, hv, hk⟩ := h2 _ u hi
    exact ⟨v, by rw [← hv]; congr 1; omega, hk⟩
theorem KOK.sub {ts : List KK} {cs : List Value} {o n : Nat} (h : KOK enc P w base spare held ts ((cs.drop o).take n) 0) : KOK enc P w base spare held ts cs o := by
  intro i u hi
  obtain ⟨v, hv, hk⟩ := h i u hi
  rw [Nat.zero_add, List.getElem?_take] at hv
  split at hv
  · rw [List.getElem?_drop] at hv; exact ⟨v, hv, hk⟩
  · cases hv
theorem trod_kds : ∀ (d : Nat) (t : TypeId) (ts : List KK), kds P d t = some ts → ∀ (fuel : Nat) (cs : List Value) (x : DataW H × List MemPlace), DataW.trod enc P w base spare held fuel t cs = some x → KOK enc P w base spare held ts cs 0
  | 0, t, ts, h, _, _, _, _ => by cases h
  | d + 1, t, ts, h, fuel, cs, x, hx => by
    have one : ∀ {k : KK} {c : Value}, kok enc P w base spare held k c → KOK enc P w base spare held [k] [c] 0 := by
      intro k c hk i u hi
      cases i with
      | zero => cases hi; exact ⟨c, rfl, hk⟩
      | succ i => simp at hi
    unfold kds at h
    split at h
    · rename_i ht; cases h
      obtain ⟨b, rfl, _⟩ := DataW.trod_bool ht hx
      exact one ⟨b, rfl⟩
    · rename_i k ht; cases h
      obtain ⟨n, rfl, _, hw⟩ := DataW.trod_int ht hx
      refine one ⟨n, rfl, ?_⟩
      simpa [Lit.wf] using hw
    · rename_i k ht; cases h
      cases fuel with
      | zero => simp [DataW.trod] at hx
      | succ n =>
        unfold DataW.trod at hx
        rw [ht] at hx
        split at hx <;> simp_all
        rename_i k' b _
        obtain ⟨⟨rfl, hb⟩, _⟩ := hx
        refine one ⟨b, rfl, ?_⟩
        cases k'
        · rw [show 2 ^ FloatKind.f32.format.width = 2 ^ 32 from rfl]; simpa [Lit.wf] using hb
        · rw [show 2 ^ FloatKind.f64.format.width = 2 ^ 64 from rfl]; simpa [Lit.wf] using hb
    · rename_i e ht; cases h
      have hx' := hx
      rcases DataW.trod_slice ht hx with ⟨rfl, _⟩ | ⟨a, len, cap, elems, rest, n, _, rfl, _⟩
      · exact one ⟨ht, fuel, x, hx'⟩
      · exact one ⟨ht, fuel, x, hx'⟩
    · rename_i fs ht
      obtain ⟨xs, n, rfl, _, hl, hxs, hf⟩ := DataW.trod_struct ht hx
      have key : ∀ (l : List Field) (acc : List KK), (∀ f ∈ l, ∃ y, DataW.trod enc P w base spare held n f.type ((cs.drop f.offset).take (P.cellsOf f.type)) = some y) → KOK enc P w base spare held acc cs 0 → kdsF P (kds P d) l acc = some ts → KOK enc P w base spare held ts cs 0 := by
        intro l
        induction l with
        | nil => intro acc _ hacc h; cases h; exact hacc
        | cons f l ih =>
          intro acc hl hacc h
          simp only [kdsF] at h
          split at h <;> try (cases h; done)
          rename_i us hus
          split at h <;> try (cases h; done)
          rename_i hb
          simp only [Bool.and_eq_true, beqN] at hb
          obtain ⟨y, hy⟩ := hl f (by simp)
          refine ih _ (fun g hg => hl g (by simp [hg])) (hacc.append ?_) h
          have := (trod_kds d f.type us hus n _ y hy).sub
          rw [hb.1] at this
          rwa [Nat.zero_add]
      refine key fs.toList [] (fun f hf' => ?_) (fun i u hi => by simp at hi) h
      obtain ⟨i, hi, he⟩ := List.getElem_of_mem hf'
      have hfi : fs[i]? = some f := by
        have : i < fs.size := by simpa using hi
        rw [Array.getElem?_eq_getElem this]
        simpa using he
      have hi' : i < xs.length := by rw [hxs]; simpa using hi
      exact ⟨xs[i], by rw [hf i f hfi, List.getElem?_eq_getElem hi']⟩
    · rename_i m e ht
      split at h <;> try (cases h; done)
      rename_i us hus
      split at h <;> cases h
      rename_i hb
      obtain ⟨xs, n, rfl, _, hl, hxs, hf⟩ := DataW.trod_array ht hx
      have key : ∀ j, j ≤ m → KOK enc P w base spare held (repK us j) cs 0 := by
        intro j
        induction j with
        | zero => intro _ i u hi; simp [repK] at hi
        | succ j ih =>
          intro hj
          refine (ih (by omega)).append ?_
          rw [repK_len, Nat.zero_add]
          have h1 : j < xs.length := by omega
          have h2 := hf j (by omega)
          rw [List.getElem?_eq_getElem h1, beqN.1 hb] at h2
          exact (trod_kds d e us hus n _ _ h2).sub
      exact key m (Nat.le_refl _)
    · cases h

/-! ### its data -/
def mkL (F : Nat → Nat) (G : Nat → Int) (B : Nat → Bool) : List KK → Nat → List SC
  | [], _ => []
  | .flt k :: l, j => .flt k (F j) :: mkL F G B l (j + 1)
  | .int k :: l, j => .int k (.s (G j)) :: mkL F G B l (j + 1)
  | .bool :: l, j => .bool (.s (B j)) :: mkL F G B l (j + 1)
  | .sl _ _ :: l, j => .any :: mkL F G B l (j + 1)
theorem mkL_flat (F : Nat → Nat) (G : Nat → Int) (B : Nat → Bool) : ∀ (l : List KK) (j : Nat), flatL (mkL F G B l j) = true
  | [], _ => rfl
  | .flt _ :: l, j => mkL_flat F G B l (j + 1)
  | .int _ :: l, j => mkL_flat F G B l (j + 1)
  | .bool :: l, j => mkL_flat F G B l (j + 1)
  | .sl _ _ :: l, j => mkL_flat F G B l (j + 1)
theorem mkL_len (F : Nat → Nat) (G : Nat → Int) (B : Nat → Bool) : ∀ (l : List KK) (j : Nat), (mkL F G B l j).length = l.length
  | [], _ => rfl
  | .flt _ :: l, j => congrArg (· + 1) (mkL_len F G B l (j + 1))
  | .int _ :: l, j => congrArg (· + 1) (mkL_len F G B l (j + 1))
  | .bool :: l, j => congrArg (· + 1) (mkL_len F G B l (j + 1))
  | .sl _ _ :: l, j => congrArg (· + 1) (mkL_len F G B l (j + 1))
/-- The data that a scalar cell holds. -/
def kdat (E : EM) : KK → Value → Nat → Int → Bool → Prop
  | .bool, v, _, _, b => v = .bool b
  | .int k, v, _, n, _ => v = .int k n ∧ k.min ≤ n ∧ n ≤ k.max
  | .flt k, v, x, _, _ => FR k x v
  | .sl _ _, v, _, _, _ => v.oneCell' = true
theorem kok_dat {E : EM} {k : KK} {v : Value} (h : kok enc P w base spare held k v) : ∃ x n b, kdat E k v x n b := by
  cases k with
  | bool => obtain ⟨b, rfl⟩ := h; exact ⟨0, 0, b, rfl⟩
  | int k => obtain ⟨n, rfl, h1, h2⟩ := h; exact ⟨0, n, true, rfl, h1, h2⟩
  | flt k => obtain ⟨b, rfl, hb⟩ := h; exact ⟨can k b, 0, true, b, rfl, hb, rfl⟩
  | sl t e =>
    obtain ⟨ht, n, x, hx⟩ := h
    rcases DataW.trod_slice ht hx with ⟨h1, _⟩ | ⟨a, len, cap, elems, rest, n, _, h1, _⟩
    · cases h1; exact ⟨0, 0, true, rfl⟩
    · cases h1; exact ⟨0, 0, true, rfl⟩
theorem mkL_rel {E : EM} {F : Nat → Nat} {G : Nat → Int} {B : Nat → Bool} : ∀ {ts : List KK} {j : Nat} {vs : List Value}, vs.length = ts.length → (∀ i u v, ts[i]? = some u → vs[i]? = some v → kdat E u v (F (j + i)) (G (j + i)) (B (j + i))) → RelL E (mkL F G B ts j) vs
  | [], j, [], _, _ => trivial
  | [], j, _ :: _, h, _ => by simp at h
  | _ :: _, j, [], h, _ => by simp at h
  | t :: ts, j, v :: vs, h, hd => by
    have h1 := hd 0 t v rfl rfl
    have h2 := mkL_rel (E := E) (F := F) (G := G) (B := B) (ts := ts) (j := j + 1) (vs := vs) (by simpa using h) fun i u v' hu hv => by
      have := hd (i + 1) u v' (by simpa using hu) (by simpa using hv)
      rw [show j + 1 + i = j + (i + 1) by omega]; exact this
    rw [Nat.add_zero] at h1
    cases t with
    | bool => exact ⟨h1, h2⟩
    | int k => exact ⟨h1.1, h2⟩
    | flt k => exact ⟨h1, h2⟩
    | sl t e => exact ⟨h1, h2⟩
/-- What is known of the data. -/
def DataOK (ts : List KK) (n : Nat) (F : Nat → Int → Nat) (G : Nat → Int → Int) : Prop :=
  ∀ (i j : Nat) u, i < n → ts[j]? = some u → (∀ k, u = .flt k → Cn k (F j i)) ∧ (∀ k, u = .int k → k.min ≤ G j i ∧ G j i ≤ k.max)
/-- The rows of a slice. -/
theorem rows_data {E : EM} {ts : List KK} {n : Nat} {cell : Nat → Nat → Value} (h : ∀ i, i < n → ∀ j u, ts[j]? = some u → kok enc P w base spare held u (cell i j)) :
    ∃ (F : Nat → Int → Nat) (G : Nat → Int → Int) (B : Nat → Int → Bool), DataOK ts n F G ∧ ∀ i, i < n → RelL E (mkL (fun j => F j i) (fun j => G j i) (fun j => B j i) ts 0) ((List.range ts.length).map (cell i)) := by
  have key : ∀ i j : Nat, ∃ y : Nat × Int × Bool, i < n → ∀ u, ts[j]? = some u → kdat E u (cell i j) y.1 y.2.1 y.2.2 := by
    intro i j
    by_cases hi : i < n
    · cases hu : ts[j]? with
      | none => exact ⟨(0, 0, true), fun _ u hu' => by cases hu'⟩
      | some u =>
        obtain ⟨x, m, b, hd⟩ := kok_dat (E := E) (h i hi j u hu)
        exact ⟨(x, m, b), fun _ u' hu' => by cases hu'; exact hd⟩
    · exact ⟨(0, 0, true), fun hi' => absurd hi' hi⟩
  let Y : Nat → Nat → Nat × Int × Bool := fun i j => Classical.choose (key i j)
  have hY : ∀ i j, i < n → ∀ u, ts[j]? = some u → kdat E u (cell i j) (Y i j).1 (Y i j).2.1 (Y i j).2.2 := fun i j => Classical.choose_spec (key i j)
  refine ⟨fun j i => (Y i.toNat j).1, fun j i => (Y i.toNat j).2.1, fun j i => (Y i.toNat j).2.2, fun i j u hi hu => ?_, fun i hi => mkL_rel (by simp) fun j u v hu hv => ?_⟩
  · have := hY i j hi u hu
    refine ⟨fun k e => ?_, fun k e => ?_⟩
    · subst e
      simp only [Int.toNat_natCast]
      exact FR.cn this
    · subst e
      simp only [Int.toNat_natCast]
      exact this.2
  · simp only [Nat.zero_add, Int.toNat_natCast]
    have hj : j < ts.length := by
      have := List.getElem?_eq_some_iff.1 hu; exact this.1
    rw [List.getElem?_map, List.getElem?_range hj] at hv
    cases hv
    exact hY i j hi u hu
/-- A slice, as an argument. -/
structure SlArg (w : World) (es : Nat) (ts : List KK) (v : Value) (n : Nat) (F : Nat → Int → Nat) (G : Nat → Int → Int) (B : Nat → Int → Bool) : Prop where
  len : ∃ b cap, v = .slice b n cap ∧ n ≤ cap ∧ cap ≤ maxLen ∧ (b = none → cap = 0)
  none_ : (∃ b, v = .slice b n 0) ∨ ∃ b o cap cs T fr, v = .slice (some ⟨b, o, none⟩) n cap ∧ cap ≠ 0 ∧ w.heap[b]? = some (.cells cs T fr) ∧ o + n * es ≤ cs.size ∧
    ∀ (E : EM) k, k < es * n → ∃ u, cs[o + k]? = some u ∧ RelC E ((mkL (fun j => F j ((k / es : Nat) : Int)) (fun j => G j ((k / es : Nat) : Int)) (fun j => B j ((k / es : Nat) : Int)) ts 0).getD (k % es) .any) u
  dat : DataOK ts n F G
theorem cells_get {w : World} {a : Addr} {n : Nat} {cs : List Value} (h : w.cells? base a n = some cs) : cs.length = n ∧ ∀ i, i < n → w.cell? (a.add i) = cs[i]? := by
  unfold World.cells? at h
  split at h <;> try (cases h; done)
  exact ⟨by simpa using mapM_some_length h, fun i hi => mapM_some_get h i i (by simp [hi])⟩
theorem kdat_E {E E' : EM} {k : KK} (hs : k.scalar = true) {v : Value} {x : Nat} {n : Int} {b : Bool} (h : kdat E k v x n b) : kdat E' k v x n b := by
  cases k <;> exact h
theorem sl_arg {t e : TypeId} (ht : P.underlying t = some (.slice e)) {d : Nat} {ts : List KK} (hk : kds P d e = some ts) (hc : P.cellsOf e = ts.length) (hpos : 0 < ts.length) (hsc : ts.all KK.scalar = true) {v : Value} {fuel : Nat} {x : DataW H × List MemPlace} (hx : DataW.trod enc P w base (fun _ => true) held fuel t [v] = some x) :
    ∃ n F G B, SlArg w ts.length ts v n F G B := by
  rcases DataW.trod_slice ht hx with ⟨h1, _⟩ | ⟨a, len, cap, elems, rest, m, _, h1, _, hb, hl, hcap, hel, hget, hrest, _⟩
  · cases h1
    exact ⟨0, fun _ _ => 0, fun _ _ => 0, fun _ _ => true, ⟨none, 0, rfl, Nat.le_refl _, Nat.zero_le _, fun _ => rfl⟩, .inl ⟨none, rfl⟩, fun i j u hi => by omega⟩
  · cases h1
    obtain ⟨hrl, hrest⟩ := hrest rfl
    rw [hc] at hget hrest
    have hcells : ∀ i, i < cap → ∃ cs, w.cells? base (a.add (i * ts.length)) ts.length = some cs ∧ KOK enc P w base (fun _ => true) held ts cs 0 := by
      intro i hi
      have h2 : ∃ y, (w.cells? base (a.add (i * ts.length)) ts.length).bind (DataW.trod enc P w base (fun _ => true) held m e) = some y := by
        by_cases hil : i < len
        · exact ⟨_, (hget i hil).trans (List.getElem?_eq_getElem (by omega))⟩
        · have := hrest (i - len) (by omega)
          rw [show len + (i - len) = i by omega] at this
          exact ⟨_, this.trans (List.getElem?_eq_getElem (by omega))⟩
      obtain ⟨y, h2⟩ := h2
      cases h3 : w.cells? base (a.add (i * ts.length)) ts.length with
      | none => rw [h3] at h2; cases h2
      | some cs =>
        rw [h3] at h2
        exact ⟨cs, rfl, trod_kds d e ts hk m cs _ h2⟩
    by_cases h0 : cap = 0
    · subst h0
      have : len = 0 := by omega
      subst this
      refine ⟨0, fun _ _ => 0, fun _ _ => 0, fun _ _ => true, ⟨some a, 0, rfl, Nat.zero_le _, hcap, fun h => (by cases h)⟩, .inl ⟨some a, rfl⟩, fun i j u hi => by omega⟩
    · -- the block
      obtain ⟨cs0, hcs0, _⟩ := hcells 0 (by omega)
      have hz := (cells_get hcs0).2 0 hpos
      have hlen0 := (cells_get hcs0).1
      rw [List.getElem?_eq_getElem (by omega)] at hz
      obtain ⟨b, o, sp⟩ := a
      cases sp with
      | some s => simp [World.cell?, Addr.add] at hz; split at hz <;> simp_all
      | none =>
        have hadd : ∀ k, (⟨b, o, none⟩ : Addr).add k = ⟨b, o + k, none⟩ := fun k => addr_add b o k
        have hblock : ∃ cs T fr, w.heap[b]? = some (.cells cs T fr) := by
          rw [hadd, addr_add] at hz
          unfold World.cell? at hz
          split at hz
          · rename_i c T fr hh; exact ⟨c, T, fr, hh⟩
          · cases hz
        obtain ⟨cs, T, fr, hh⟩ := hblock
        have hcell : ∀ i j, i < cap → j < ts.length → ∀ l, w.cells? base ((⟨b, o, none⟩ : Addr).add (i * ts.length)) ts.length = some l → cs[o + i * ts.length + j]? = l[j]? := by
          intro i j hi hj l hl'
          have := (cells_get hl').2 j hj
          rw [hadd, addr_add] at this
          rw [← this]
          simp [World.cell?, hh]
        let cell : Nat → Nat → Value := fun i j => (cs[o + i * ts.length + j]?).getD undef
        have hkok : ∀ i, i < cap → ∀ j u, ts[j]? = some u → kok enc P w base (fun _ => true) held u (cell i j) ∧ cs[o + i * ts.length + j]? = some (cell i j) := by
          intro i hi j u hu
          obtain ⟨l, hl1, hl2⟩ := hcells i hi
          obtain ⟨c, hc1, hc2⟩ := hl2 j u hu
          rw [Nat.zero_add] at hc1
          have hj : j < ts.length := (List.getElem?_eq_some_iff.1 hu).1
          have h4 := hcell i j hi hj l hl1
          rw [hc1] at h4
          have : cell i j = c := by show (cs[o + i * ts.length + j]?).getD undef = c; rw [h4]; rfl
          rw [this]
          exact ⟨hc2, h4⟩
        obtain ⟨F, G, B, hd, hr⟩ := rows_data (E := fun _ => none) (n := len) (cell := cell) (fun i hi j u hu => (hkok i (by omega) j u hu).1)
        refine ⟨len, F, G, B, ⟨some ⟨b, o, none⟩, cap, rfl, hl, hcap, fun h => (by cases h)⟩, .inr ⟨b, o, cap, cs, T, fr, rfl, h0, hh, ?_, fun E k hk' => ?_⟩, hd⟩
        · have h5 := (hkok (cap - 1) (by omega) (ts.length - 1) _ (List.getElem?_eq_getElem (by omega))).2
          have h6 := (Array.getElem?_eq_some_iff.1 h5).1
          have h7 : (cap - 1) * ts.length + ts.length = cap * ts.length := by
            rw [← Nat.succ_mul]; congr 1; omega
          have h8 : len * ts.length ≤ cap * ts.length := Nat.mul_le_mul_right _ hl
          omega
        · have hi : k / ts.length < len := Nat.div_lt_of_lt_mul hk'
          have hj : k % ts.length < ts.length := Nat.mod_lt _ hpos
          have h8 := hkok (k / ts.length) (by omega) (k % ts.length) _ (List.getElem?_eq_getElem hj)
          have h9 : o + k / ts.length * ts.length + k % ts.length = o + k := by
            have := Nat.div_add_mod k ts.length
            rw [Nat.mul_comm] at this; omega
          rw [h9] at h8
          refine ⟨_, h8.2, ?_⟩
          obtain ⟨u, hu1, hu2⟩ := (hr (k / ts.length) hi).getD (k % ts.length) (by rw [mkL_len]; exact hj)
          rw [List.getElem?_map, List.getElem?_range hj] at hu1
          cases hu1
          exact flatC_ok (flatL_getD (mkL_flat _ _ _ _ _) _) hu2
/-- A struct of scalars, as an argument. -/
theorem st_arg {E : EM} {t : TypeId} {d : Nat} {ts : List KK} (hk : kds P d t = some ts) {vs : Array Value} (hl : vs.size = ts.length) {fuel : Nat} {x : DataW H × List MemPlace} (hx : DataW.trod enc P w base spare held fuel t vs.toList = some x) :
    ∃ (F : Nat → Nat) (G : Nat → Int) (B : Nat → Bool), (∀ (j : Nat) u, ts[j]? = some u → (∀ k, u = .flt k → Cn k (F j)) ∧ (∀ k, u = .int k → k.min ≤ G j ∧ G j ≤ k.max)) ∧ RelL E (mkL F G B ts 0) vs.toList := by
  have h1 := trod_kds d t ts hk fuel _ x hx
  have hkok : ∀ (j : Nat) u, ts[j]? = some u → kok enc P w base spare held u ((vs.toList[j]?).getD undef) ∧ vs.toList[j]? = some ((vs.toList[j]?).getD undef) := by
    intro j u hu
    obtain ⟨v, hv, hk'⟩ := h1 j u hu
    rw [Nat.zero_add] at hv
    rw [hv]; exact ⟨hk', rfl⟩
  obtain ⟨F, G, B, hd, hr⟩ := rows_data (enc := enc) (P := P) (w := w) (base := base) (spare := spare) (held := held) (E := E) (n := 1) (cell := fun _ j => (vs.toList[j]?).getD undef) (ts := ts) (fun i hi j u hu => (hkok j u hu).1)
  refine ⟨fun j => F j (0 : Nat), fun j => G j (0 : Nat), fun j => B j (0 : Nat), fun j u hu => hd 0 j u (by omega) hu, ?_⟩
  have h2 := hr 0 (by omega)
  have : (List.range ts.length).map (fun j => (vs.toList[j]?).getD undef) = vs.toList := by
    refine List.ext_getElem? fun j => ?_
    rw [List.getElem?_map]
    by_cases hj : j < ts.length
    · rw [List.getElem?_range hj, (hkok j _ (List.getElem?_eq_getElem hj)).2]; rfl
    · rw [List.getElem?_eq_none (by simpa using hj), List.getElem?_eq_none (by simp; omega)]; rfl
  rw [this] at h2
  exact h2
end
end Go.Proofs.YtaodbpejeglmlaaDoor
