/- A loop of any number of rounds: what stays of a state from round to round. Nothing is assumed. -/
import Derived.Test.YtaodbpejeglmlaaDoorSs
namespace Go.Proofs.YtaodbpejeglmlaaDoor
open Go
noncomputable section

/-! ### a state's shape, and its data -/
inductive LD where
  | i (n : Int)
  | b (b : Bool)
  | f (x : Nat)
  | s (x : ByteArray)
  | r (row : Int → List SC)
inductive KC where
  | any
  | bool
  | boolc (b : Bool)
  | int (k : IntKind)
  | intc (k : IntKind) (n : Int)
  | flt (k : FloatKind)
  | str
  | nilp
  | ptr (id off : Nat)
  | sl (id off es : Nat) (full : Bool)
  | slc (id off es n : Nat) (full : Bool)
inductive KV where
  | any
  | c (x : KC)
  | a (l : List KC)
inductive KB where
  | cells (l : List KC)
  | rows (st : Nat)
structure KS where
  rw : Bool
  own : Bool
  body : KB
/-- Temporaries, segments, the first free id. -/
structure Sk where
  tms : List (Nat × KV)
  segs : List (Nat × KS)
  next : Nat

/-- The id that is now called 'j'. -/
def frOf : List (Nat × Nat) → Nat → Nat
  | [], j => j
  | (i, k) :: l, j => match Nat.beq k j with
    | true => i
    | false => frOf l j
def idm (ρ : List (Nat × Nat)) (nx i j : Nat) : Bool := Nat.beq i (frOf ρ j) && (Nat.ble (j + 1) nx && (Nat.ble 1 j || Nat.beq i 0))
def oneIf (b : Bool) (l : List LD) : Option (List LD) :=
  match b with
  | true => some l
  | false => none
def mC (ρ : List (Nat × Nat)) (nx : Nat) : KC → SC → Option (List LD)
  | .any, _ => some []
  | .bool, .bool b => some [.b b.val]
  | .boolc true, .bool .t => some []
  | .boolc false, .bool .f => some []
  | .int k, .int k' n => oneIf (decide (k = k')) [.i n.val]
  | .intc k m, .int k' (.c n) => oneIf (decide (k = k') && decide (m = n)) []
  | .flt k, .flt k' x => oneIf (decide (k = k')) [.f x]
  | .str, .str x => some [.s x]
  | .nilp, .nilp => some []
  | .ptr j o, .ptr i o' => oneIf (idm ρ nx i j && Nat.beq o o') []
  | .sl j o es fu, .sl i o' es' n fu' => oneIf (idm ρ nx i j && (Nat.beq o o' && (Nat.beq es es' && (!fu || fu')))) [.i n.val]
  | .slc j o es m fu, .sl i o' es' (.c n) fu' => oneIf (idm ρ nx i j && (Nat.beq o o' && (Nat.beq es es' && ((!fu || fu') && decide ((m : Int) = n))))) []
  | _, _ => none
def bC : KC → List LD → Option (SC × List LD)
  | .any, p => some (.any, p)
  | .bool, .b x :: p => some (.bool (.s x), p)
  | .boolc true, p => some (.bool .t, p)
  | .boolc false, p => some (.bool .f, p)
  | .int k, .i n :: p => some (.int k (.s n), p)
  | .intc k m, p => some (.int k (.c m), p)
  | .flt k, .f x :: p => some (.flt k x, p)
  | .str, .s x :: p => some (.str x, p)
  | .nilp, p => some (.nilp, p)
  | .ptr j o, p => some (.ptr j o, p)
  | .sl j o es fu, .i n :: p => some (.sl j o es (.s n) fu, p)
  | .slc j o es m fu, p => some (.sl j o es (.c m) fu, p)
  | _, _ => none
def mL (ρ : List (Nat × Nat)) (nx : Nat) (l : List KC) : List SC → Option (List LD) :=
  List.rec (motive := fun _ => List SC → Option (List LD)) (fun m => List.rec (some []) (fun _ _ _ => none) m)
    (fun k _ ih m => List.rec none (fun x m' _ => bindO (mC ρ nx k x) fun a => bindO (ih m') fun b => some (a ++ b)) m) l
def bL (l : List KC) : List LD → Option (List SC × List LD) :=
  List.rec (motive := fun _ => List LD → Option (List SC × List LD)) (fun p => some ([], p))
    (fun k _ ih p => bindO (bC k p) fun r => bindO (ih r.2) fun q => some (r.1 :: q.1, q.2)) l
def mV (ρ : List (Nat × Nat)) (nx : Nat) : KV → SV → Option (List LD)
  | .any, _ => some []
  | .c k, .c x => mC ρ nx k x
  | .a l, .a m => mL ρ nx l m
  | _, _ => none
def bV : KV → List LD → Option (SV × List LD)
  | .any, p => some (.any, p)
  | .c k, p => bindO (bC k p) fun r => some (.c r.1, r.2)
  | .a l, p => bindO (bL l p) fun r => some (.a r.1, r.2)
/-- Rows that name no segment. -/
def flatR (row : Int → List SC) : Bool := @decide (∀ j, flatL (row j) = true) (Classical.propDecidable _)
def mB (ρ : List (Nat × Nat)) (nx : Nat) : KB → SBody → Option (List LD × List Bool)
  | .cells l, .cells m => bindO (mL ρ nx l m) fun r => some (r, [])
  | .rows st, .rows st' n row => match Nat.beq st st' with
    | true => some ([.i n, .r row], [flatR row])
    | false => none
  | .rows _, .cells [] => some ([.i 0, .r (fun _ => [])], [])
  | _, _ => none
def bB : KB → List LD → Option (SBody × List LD)
  | .cells l, p => bindO (bL l p) fun r => some (.cells r.1, r.2)
  | .rows st, .i n :: .r row :: p => some (.rows st n row, p)
  | _, _ => none
def mS (ρ : List (Nat × Nat)) (nx j : Nat) (k : KS) (g : Option Seg) : Option (List LD × List Bool) :=
  match g with
  | some g => match (!k.rw || g.rw) && ((!k.own || g.own) && Nat.ble (j + 1) nx) with
    | true => mB ρ nx k.body g.body
    | false => none
  | none => none
def bS (k : KS) (p : List LD) : Option (Seg × List LD) := bindO (bB k.body p) fun r => some (⟨k.rw, k.own, r.1⟩, r.2)

def mTs (ρ : List (Nat × Nat)) (nx : Nat) (gt : Nat → SV) (l : List (Nat × KV)) : Option (List LD) :=
  List.rec (motive := fun _ => Option (List LD)) (some []) (fun k _ ih => bindO (mV ρ nx k.2 (gt k.1)) fun a => bindO ih fun b => some (a ++ b)) l
def bTs (l : List (Nat × KV)) : List LD → Option (List (Nat × SV) × List LD) :=
  List.rec (motive := fun _ => List LD → Option (List (Nat × SV) × List LD)) (fun p => some ([], p))
    (fun k _ ih p => bindO (bV k.2 p) fun r => bindO (ih r.2) fun q => some ((k.1, r.1) :: q.1, q.2)) l
def mSs (ρ : List (Nat × Nat)) (nx : Nat) (gs : Nat → Option Seg) (l : List (Nat × KS)) : Option (List LD × List Bool) :=
  List.rec (motive := fun _ => Option (List LD × List Bool)) (some ([], [])) (fun k _ ih => bindO (mS ρ nx k.1 k.2 (gs (frOf ρ k.1))) fun a => bindO ih fun b => some (a.1 ++ b.1, a.2 ++ b.2)) l
def bSs (l : List (Nat × KS)) : List LD → Option (List (Nat × Option Seg) × List LD) :=
  List.rec (motive := fun _ => List LD → Option (List (Nat × Option Seg) × List LD)) (fun p => some ([], p))
    (fun k _ ih p => bindO (bS k.2 p) fun r => bindO (ih r.2) fun q => some ((k.1, some r.1) :: q.1, q.2)) l
def rnOk (nx0 : Nat) (ρ : List (Nat × Nat)) : Bool :=
  List.rec (motive := fun _ => Bool) true (fun p _ ih => Nat.ble nx0 p.2 && ih) ρ
def apartR (ρ : List (Nat × Nat)) (l : List Nat) : Bool := l.all fun j => l.all fun j' => Nat.beq j j' || !Nat.beq (frOf ρ j) (frOf ρ j')
/-- A state's data, if it has the shape. -/
def mAll (ρ : List (Nat × Nat)) (sk : Sk) (gt : Nat → SV) (gs : Nat → Option Seg) : Option (List LD × List Bool) :=
  match apartR ρ (fstsN sk.segs) with
  | true => bindO (mTs ρ sk.next gt sk.tms) fun a => bindO (mSs ρ sk.next gs sk.segs) fun b => some (a ++ b.1, b.2)
  | false => none
def anysK {β : Type} (N : Nat) : Top → (Top → β) → β :=
  Nat.rec (motive := fun _ => Top → (Top → β) → β) (fun T f => f T) (fun n ih T f => T.setTK n .any fun T' => ih T' f) N
def setTsK {β : Type} (l : List (Nat × SV)) : Top → (Top → β) → β :=
  List.rec (motive := fun _ => Top → (Top → β) → β) (fun T f => f T) (fun p _ ih T f => T.setTK p.1 p.2 fun T' => ih T' f) l
def anys (N : Nat) : Top → Top := Nat.rec (motive := fun _ => Top → Top) (fun T => T) (fun n ih T => ih (T.setT n .any)) N
def setTs (l : List (Nat × SV)) : Top → Top := List.rec (motive := fun _ => Top → Top) (fun T => T) (fun p _ ih T => ih (T.setT p.1 p.2)) l
/-- The state of a shape with some data, laid over all that stands there. -/
def onK {β : Type} (N : Nat) (kt ks : List Nat) (sk : Sk) (nx : Nat) (p : List LD) (f : Top → Option β) : Option β :=
  bindO (bTs sk.tms p) fun a => bindO (bSs sk.segs a.2) fun b => match b.2 with
    | [] => anysK N (Top.empty nx) fun T0 => (setTsK (kt.map fun t => (t, .any)) T0) fun T1 => setTsK a.1 T1 fun T2 => T2.setSsK (ks.map fun i => (i, none)) fun T3 => T3.setSsK b.1 f
    | _ :: _ => none

def way : List (SB × XK × Top) → Option Top → Option (Option XK × Top)
  | [], some T => some (none, T)
  | [], none => none
  | (.t, k, T) :: _, _ => some (some k, T)
  | (.f, _, _) :: l, n => way l n
  | (.s _, _, _) :: _, _ => none
/-- One round: from data of the shape 'sk' to data of the shape 'skE'. -/
def goL (cx : Cx) (N : Nat) (h : Hn) (x : Code) (nx0 mx : Nat) (sk : Sk) (ρ : List (Nat × Nat)) (skE : Sk) (p : List LD) : Option (Option XK × List LD × List Bool) :=
  match rnOk nx0 ρ && (Nat.ble nx0 sk.next && (Nat.ble nx0 skE.next && (Nat.ble skE.next mx && Nat.ble 1 nx0))) with
  | false => none
  | true => onK N [] [] sk sk.next p fun T => bindO (sx cx N h x [] T) fun o => bindO (way o.abr o.nrm) fun r => match Nat.ble r.2.next mx with
    | true => bindO (mAll ρ skE (getT [r.2.ly]) (getS [r.2.ly])) fun q => some (r.1, q.1, o.obs ++ q.2)
    | false => none

/-! ### what stays true -/
/-- The map of the places, some of its ids called anew, some forgotten. -/
def reE (ρ : List (Nat × Nat)) (nx lim : Nat) (E : EM) : EM := fun j => if j < nx then E (frOf ρ j) else if lim ≤ j then E j else none
theorem idm_ok {ρ : List (Nat × Nat)} {nx lim i j : Nat} {E : EM} (h : idm ρ nx i j = true) : reE ρ nx lim E j = E i ∧ (i ≠ 0 → j ≠ 0) := by
  simp only [idm, Bool.and_eq_true, Bool.or_eq_true, beqN, Nat.ble_eq] at h
  obtain ⟨rfl, h2, h3⟩ := h
  exact ⟨if_pos (by omega), by omega⟩
theorem oneIf_some {b : Bool} {l r : List LD} (h : oneIf b l = some r) : b = true ∧ r = l := by
  unfold oneIf at h
  split at h
  · exact ⟨rfl, (Option.some.inj h).symm⟩
  · cases h
theorem mC_ok {ρ : List (Nat × Nat)} {nx lim : Nat} {k : KC} {x : SC} {l : List LD} (h : mC ρ nx k x = some l) : ∃ x', (∀ q, bC k (l ++ q) = some (x', q)) ∧ ∀ (E : EM) v, RelC E x v → RelC (reE ρ nx lim E) x' v := by
  unfold mC at h
  split at h
  · cases h; exact ⟨.any, fun q => rfl, fun E v hv => hv.one⟩
  · cases h; rename_i b; exact ⟨.bool (.s b.val), fun q => rfl, fun E v hv => hv⟩
  · cases h; exact ⟨.bool .t, fun q => rfl, fun E v hv => hv⟩
  · cases h; exact ⟨.bool .f, fun q => rfl, fun E v hv => hv⟩
  · obtain ⟨h1, rfl⟩ := oneIf_some h
    rename_i k k' n
    simp only [decide_eq_true_eq] at h1
    subst h1
    exact ⟨.int k (.s n.val), fun q => rfl, fun E v hv => hv⟩
  · obtain ⟨h1, rfl⟩ := oneIf_some h
    rename_i k m k' n
    simp only [Bool.and_eq_true, decide_eq_true_eq] at h1
    obtain ⟨rfl, rfl⟩ := h1
    exact ⟨.int k (.c m), fun q => rfl, fun E v hv => hv⟩
  · obtain ⟨h1, rfl⟩ := oneIf_some h
    rename_i k k' y
    simp only [decide_eq_true_eq] at h1
    subst h1
    exact ⟨.flt k y, fun q => rfl, fun E v hv => hv⟩
  · cases h; rename_i y; exact ⟨.str y, fun q => rfl, fun E v hv => hv⟩
  · cases h; exact ⟨.nilp, fun q => rfl, fun E v hv => hv⟩
  · obtain ⟨h1, rfl⟩ := oneIf_some h
    rename_i j o i o'
    simp only [Bool.and_eq_true, beqN] at h1
    obtain ⟨h1, rfl⟩ := h1
    refine ⟨.ptr j o, fun q => rfl, fun E v hv => ?_⟩
    obtain ⟨b, o1, z, e, hv⟩ := hv
    exact ⟨b, o1, z, (idm_ok h1).1.trans e, hv⟩
  · obtain ⟨h1, rfl⟩ := oneIf_some h
    rename_i j o es fu i o' es' n fu'
    simp only [Bool.and_eq_true, beqN] at h1
    obtain ⟨h1, rfl, rfl, h2⟩ := h1
    refine ⟨.sl j o es (.s n.val) fu, fun q => rfl, fun E v hv => ?_⟩
    obtain ⟨base, m, cap, hv, hn, hc, h0, h3⟩ := hv
    refine ⟨base, m, cap, hv, hn, hc, h0, fun a ha => ?_⟩
    obtain ⟨g, b, o1, z, e, g2, g3⟩ := h3 a ha
    exact ⟨(idm_ok (lim := lim) (E := E) h1).2 g, b, o1, z, (idm_ok h1).1.trans e, g2, fun hf => g3 (by subst hf; simpa using h2)⟩
  · obtain ⟨h1, rfl⟩ := oneIf_some h
    rename_i j o es m' fu i o' es' n fu'
    simp only [Bool.and_eq_true, beqN, decide_eq_true_eq] at h1
    obtain ⟨h1, rfl, rfl, h2, rfl⟩ := h1
    refine ⟨.sl j o es (.c m') fu, fun q => rfl, fun E v hv => ?_⟩
    obtain ⟨base, m, cap, hv, hn, hc, h0, h3⟩ := hv
    refine ⟨base, m, cap, hv, hn, hc, h0, fun a ha => ?_⟩
    obtain ⟨g, b, o1, z, e, g2, g3⟩ := h3 a ha
    exact ⟨(idm_ok (lim := lim) (E := E) h1).2 g, b, o1, z, (idm_ok h1).1.trans e, g2, fun hf => g3 (by subst hf; simpa using h2)⟩
  · cases h
theorem mL_ok {ρ : List (Nat × Nat)} {nx lim : Nat} : ∀ {k : List KC} {m : List SC} {l : List LD}, mL ρ nx k m = some l → ∃ m', (∀ q, bL k (l ++ q) = some (m', q)) ∧ m'.length = m.length ∧
    (∀ i, i < m.length → ∀ (E : EM) v, RelC E (m.getD i .any) v → RelC (reE ρ nx lim E) (m'.getD i .any) v)
  | [], [], l, h => by cases h; exact ⟨[], fun q => rfl, rfl, fun i hi => by simp at hi⟩
  | [], _ :: _, l, h => by cases h
  | _ :: _, [], l, h => by cases h
  | k :: ks, x :: m, l, h => by
    replace h : (bindO (mC ρ nx k x) fun a => bindO (mL ρ nx ks m) fun b => some (a ++ b)) = some l := h
    obtain ⟨a, ha, h⟩ := bindO_some h
    obtain ⟨b, hb, h⟩ := bindO_some h
    cases h
    obtain ⟨x', h1, h2⟩ := mC_ok (lim := lim) ha
    obtain ⟨m', h3, h4, h5⟩ := mL_ok hb
    refine ⟨x' :: m', fun q => ?_, by simp [h4], fun i hi E v hv => ?_⟩
    · show (bindO (bC k (a ++ b ++ q)) fun r => bindO (bL ks r.2) fun q => some (r.1 :: q.1, q.2)) = _
      rw [List.append_assoc, h1]
      show (bindO (bL ks (b ++ q)) fun q => some (x' :: q.1, q.2)) = _
      rw [h3]; rfl
    · cases i with
      | zero => exact h2 E v hv
      | succ i => exact h5 i (by simpa using hi) E v hv
theorem mL_rel {ρ : List (Nat × Nat)} {nx lim : Nat} {E : EM} {m m' : List SC} {vs : List Value} (hl : m'.length = m.length) (h : ∀ i, i < m.length → ∀ (E : EM) v, RelC E (m.getD i .any) v → RelC (reE ρ nx lim E) (m'.getD i .any) v) (hr : RelL E m vs) : RelL (reE ρ nx lim E) m' vs := by
  refine RelL.of_getD (by rw [hl, hr.len]) fun k hk => ?_
  obtain ⟨v, h1, h2⟩ := hr.getD k (by omega)
  exact ⟨v, h1, h k (by omega) E v h2⟩
theorem mV_ok {ρ : List (Nat × Nat)} {nx lim : Nat} {k : KV} {x : SV} {l : List LD} (h : mV ρ nx k x = some l) : ∃ x', (∀ q, bV k (l ++ q) = some (x', q)) ∧ ∀ (E : EM) v, RelV E x v → RelV (reE ρ nx lim E) x' v := by
  unfold mV at h
  split at h
  · cases h; exact ⟨.any, fun q => rfl, fun E v hv => trivial⟩
  · obtain ⟨x', h1, h2⟩ := mC_ok (lim := lim) h
    exact ⟨.c x', fun q => by simp only [bV, h1]; rfl, h2⟩
  · obtain ⟨m', h1, h2, h3⟩ := mL_ok (lim := lim) h
    refine ⟨.a m', fun q => by simp only [bV, h1]; rfl, fun E v hv => ?_⟩
    obtain ⟨vs, hv, hr⟩ := hv
    exact ⟨vs, hv, mL_rel h2 h3 hr⟩
  · cases h
/-- What 'g'' keeps of 'g'. -/
structure SegRe (ρ : List (Nat × Nat)) (nx lim : Nat) (g g' : Seg) : Prop where
  rw : g'.rw = true → g.rw = true
  own : g'.own = true → g.own = true
  len : g'.body.len = g.body.len
  at_ : ∀ (E : EM) k v, k < g.body.len → RelC E (g.body.at k) v → RelC (reE ρ nx lim E) (g'.body.at k) v
theorem flatR_ok {row : Int → List SC} (h : flatR row = true) (j : Int) : flatL (row j) = true := @of_decide_eq_true _ (Classical.propDecidable _) h j
theorem flatL_getD {l : List SC} (h : flatL l = true) (k : Nat) : flatC (l.getD k .any) = true := by
  induction l generalizing k with
  | nil => simp [flatC]
  | cons x l ih =>
    simp only [flatL] at h
    split at h
    · rename_i hx
      cases k with
      | zero => simpa using hx
      | succ k => simpa using ih h k
    · cases h
theorem mB_ok {ρ : List (Nat × Nat)} {nx lim : Nat} {k : KB} {x : SBody} {l : List LD} {ob : List Bool} (h : mB ρ nx k x = some (l, ob)) (hob : AllT ob) : ∃ x', (∀ q, bB k (l ++ q) = some (x', q)) ∧ x'.len = x.len ∧
    ∀ (E : EM) k v, k < x.len → RelC E (x.at k) v → RelC (reE ρ nx lim E) (x'.at k) v := by
  unfold mB at h
  split at h
  · obtain ⟨r, hr, h⟩ := bindO_some h
    cases h
    obtain ⟨m', h1, h2, h3⟩ := mL_ok (lim := lim) hr
    exact ⟨.cells m', fun q => by simp only [bB, h1]; rfl, h2, fun E i v hi hv => h3 i hi E v hv⟩
  · split at h <;> cases h
    rename_i st st' n row hst
    rw [beqN] at hst
    subst hst
    refine ⟨_, fun q => rfl, rfl, fun E i v _ hv => ?_⟩
    exact flatC_ok (flatL_getD (flatR_ok hob.head _) _) hv
  · cases h
    exact ⟨_, fun q => rfl, by simp [SBody.len], fun E i v hi _ => by simp [SBody.len] at hi⟩
  · cases h
theorem mS_ok {ρ : List (Nat × Nat)} {nx lim j : Nat} {k : KS} {g : Option Seg} {l : List LD} {ob : List Bool} (h : mS ρ nx j k g = some (l, ob)) (hob : AllT ob) : ∃ g0 g', g = some g0 ∧ (∀ q, bS k (l ++ q) = some (g', q)) ∧ j < nx ∧ SegRe ρ nx lim g0 g' := by
  unfold mS at h
  split at h <;> try (cases h; done)
  rename_i g
  split at h <;> try (cases h; done)
  rename_i hc
  simp only [Bool.and_eq_true, Nat.ble_eq] at hc
  obtain ⟨c1, c2, c3⟩ := hc
  obtain ⟨x', h1, h2, h3⟩ := mB_ok (lim := lim) h hob
  exact ⟨g, ⟨k.rw, k.own, x'⟩, rfl, fun q => by simp only [bS, h1]; rfl, by omega, fun hr => by simp only at hr; rw [hr] at c1; simpa using c1, fun hr => by simp only at hr; rw [hr] at c2; simpa using c2, h2, h3⟩
theorem mTs_ok {ρ : List (Nat × Nat)} {nx lim : Nat} {gt : Nat → SV} : ∀ {ks : List (Nat × KV)} {l : List LD}, mTs ρ nx gt ks = some l → ∃ vs, (∀ q, bTs ks (l ++ q) = some (vs, q)) ∧ ∀ t x, (t, x) ∈ vs → ∀ (E : EM) v, RelV E (gt t) v → RelV (reE ρ nx lim E) x v
  | [], l, h => by cases h; exact ⟨[], fun q => rfl, fun t x hx => by cases hx⟩
  | k :: ks, l, h => by
    replace h : (bindO (mV ρ nx k.2 (gt k.1)) fun a => bindO (mTs ρ nx gt ks) fun b => some (a ++ b)) = some l := h
    obtain ⟨a, ha, h⟩ := bindO_some h
    obtain ⟨b, hb, h⟩ := bindO_some h
    cases h
    obtain ⟨x', h1, h2⟩ := mV_ok (lim := lim) ha
    obtain ⟨vs, h3, h4⟩ := mTs_ok hb
    refine ⟨(k.1, x') :: vs, fun q => ?_, fun t x hx => ?_⟩
    · show (bindO (bV k.2 (a ++ b ++ q)) fun r => bindO (bTs ks r.2) fun q => some ((k.1, r.1) :: q.1, q.2)) = _
      rw [List.append_assoc, h1]
      show (bindO (bTs ks (b ++ q)) fun q => some ((k.1, x') :: q.1, q.2)) = _
      rw [h3]; rfl
    · rcases List.mem_cons.1 hx with hx | hx
      · cases hx; exact h2
      · exact h4 t x hx
theorem mSs_ok {ρ : List (Nat × Nat)} {nx lim : Nat} {gs : Nat → Option Seg} : ∀ {ks : List (Nat × KS)} {l : List LD} {ob : List Bool}, mSs ρ nx gs ks = some (l, ob) → AllT ob → ∃ vs, (∀ q, bSs ks (l ++ q) = some (vs, q)) ∧
    ∀ j x, (j, x) ∈ vs → j ∈ fstsN ks ∧ j < nx ∧ ∃ g g', gs (frOf ρ j) = some g ∧ x = some g' ∧ SegRe ρ nx lim g g'
  | [], l, ob, h, _ => by cases h; exact ⟨[], fun q => rfl, fun t x hx => by cases hx⟩
  | k :: ks, l, ob, h, hob => by
    replace h : (bindO (mS ρ nx k.1 k.2 (gs (frOf ρ k.1))) fun a => bindO (mSs ρ nx gs ks) fun b => some (a.1 ++ b.1, a.2 ++ b.2)) = some (l, ob) := h
    obtain ⟨a, ha, h⟩ := bindO_some h
    obtain ⟨b, hb, h⟩ := bindO_some h
    cases h
    obtain ⟨g, g', h1, h2, h3, h4⟩ := mS_ok (lim := lim) ha hob.append.1
    obtain ⟨vs, h5, h6⟩ := mSs_ok hb hob.append.2
    refine ⟨(k.1, some g') :: vs, fun q => ?_, fun t x hx => ?_⟩
    · show (bindO (bS k.2 (a.1 ++ b.1 ++ q)) fun r => bindO (bSs ks r.2) fun q => some ((k.1, some r.1) :: q.1, q.2)) = _
      rw [List.append_assoc, h2]
      show (bindO (bSs ks (b.1 ++ q)) fun q => some ((k.1, some g') :: q.1, q.2)) = _
      rw [h5]; rfl
    · rcases List.mem_cons.1 hx with hx | hx
      · cases hx; exact ⟨by simp [fstsN], h3, g, g', h1, rfl, h4⟩
      · obtain ⟨q1, q2⟩ := h6 t x hx
        exact ⟨by simp only [fstsN, List.mem_cons]; exact .inr q1, q2⟩
theorem apartR_ok {ρ : List (Nat × Nat)} {l : List Nat} (h : apartR ρ l = true) {i j : Nat} (hi : i ∈ l) (hj : j ∈ l) (hne : i ≠ j) : frOf ρ i ≠ frOf ρ j := by
  unfold apartR at h
  rw [List.all_eq_true] at h
  have := h i hi
  rw [List.all_eq_true] at this
  have := this j hj
  simp only [Bool.or_eq_true, Bool.not_eq_true', beqN] at this
  rcases this with h | h
  · exact absurd h hne
  · intro e; rw [beqN.2 e] at h; cases h
end
end Go.Proofs.YtaodbpejeglmlaaDoor
