/- A region, in the text's order. Nothing is assumed. -/
import Derived.Test.YtaodbpejeglmlaaDoorSl
namespace Go.Proofs.YtaodbpejeglmlaaDoor
open Go

/-- Where the ids of a run come from: those of 'e0', and those from 'base' on. -/
structure Rg where
  e0 : EM
  base : Nat
  lim : Nat
structure SRel (N : Nat) (Lim : Rg) (w0 : World) (T0 : Nat → Nat → Prop) (E : EM) (tm : Nat → SV) (sg : Nat → Option Seg) (next : Nat) (a : Act) (w : World) : Prop where
  tm : ∀ t, RelV E (tm t) (a.tmps.getD t undef)
  size : a.tmps.size = N
  dfr : a.defers = []
  mem : MemRel w0 T0 E sg w
  news : ∀ i, E i ≠ none → Lim.e0 i ≠ none ∨ (Lim.base ≤ i ∧ i < next)
  old : ∀ i, Lim.base ≤ i → i < Lim.lim → Lim.e0 i = none
  bn : Lim.base ≤ next
  pos : 1 ≤ next
theorem SRel.fresh {N : Nat} {Lim : Rg} {w0 : World} {T0 : Nat → Nat → Prop} {E : EM} {tm : Nat → SV} {sg : Nat → Option Seg} {next : Nat} {a : Act} {w : World} (h : SRel N Lim w0 T0 E tm sg next a w) (i : Nat) (h1 : next ≤ i) (h2 : i < Lim.lim) : E i = none := by
  cases hE : E i with
  | none => rfl
  | some x =>
    rcases h.news i (by rw [hE]; simp) with h3 | h3
    · exact absurd (h.old i (Nat.le_trans h.bn h1) h2) h3
    · omega
theorem SRel.le {N : Nat} {Lim : Rg} {w0 : World} {T0 : Nat → Nat → Prop} {E : EM} {tm tm' : Nat → SV} {sg sg' : Nat → Option Seg} {next next' : Nat} {a : Act} {w : World} (h : SRel N Lim w0 T0 E tm sg next a w) (l : Le tm sg tm' sg') (hn : next ≤ next') : SRel N Lim w0 T0 E tm' sg' next' a w :=
  ⟨fun t => l.tm E t _ (h.tm t), h.size, h.dfr, h.mem.weaken l.sg, fun i h1 => (h.news i h1).imp id fun h2 => ⟨h2.1, Nat.lt_of_lt_of_le h2.2 hn⟩, h.old, Nat.le_trans h.bn hn, Nat.le_trans h.pos hn⟩

/-! ### free ids only grow -/
theorem appOwn_next {gs : Nat → Option Seg} {next i1 i2 n m es : Nat} {new : List SC} {e : Eff} (h : appOwn gs next i1 i2 n m es new = some e) : next ≤ e.next := by
  unfold appOwn at h
  split at h <;> try (cases h; done)
  split at h
  · split at h <;> cases h; exact Nat.le_refl _
  · split at h <;> try (cases h; done)
    split at h <;> cases h; exact Nat.le_succ _
theorem sApp_next {P : Program} {el : TypeId} {gs : Nat → Option Seg} {next i1 o1 e1 n : Nat} {f1 : Bool} {i2 o2 e2 m es by' : Nat} {z : List SC} {e : Eff} (h : sApp P el gs next i1 o1 e1 n f1 i2 o2 e2 m es by' z = some e) : next ≤ e.next := by
  unfold sApp at h
  split at h <;> try (cases h; done)
  obtain ⟨new, _, h⟩ := bindO_some h
  split at h
  · split at h <;> try (cases h; done)
    split at h <;> cases h
    · exact Nat.le_refl _
    · exact Nat.le_succ _
  · split at h <;> try (cases h; done)
    exact appOwn_next h
theorem sAppR_next {gs : Nat → Option Seg} {next i1 o1 e1 : Nat} {n : SI} {f1 : Bool} {i2 o2 e2 : Nat} {m : SI} {es by' : Nat} {z : List SC} {e : Eff} (h : sAppR gs next i1 o1 e1 n f1 i2 o2 e2 m es by' z = some e) : next ≤ e.next := by
  unfold sAppR at h
  split at h <;> try (cases h; done)
  split at h <;> try (cases h; done)
  obtain ⟨g2, _, h⟩ := bindO_some h
  unfold appR at h
  split at h <;> try (cases h; done)
  · split at h <;> try (cases h; done)
    split at h <;> try (cases h; done)
    split at h <;> try (cases h; done)
    split at h <;> cases h; exact Nat.le_succ _
  · split at h <;> try (cases h; done)
    split at h <;> try (cases h; done)
    split at h <;> try (cases h; done)
    split at h
    · split at h <;> cases h; exact Nat.le_succ _
    · split at h <;> try (cases h; done)
      split at h <;> try (cases h; done)
      split at h <;> cases h; exact Nat.le_succ _
theorem sAppRR_next {gs : Nat → Option Seg} {next i1 o1 e1 : Nat} {n : SI} {f1 : Bool} {i2 e2 : Nat} {idx m : Int} {es by' : Nat} {z : List SC} {e : Eff} (h : sAppRR gs next i1 o1 e1 n f1 i2 e2 idx m es by' z = some e) : next ≤ e.next := by
  unfold sAppRR at h
  split at h <;> try (cases h; done)
  split at h <;> try (cases h; done)
  split at h <;> try (cases h; done)
  split at h <;> try (cases h; done)
  split at h <;> cases h; exact Nat.le_succ _
theorem sop_next {cx : Cx} {gt : Nat → SV} {gs : Nat → Option Seg} {next : Nat} {op : Op} {e : Eff} (h : sop cx gt gs next op = some e) : next ≤ e.next := by
  have ret : ∀ {x : Option SV}, bindO x (retV next) = some e → next ≤ e.next := by
    intro x hx
    obtain ⟨s, _, h⟩ := bindO_some hx
    cases h; exact Nat.le_refl _
  have retO' : ∀ {x : Option (SC × List Bool)}, retO next x = some e → next ≤ e.next := by
    intro x hx
    obtain ⟨_, _, _, rfl⟩ := retO_some hx
    exact Nat.le_refl _
  cases op with
  | move x => exact ret h
  | assign x => exact ret h
  | pick c x y =>
    obtain ⟨q, _, h⟩ := bindC_some (show bindC (ev gt c) (fun c => oPick next c (ev gt x) (ev gt y)) = some e from h)
    unfold oPick at h
    split at h
    · exact ret h
    · exact ret h
    · obtain ⟨_, _, h⟩ := bindO_some h
      obtain ⟨_, _, h⟩ := bindO_some h
      cases h; exact Nat.le_refl _
    · cases h
  | alloc t =>
    have h' : oAlloc next (tzero cx.P t) (tsize cx.P t) = some e := h
    unfold oAlloc at h'
    obtain ⟨_, _, h'⟩ := bindO_some h'
    obtain ⟨_, _, h'⟩ := bindO_some h'
    split at h' <;> cases h'; exact Nat.le_succ _
  | box t x =>
    obtain ⟨_, _, h⟩ := bindO_some (show bindO (evL gt x) (fun l => newE next (.ptr next 0) l) = some e from h)
    cases h; exact Nat.le_succ _
  | build t parts =>
    obtain ⟨z, hz, h⟩ := bindO_some (show bindO (tzero cx.P t) (fun z => oBuild cx.P gt next z (cx.P.underlying t) parts.toList) = some e from h)
    unfold oBuild at h
    split at h
    · obtain ⟨_, _, h⟩ := bindO_some h
      obtain ⟨_, _, h⟩ := bindO_some h
      cases h; exact Nat.le_refl _
    · obtain ⟨_, _, h⟩ := bindO_some h
      obtain ⟨_, _, h⟩ := bindO_some h
      cases h; exact Nat.le_refl _
    · cases h
  | buildSlice t len parts =>
    obtain ⟨el, _, h⟩ := bindO_some (show bindO (telem cx.P t) (fun el => oBuildSlice cx.P gt next el len parts.toList) = some e from h)
    unfold oBuildSlice at h
    obtain ⟨_, _, h⟩ := bindO_some h
    obtain ⟨_, _, h⟩ := bindO_some h
    split at h <;> try (cases h; done)
    obtain ⟨_, _, h⟩ := bindO_some h
    cases h; exact Nat.le_succ _
  | load t x =>
    obtain ⟨p, _, h⟩ := bindC_some (show bindC (ev gt x) (fun p => oLoad cx.P gs next t p) = some e from h)
    unfold oLoad at h
    obtain ⟨_, _, h⟩ := bindO_some h
    obtain ⟨_, _, h⟩ := bindO_some h
    obtain ⟨_, _, h⟩ := bindO_some h
    obtain ⟨_, _, h⟩ := bindO_some h
    obtain ⟨_, _, h⟩ := bindO_some h
    obtain ⟨_, _, h⟩ := bindO_some h
    cases h; exact Nat.le_refl _
  | store t x y =>
    obtain ⟨p, _, h⟩ := bindC_some (show bindC (ev gt x) (fun p => oStore cx.P gs next t p (evL gt y)) = some e from h)
    unfold oStore at h
    obtain ⟨_, _, h⟩ := bindO_some h
    obtain ⟨_, _, h⟩ := bindO_some h
    obtain ⟨_, _, h⟩ := bindO_some h
    obtain ⟨_, _, h⟩ := bindO_some h
    split at h <;> try (cases h; done)
    unfold oStore2 at h
    split at h <;> try (cases h; done)
    obtain ⟨_, _, h⟩ := bindO_some h
    cases h; exact Nat.le_refl _
  | nilCheck x =>
    obtain ⟨p, _, h⟩ := bindC_some (show bindC (ev gt x) (fun p => oNil next p) = some e from h)
    unfold oNil at h
    obtain ⟨_, _, h⟩ := bindO_some h
    cases h; exact Nat.le_refl _
  | binOp op t x y ty =>
    obtain ⟨p, _, h⟩ := bindC_some (show bindC (ev gt x) (fun p => bindC (ev gt y) fun q => retO next (sBin cx.O (tbool cx.P t) op p q)) = some e from h)
    obtain ⟨q, _, h⟩ := bindC_some h
    exact retO' h
  | unOp op t x =>
    obtain ⟨p, _, h⟩ := bindC_some (show bindC (ev gt x) (fun p => oUn cx.O next op p) = some e from h)
    unfold oUn at h
    obtain ⟨_, _, h⟩ := bindO_some h
    cases h; exact Nat.le_refl _
  | convert s d x =>
    obtain ⟨p, _, h⟩ := bindC_some (show bindC (ev gt x) (fun p => oConvB cx.P cx.O gs next s d p) = some e from h)
    unfold oConvB at h
    split at h
    · unfold oBytes at h
      split at h <;> try (cases h; done)
      split at h <;> try (cases h; done)
      split at h <;> try (cases h; done)
      obtain ⟨_, _, h⟩ := bindO_some h
      obtain ⟨_, _, h⟩ := bindO_some h
      obtain ⟨_, _, h⟩ := bindO_some h
      cases h; exact Nat.le_refl _
    unfold oConv at h
    obtain ⟨_, _, h⟩ := bindO_some h
    obtain ⟨_, _, h⟩ := bindO_some h
    exact retO' h
  | makeSlice t l c =>
    obtain ⟨p, _, h⟩ := bindC_some (show bindC (ev gt l) (fun p => bindC (ev gt c) fun q => sMake cx.P t next p q) = some e from h)
    obtain ⟨q, _, h⟩ := bindC_some h
    cases p <;> cases q <;> simp only [sMake] at h <;> try (cases h; done)
    split at h <;> try (cases h; done)
    split at h <;> try (cases h; done)
    unfold sMake2 at h
    split at h <;> try (cases h; done)
    split at h
    · split at h <;> cases h; exact Nat.le_succ _
    · cases h; exact Nat.le_succ _
    · cases h
  | slice t x lo hi mx =>
    obtain ⟨p, _, h⟩ := bindC_some (show bindC (ev gt x) (fun p => oSlice cx.P gt gs next t p lo hi mx) = some e from h)
    unfold oSlice at h
    split at h <;> try (cases h; done)
    split at h
    · unfold oSliceS at h
      split at h <;> try (cases h; done)
      obtain ⟨_, _, h⟩ := bindO_some h
      split at h <;> try (cases h; done)
      split at h
      · split at h <;> try (cases h; done)
        split at h <;> cases h; exact Nat.le_refl _
      · split at h
        · split at h <;> cases h; exact Nat.le_refl _
        · obtain ⟨_, _, h⟩ := bindO_some h
          cases h; exact Nat.le_refl _
    · unfold oSliceV at h
      split at h <;> try (cases h; done)
      split at h <;> try (cases h; done)
      obtain ⟨_, _, h⟩ := bindO_some h
      obtain ⟨_, _, h⟩ := bindO_some h
      split at h <;> try (cases h; done)
      obtain ⟨_, _, h⟩ := bindO_some h
      split at h <;> cases h; exact Nat.le_succ _
    · obtain ⟨_, _, h⟩ := bindO_some h
      cases h; exact Nat.le_refl _
  | fieldAddr s x f =>
    obtain ⟨p, _, h⟩ := bindC_some (show bindC (ev gt x) (fun p => oFieldAddr cx.P next (cx.P.underlying s) p f) = some e from h)
    unfold oFieldAddr at h
    split at h <;> try (cases h; done)
    obtain ⟨_, _, h⟩ := bindO_some h
    split at h <;> try (cases h; done)
    obtain ⟨_, _, h⟩ := bindO_some h
    cases h; exact Nat.le_refl _
  | field s x f =>
    obtain ⟨p, _, h⟩ := bindO_some (show bindO (ev gt x) (fun p => oField cx.P next (cx.P.underlying s) p f) = some e from h)
    unfold oField at h
    split at h <;> try (cases h; done)
    split at h <;> try (cases h; done)
    obtain ⟨_, _, h⟩ := bindO_some h
    obtain ⟨_, _, h⟩ := bindO_some h
    obtain ⟨_, _, h⟩ := bindO_some h
    obtain ⟨_, _, h⟩ := bindO_some h
    exact ret h
  | indexAddr t x i =>
    obtain ⟨p, _, h⟩ := bindC_some (show bindC (ev gt x) (fun p => bindC (ev gt i) fun n => oIndexAddr cx.P gs next (cx.P.underlying t) p n) = some e from h)
    obtain ⟨q, _, h⟩ := bindC_some h
    unfold oIndexAddr at h
    split at h <;> try (cases h; done)
    split at h
    · split at h <;> try (cases h; done)
      obtain ⟨_, _, h⟩ := bindO_some h
      exact retO' h
    · unfold oIndexAddr2 at h
      split at h <;> try (cases h; done)
      obtain ⟨_, _, h⟩ := bindO_some h
      obtain ⟨_, _, h⟩ := bindO_some h
      cases h; exact Nat.le_refl _
    · cases h
  | index t x i =>
    obtain ⟨p, _, h⟩ := bindO_some (show bindO (ev gt x) (fun p => bindC (ev gt i) fun n => oIndex cx.P next (cx.P.underlying t) p n) = some e from h)
    obtain ⟨q, _, h⟩ := bindC_some h
    unfold oIndex at h
    split at h <;> try (cases h; done)
    split at h <;> try (cases h; done)
    rotate_left
    · unfold oIndexStr at h
      split at h <;> cases h; exact Nat.le_refl _
    split at h <;> try (cases h; done)
    obtain ⟨_, _, h⟩ := bindO_some h
    obtain ⟨_, _, h⟩ := bindO_some h
    unfold oIndex2 at h
    split at h
    · split at h <;> try (cases h; done)
      obtain ⟨_, _, h⟩ := bindO_some h
      exact ret h
    · obtain ⟨_, _, h⟩ := bindO_some h
      obtain ⟨_, _, h⟩ := bindO_some h
      cases h; exact Nat.le_refl _
    · cases h
  | extract x i =>
    obtain ⟨p, _, h⟩ := bindO_some (show bindO (ev gt x) (fun p => oExtract next p i) = some e from h)
    unfold oExtract at h
    split at h <;> try (cases h; done)
    split at h <;> cases h <;> exact Nat.le_refl _
  | call c =>
    have h' : oCall cx gt gs next c = some e := h
    unfold oCall at h'
    split at h'
    · split at h'
      · unfold oLen at h'
        split at h' <;> try (cases h'; done)
        obtain ⟨_, _, h'⟩ := bindC_some h'
        obtain ⟨_, _, h'⟩ := bindO_some h'
        cases h'; exact Nat.le_refl _
      · unfold oAppend at h'
        split at h' <;> try (cases h'; done)
        obtain ⟨_, _, h'⟩ := bindO_some h'
        obtain ⟨_, _, h'⟩ := bindC_some h'
        obtain ⟨_, _, h'⟩ := bindC_some h'
        unfold sAppend at h'
        split at h' <;> try (cases h'; done)
        · obtain ⟨_, _, h'⟩ := bindO_some h'
          obtain ⟨_, _, h'⟩ := bindO_some h'
          obtain ⟨_, _, h'⟩ := bindO_some h'
          obtain ⟨_, _, h'⟩ := bindO_some h'
          exact sApp_next h'
        · obtain ⟨_, _, h'⟩ := bindO_some h'
          obtain ⟨_, _, h'⟩ := bindO_some h'
          obtain ⟨_, _, h'⟩ := bindO_some h'
          obtain ⟨_, _, h'⟩ := bindO_some h'
          exact sAppR_next h'
        · obtain ⟨_, _, h'⟩ := bindO_some h'
          obtain ⟨_, _, h'⟩ := bindO_some h'
          obtain ⟨_, _, h'⟩ := bindO_some h'
          obtain ⟨_, _, h'⟩ := bindO_some h'
          exact sAppRR_next h'
      · cases h'
    · split at h' <;> try (cases h'; done)
      obtain ⟨_, _, h'⟩ := bindO_some h'
      obtain ⟨_, _, h'⟩ := bindO_some h'
      unfold oFn at h'
      obtain ⟨c', _, h'⟩ := bindO_some h'
      cases hb : (wsOk next c'.next (reach gs _) c'.ws && Nat.ble 1 next && Nat.ble next c'.next) with
      | false => rw [hb] at h'; cases h'
      | true =>
        rw [hb] at h'; cases h'
        simp only [Bool.and_eq_true, Nat.ble_eq] at hb
        exact hb.2
    · cases h'
  | _ => cases h

/-! ### the way through a region that a run takes -/
def conc (e0 e : Eff) : Prop := e = e0 ∨ ∃ b, e0.val = .c (.bool (.s b)) ∧ e = withVal e0 (.c (.bool (sbOf b)))
theorem sbOf_val (b : Bool) : (sbOf b).val = b := by cases b <;> rfl
theorem conc_val {e0 e : Eff} (h : conc e0 e) {E : EM} {v : Value} (hv : RelV E e0.val v) : RelV E e.val v := by
  rcases h with rfl | ⟨b, h1, rfl⟩
  · exact hv
  · rw [h1] at hv
    have hv' : v = .bool b := hv
    show v = .bool (sbOf b).val
    rw [sbOf_val]; exact hv'
theorem conc_ws {e0 e : Eff} (h : conc e0 e) : e.ws = e0.ws ∧ e.next = e0.next ∧ e.rd = e0.rd := by
  rcases h with rfl | ⟨b, _, rfl⟩ <;> exact ⟨rfl, rfl, rfl⟩
def skipE (next : Nat) : Eff := ⟨.undef, [], next, [], []⟩
inductive Steps (cx : Cx) (N : Nat) (ops : List Oper) : List Oper → (Nat → SV) → (Nat → Option Seg) → Nat → List Eff → Prop where
  | nil {tm : Nat → SV} {sg : Nat → Option Seg} {next : Nat} : Steps cx N ops [] tm sg next []
  | skip {o : Oper} {rest : List Oper} {tm : Nat → SV} {sg : Nat → Option Seg} {next : Nat} {es : List Eff} : dstOk N o.dst = true → wantedS ops tm o = some false → Steps cx N ops rest (appT o.dst (skipE next) tm) sg next es → Steps cx N ops (o :: rest) tm sg next (skipE next :: es)
  | step {o : Oper} {rest : List Oper} {tm : Nat → SV} {sg : Nat → Option Seg} {next : Nat} {e0 e : Eff} {es : List Eff} : dstOk N o.dst = true → wantedS ops tm o = some true → sop cx tm sg next o.op = some e0 → AllT e0.obs → conc e0 e → Steps cx N ops rest (appT o.dst e tm) (updSs sg e.ws) e.next es → Steps cx N ops (o :: rest) tm sg next (e :: es)
def stT : List Oper → List Eff → (Nat → SV) → Nat → SV
  | o :: l, e :: es, tm => stT l es (appT o.dst e tm)
  | _, _, tm => tm
def stS : List Eff → (Nat → Option Seg) → Nat → Option Seg
  | e :: es, sg => stS es (updSs sg e.ws)
  | [], sg => sg
def stN : List Eff → Nat → Nat
  | e :: es, _ => stN es e.next
  | [], n => n
theorem Steps.mono {cx : Cx} {N : Nat} {ops : List Oper} {l : List Oper} {tm : Nat → SV} {sg : Nat → Option Seg} {next : Nat} {es : List Eff} (h : Steps cx N ops l tm sg next es) : next ≤ stN es next := by
  induction h with
  | nil => exact Nat.le_refl _
  | skip _ _ _ ih => exact ih
  | step _ _ h3 _ h5 _ ih => exact Nat.le_trans (by rw [(conc_ws h5).2.1]; exact sop_next h3) ih

theorem revE_eq : ∀ (l acc : List Eff), revE l acc = l.reverse ++ acc
  | [], _ => rfl
  | x :: l, acc => by
    change revE l (x :: acc) = _
    rw [revE_eq l]; simp
theorem AllT.map_or {l : List Bool} {b : Bool} (h : AllT (l.map (b || ·))) (hb : b = false) : AllT l := fun c hc => by
  have := h (b || c) (List.mem_map.2 ⟨c, hc, rfl⟩)
  rw [hb] at this; exact this
theorem srg_path {cx : Cx} {N : Nat} {draw : Bool} {ops : List Oper} : ∀ {l : List Oper} {R : List Ly} {i : Nat} {T T' : Top} {acc : List Eff} {obs : List Bool}, srg cx N draw ops l R i T acc = some (T', obs) → AllT obs →
    ∃ es, Steps cx N ops l (getT (T.ly :: R)) (getS (T.ly :: R)) T.next es ∧ (draw = true → okAllE (acc.reverse ++ es) 0 (ancs ops []) = true) ∧
      Le (stT l es (getT (T.ly :: R))) (stS es (getS (T.ly :: R))) (getT (T'.ly :: R)) (getS (T'.ly :: R)) ∧ stN es T.next ≤ T'.next
  | [], R, i, T, T', acc, obs, h, hob => by
    have h' : srgEnd draw ops T acc = some (T', obs) := h
    unfold srgEnd at h'
    split at h'
    · cases h'; exact ⟨[], .nil, (fun e => by cases e), Le.refl _ _, Nat.le_refl _⟩
    · split at h' <;> cases h'
      rename_i hok
      refine ⟨[], .nil, fun _ => ?_, Le.refl _ _, Nat.le_refl _⟩
      rw [revE_eq] at hok
      exact hok
  | o :: rest, R, i, T, T', acc, obs, h, hob => by
    have h' : srg1 cx N ops rest o (fun R i T acc => srg cx N draw ops rest R i T acc) R i T acc = some (T', obs) := h
    unfold srg1 at h'
    split at h' <;> try (cases h'; done)
    rename_i hd
    split at h' <;> try (cases h'; done)
    · rename_i hw
      rw [applyK_eq] at h'
      obtain ⟨es, h1, h2, h3, h4⟩ := srg_path h' hob
      rw [getT_applyE, getS_applyE] at h1 h3
      refine ⟨skipE T.next :: es, .skip hd hw h1, fun hdr => ?_, h3, h4⟩
      have := h2 hdr
      rw [List.reverse_cons, List.append_assoc] at this
      exact this
    · rename_i hw
      obtain ⟨e0, he0, h'⟩ := bindO_some h'
      unfold srgOp at h'
      split at h'
      · rename_i hf
        rw [applyHK_eq] at h'
        unfold addObs at h'
        split at h' <;> cases h'
        rename_i ob hr
        obtain ⟨hob1, hob2⟩ := hob.append
        obtain ⟨es, h1, h2, h3, h4⟩ := srg_path hr hob2
        rw [getT_applyH, getS_applyH T o.dst e0 R he0] at h1 h3
        rw [applyH_next] at h1 h4
        refine ⟨e0 :: es, .step hd hw he0 hob1 (.inl rfl) h1, fun hdr => ?_, h3, h4⟩
        have := h2 hdr
        simpa using this
      · rename_i b hf
        rw [applyK_eq, applyK_eq] at h'
        unfold forkEnd at h'
        split at h' <;> cases h'
        rename_i V1 ob1 V2 ob2 hr1 hr2
        obtain ⟨hob12, hob3⟩ := hob.append
        obtain ⟨hob1, hob2⟩ := hob12.append
        have hval : e0.val = .c (.bool (.s b)) := by
          unfold forkOf at hf
          split at hf <;> try (cases hf; done)
          split at hf <;> cases hf
          assumption
        cases b with
        | true =>
          obtain ⟨es, h1, h2, h3, h4⟩ := srg_path hr1 (hob2.map_or rfl)
          rw [getT_applyE, getS_applyE, getT_empty, getS_empty] at h1 h3
          refine ⟨withVal e0 (.c (.bool .t)) :: es, .step hd hw he0 hob1 (.inr ⟨true, hval, rfl⟩) h1, fun hdr => ?_, (h3.trans (mergeTop_le1 _ V1 V2 rfl)).trans (commit_le T _ R), ?_⟩
          · have := h2 hdr; simpa using this
          · rw [commit_next, mergeTop_next]
            exact Nat.le_trans h4 (Nat.le_max_left _ _)
        | false =>
          obtain ⟨es, h1, h2, h3, h4⟩ := srg_path hr2 (hob3.map_or rfl)
          rw [getT_applyE, getS_applyE, getT_empty, getS_empty] at h1 h3
          refine ⟨withVal e0 (.c (.bool .f)) :: es, .step hd hw he0 hob1 (.inr ⟨false, hval, rfl⟩) h1, fun hdr => ?_, (h3.trans (mergeTop_le2 _ V1 V2 rfl)).trans (commit_le T _ R), ?_⟩
          · have := h2 hdr; simpa using this
          · rw [commit_next, mergeTop_next]
            exact Nat.le_trans h4 (Nat.le_max_right _ _)

/-! ### one operation of a region -/
theorem put_getD (a : Act) (d : Option Tmp) (v : Value) {N : Nat} (hs : a.tmps.size = N) (hd : dstOk N d = true) (t : Nat) : (a.put d v).tmps.getD t undef = if d = some t then v else a.tmps.getD t undef := by
  cases d with
  | none => simp [Act.put]
  | some d =>
    simp only [dstOk, Nat.ble_eq] at hd
    simp only [Act.put, Option.some.injEq]
    by_cases e : d = t
    · subst e
      rw [if_pos rfl]
      have hlt : d < a.tmps.size := by rw [hs]; exact Nat.lt_of_succ_le hd
      simp [Array.getD, hlt]
    · rw [if_neg e]
      simp [Array.getD_eq_getD_getElem?, Array.getElem?_setIfInBounds_ne e]
theorem appT_rel {E E' : EM} (he : Ext E E') {N : Nat} {tm : Nat → SV} {a : Act} (hT : ∀ t, RelV E (tm t) (a.tmps.getD t undef)) (hs : a.tmps.size = N) {d : Option Tmp} (hd : dstOk N d = true) {e : Eff} {v : Value} (hv : RelV E' e.val v) (t : Nat) :
    RelV E' (appT d e tm t) ((a.put d v).tmps.getD t undef) := by
  rw [put_getD a d v hs hd]
  cases d with
  | none => simpa [appT] using (hT t).mono he
  | some d =>
    simp only [appT]
    by_cases h : t = d
    · subst h; rw [upd_same, if_pos rfl]; exact hv
    · rw [upd_other _ _ h, if_neg (by simp; exact fun h' => h h'.symm)]; exact (hT t).mono he
theorem put_size (a : Act) (d : Option Tmp) (v : Value) : (a.put d v).tmps.size = a.tmps.size := by cases d <;> simp [Act.put]
theorem put_defers (a : Act) (d : Option Tmp) (v : Value) : (a.put d v).defers = a.defers := by cases d <;> rfl
theorem yielded_of {ops : Array Oper} {tmps : Array Value} {j d : Nat} {q : Oper} (hq : ops[j]? = some q) (hd : q.dst = some d) : (∀ b, tmps.getD d undef = .bool b → yielded ops tmps j = some b) ∧ (tmps.getD d undef = undef → yielded ops tmps j = none) := by
  unfold yielded
  simp only [hq, Option.bind_some, hd]
  cases ht : tmps[d]? with
  | none => simp [Array.getD_eq_getD_getElem?, ht, undef]
  | some v => simp only [Array.getD_eq_getD_getElem?, ht, Option.getD_some]; exact ⟨fun b hb => by rw [hb], fun hb => by rw [hb]; rfl⟩
theorem wanted_ok {ops : Array Oper} {E : EM} {tm : Nat → SV} {a : Act} (hT : ∀ t, RelV E (tm t) (a.tmps.getD t undef)) {o : Oper} {b : Bool} (h : wantedS ops.toList tm o = some b) : Region.wanted o (yielded ops a.tmps) = b := by
  unfold wantedS at h
  unfold Region.wanted
  split at h
  · rename_i hg; rw [hg]; cases h; rfl
  · rename_i j want hg
    rw [hg]
    split at h <;> try (cases h; done)
    rename_i q hq
    rw [Array.getElem?_toList] at hq
    split at h <;> try (cases h; done)
    rename_i d hd
    have hy := yielded_of (tmps := a.tmps) hq hd
    have hr := hT d
    split at h <;> try (cases h; done)
    · rename_i hv
      rw [hv] at hr
      cases h
      simp [hy.2 hr]
    · rename_i hv
      rw [hv] at hr
      cases h
      simp only [hy.1 true hr]
      cases b <;> rfl
    · rename_i hv
      rw [hv] at hr
      cases h
      simp only [hy.1 false hr]
      cases want <;> rfl

section
variable {cx : Cx} (hO : cx.O = fops) (hC : ∀ f S, cx.orc f = some S → CallOK cx.P f S)
include hO hC
/-- What one operation of a region leaves, wherever it comes up. -/
theorem op_ok {N : Nat} {ops : Array Oper} {w0 w : World} {T0 : Nat → Nat → Prop} {E : EM} {tm : Nat → SV} {sg : Nat → Option Seg} {next : Nat} {a : Act} {Q : Exit → Act → World → Prop} {i : Nat} {o : Oper} (hi : ops[i]? = some o)
    (hT : ∀ t, RelV E (tm t) (a.tmps.getD t undef)) (hm : MemRel w0 T0 E sg w) (h1 : 1 ≤ next) (hw : wantedS ops.toList tm o = some true) {e0 e : Eff} (h : sop cx tm sg next o.op = some e0) (hob : AllT e0.obs) (hc : conc e0 e) (hfr : ∀ i, next ≤ i → i < e.next → E i = none) {K : Act → World → Prop}
    (hK : ∀ E' v w', Ext E E' → (∀ i, E' i ≠ none → E i ≠ none ∨ (next ≤ i ∧ i < e.next)) → RelV E' e.val v → MemRel w0 T0 E' (updSs sg e.ws) w' → K (a.put o.dst v) w') : wpOp cx.P ops Q i K a w := by
  unfold wpOp
  rw [hi]
  simp only [wanted_ok hT hw, if_true]
  left
  obtain ⟨c1, c2, c3⟩ := conc_ws hc
  refine wp_of_next (sop_ok hO hC hm hT h h1 (by rw [← c2]; exact hfr) hob) fun v w' ⟨E', p1, p2, p3, p4⟩ => hK E' v w' p1 (by rw [c2]; exact p2) (conc_val hc p3) (by rw [c1]; exact p4)
omit hO hC in
theorem skip_ok {ops : Array Oper} {E : EM} {tm : Nat → SV} {a : Act} {w : World} {P : Program} {Q : Exit → Act → World → Prop} {i : Nat} {o : Oper} (hi : ops[i]? = some o) (hT : ∀ t, RelV E (tm t) (a.tmps.getD t undef)) (hw : wantedS ops.toList tm o = some false) {K : Act → World → Prop} (hK : K (a.put o.dst undef) w) : wpOp P ops Q i K a w := by
  unfold wpOp
  rw [hi]
  simp only [wanted_ok hT hw, Bool.false_eq_true, if_false]
  exact hK

theorem steps_seq {N : Nat} {Lim : Rg} {ops : Array Oper} {w0 : World} {T0 : Nat → Nat → Prop} {Q : Exit → Act → World → Prop} {l : List Oper} {tm : Nat → SV} {sg : Nat → Option Seg} {next : Nat} {es : List Eff} (hst : Steps cx N ops.toList l tm sg next es) :
    ∀ {k : Nat}, (∀ j, l[j]? = ops[k + j]?) → ∀ {E : EM} {a : Act} {w : World}, SRel N Lim w0 T0 E tm sg next a w → stN es next ≤ Lim.lim → (∀ E' a' w', Ext E E' → SRel N Lim w0 T0 E' (stT l es tm) (stS es sg) (stN es next) a' w' → Q .normal a' w') →
      wpOps cx.P ops Q (List.range' k l.length) a w := by
  induction hst with
  | nil => intro k _ E a w hr _ hQ; exact hQ E a w (Ext.refl E) hr
  | @skip o rest tm sg next es hd hw hs ih =>
    intro k hl E a w hr hlim hQ
    have hi : ops[k]? = some o := by simpa using (hl 0).symm
    rw [List.length_cons, List.range'_succ, wpOps_cons]
    refine skip_ok hi hr.tm hw ?_
    refine ih (k := k + 1) (fun j => by have := hl (j + 1); rw [show k + 1 + j = k + (j + 1) by omega, ← this]; simp) (E := E) ?_ hlim hQ
    exact ⟨appT_rel (Ext.refl E) hr.tm hr.size hd rfl, by rw [put_size]; exact hr.size, by rw [put_defers]; exact hr.dfr, hr.mem, hr.news, hr.old, hr.bn, hr.pos⟩
  | @step o rest tm sg next e0 e es hd hw hsop hob hc hs ih =>
    intro k hl E a w hr hlim hQ
    have hi : ops[k]? = some o := by simpa using (hl 0).symm
    rw [List.length_cons, List.range'_succ, wpOps_cons]
    have hmono := hs.mono
    have hn : next ≤ e.next := by rw [(conc_ws hc).2.1]; exact sop_next hsop
    have hlim' : stN es e.next ≤ Lim.lim := hlim
    refine op_ok hO hC (N := N) hi hr.tm hr.mem hr.pos hw hsop hob hc (fun i h1 h2 => hr.fresh i h1 (by omega)) fun E' v w' p1 p2 p3 p4 => ?_
    refine ih (k := k + 1) (fun j => by have := hl (j + 1); rw [show k + 1 + j = k + (j + 1) by omega, ← this]; simp) (E := E') ?_ hlim' (fun E'' a' w' q1 q2 => hQ E'' a' w' (p1.trans q1) q2)
    refine ⟨appT_rel p1 hr.tm hr.size hd p3, by rw [put_size]; exact hr.size, by rw [put_defers]; exact hr.dfr, p4, fun i h1 => ?_, hr.old, Nat.le_trans hr.bn hn, Nat.le_trans hr.pos hn⟩
    rcases p2 i h1 with h3 | h3
    · exact (hr.news i h3).imp id fun h4 => ⟨h4.1, Nat.lt_of_lt_of_le h4.2 hn⟩
    · exact .inr ⟨Nat.le_trans hr.bn h3.1, h3.2⟩
end

end Go.Proofs.YtaodbpejeglmlaaDoor
