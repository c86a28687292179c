/- Each operation of the model does what the executor says. Nothing is assumed. -/
import Derived.Test.YtaodbpejeglmlaaDoorSe
import Derived.Laws.Tables
namespace Go.Proofs.YtaodbpejeglmlaaDoor
open Go

/-! ### what a run of an operation comes to -/
def NextOK (P : Program) (r : Result Next) (post : Value → World → Prop) : Prop :=
  match r with
  | .ok (.value v) w' => post v w'
  | .ok .skip w' => post undef w'
  | .ok (.enter f args) w' => Calls P f args w' (fun e w'' => ∃ v, e = .returned v ∧ post v w'')
  | _ => False
theorem NextOK.mono {P : Program} {r : Result Next} {post post' : Value → World → Prop} (h : NextOK P r post) (hp : ∀ v w', post v w' → post' v w') : NextOK P r post' := by
  unfold NextOK at *
  split at h
  · exact hp _ _ h
  · exact hp _ _ h
  · exact Calls.mono h fun e w' ⟨v, e', hv⟩ => ⟨v, e', hp _ _ hv⟩
  · exact h.elim
theorem wp_of_next {P : Program} {o : Oper} {a : Act} {w : World} {next : Act → World → Prop} {Q : Exit → Act → World → Prop} {post : Value → World → Prop}
    (h : NextOK P ((execOp a.eval o).run P w) post) (hp : ∀ v w', post v w' → next (a.put o.dst v) w') : o.wp P a w next Q := by
  unfold Oper.wp
  unfold NextOK at h
  split at h
  · rename_i v w' hr; rw [hr]; exact hp _ _ h
  · rename_i w' hr; rw [hr]; exact hp _ _ h
  · rename_i f args w' hr
    rw [hr]
    refine Calls.mono h fun e w'' ⟨v, e', hv⟩ => ?_
    subst e'; exact hp _ _ hv
  · exact h.elim
theorem next_v {P : Program} {w w' : World} {s : Sem Value} {v : Value} {post : Value → World → Prop} (h : s.run P w = .ok v w') (hp : post v w') : NextOK P ((do pure (Next.value (← s)) : Sem Next).run P w) post := by
  simp only [Sem.run_bind, h, Result.andThen_ok, Sem.run_pure, NextOK]
  exact hp
theorem next_u {P : Program} {w w' : World} {s : Sem Unit} {post : Value → World → Prop} (h : s.run P w = .ok () w') (hp : post undef w') : NextOK P ((do s; pure Next.skip : Sem Next).run P w) post := by
  simp only [Sem.run_bind, h, Result.andThen_ok, Sem.run_pure, NextOK]
  exact hp

def updSs (gs : Nat → Option Seg) : List (Nat × Option Seg) → Nat → Option Seg
  | [] => gs
  | (i, v) :: r => updSs (upd gs i v) r
def PostOp (w0 : World) (T0 : Nat → Nat → Prop) (E : EM) (gs : Nat → Option Seg) (next : Nat) (e : Eff) (v : Value) (w' : World) : Prop :=
  ∃ E', Ext E E' ∧ (∀ i, E' i ≠ none → E i ≠ none ∨ (next ≤ i ∧ i < e.next)) ∧ RelV E' e.val v ∧ MemRel w0 T0 E' (updSs gs e.ws) w'

/-! ### small runs -/
section
variable {P : Program} {w : World}
theorem info_of_size {t n : Nat} (h : tsize P t = some n) : ∃ i, P.info? t = some i ∧ i.size = n := by
  unfold tsize at h
  cases hi : P.info? t with
  | none => simp [hi] at h
  | some i => simp only [hi, Option.map_some, Option.some.injEq] at h; exact ⟨i, rfl, h⟩
theorem rSize {t n : Nat} (h : tsize P t = some n) : (sizeOf t).run P w = .ok n w := by
  obtain ⟨i, hi, rfl⟩ := info_of_size h
  simp [sizeOf, typeInfo, hi]
theorem rAgg {t : Nat} {b : Bool} (h : tagg P t = some b) : (isAgg t).run P w = .ok b w := by
  unfold tagg at h
  cases hu : P.underlying t with
  | none => simp [hu] at h
  | some d => cases d <;> simp [hu] at h <;> subst h <;> simp [isAgg, run_underlying hu]
theorem svOfL_ok {E : EM} : ∀ {vs : List Value} {l : List SC}, svOfL vs = some l → RelL E l vs
  | [], l, h => by cases h; trivial
  | v :: vs, l, h => by
    simp only [svOfL] at h
    split at h <;> try (cases h; done)
    split at h <;> try (cases h; done)
    rename_i x hx _ m hm
    cases h
    exact ⟨svOfC_ok hx, svOfL_ok hm⟩
theorem rZero {E : EM} {t : Nat} {z : List SC} (h : tzero P t = some z) : ∃ v, (zeroValue t).run P w = .ok v w ∧ RelL E z v.cells.toList ∧ ∃ i, P.info? t = some i ∧ i.zero = some v := by
  unfold tzero at h
  cases hi : P.info? t with
  | none => simp [hi] at h
  | some i =>
    cases hz : i.zero with
    | none => simp [hi, hz] at h
    | some v =>
      simp only [hi, hz] at h
      exact ⟨v, by simp [zeroValue, typeInfo, hi, hz], svOfL_ok h, i, rfl, hz⟩
theorem svOf_ok {E : EM} {v : Value} {x : SV} (h : svOf v = some x) : RelV E x v := by
  unfold svOf at h
  split at h
  · split at h
    · rename_i l hl; cases h; exact ⟨_, rfl, svOfL_ok hl⟩
    · cases h
  · split at h
    · rename_i x hx; cases h; exact svOfC_ok hx
    · cases h
end

section
variable {E : EM} {gt : Nat → SV} {a : Act}
theorem bindO_some {γ β : Type} {x : Option γ} {f : γ → Option β} {r : β} (h : bindO x f = some r) : ∃ y, x = some y ∧ f y = some r := by
  cases x with
  | none => cases h
  | some y => exact ⟨y, rfl, h⟩
theorem bindC_some {β : Type} {x : Option SV} {f : SC → Option β} {r : β} (h : bindC x f = some r) : ∃ y, x = some (.c y) ∧ f y = some r := by
  cases x with
  | none => cases h
  | some y => cases y <;> first | (cases h; done) | exact ⟨_, rfl, h⟩
theorem ev_ok (hT : ∀ t, RelV E (gt t) (a.tmps.getD t undef)) {x : Operand} {v : SV} (h : ev gt x = some v) : RelV E v (a.eval x) := by
  cases x with
  | tmp t => cases h; exact hT t
  | const c => exact svOf_ok h
  | global g => cases h
  | func f => cases h
theorem evC_ok (hT : ∀ t, RelV E (gt t) (a.tmps.getD t undef)) {x : Operand} {c : SC} (h : ev gt x = some (.c c)) : RelC E c (a.eval x) := ev_ok hT h
theorem cells_ok {v : SV} {u : Value} {l : List SC} (hv : RelV E v u) (h : v.cells = some l) : RelL E l u.cells.toList := by
  cases v <;> simp only [SV.cells] at h <;> try (cases h; done)
  · cases h
    rw [cells_of_one (RelC.one hv)]
    exact ⟨hv, trivial⟩
  · cases h
    obtain ⟨vs, rfl, h⟩ := hv
    exact h
theorem evL_ok (hT : ∀ t, RelV E (gt t) (a.tmps.getD t undef)) {x : Operand} {l : List SC} (h : evL gt x = some l) : RelL E l (a.eval x).cells.toList := by
  unfold evL at h
  cases hx : ev gt x with
  | none => simp [hx] at h
  | some v => simp only [hx] at h; exact cells_ok (ev_ok hT hx) h
theorem ofCells_agg {l : List SC} {v : SV} {vs : List Value} (h : ofCells true l = some v) (hr : RelL E l vs) : RelV E v (.agg vs.toArray) := by
  unfold ofCells at h
  split at h <;> cases h <;> exact ⟨_, rfl, by simpa using hr⟩
theorem ofCells_one {l : List SC} {v : SV} {vs : List Value} (h : ofCells false l = some v) (hr : RelL E l vs) : ∃ u, vs = [u] ∧ RelV E v u := by
  unfold ofCells at h
  split at h
  · cases h
    cases vs with
    | nil => exact hr.elim
    | cons u us => cases us with
      | nil => exact ⟨u, rfl, hr.1⟩
      | cons _ _ => exact hr.2.elim
  · cases h
end

/-! ### the operations -/
section
variable {P : Program} {a : Act} {w0 w : World} {T0 : Nat → Nat → Prop} {E : EM} {gt : Nat → SV} {gs : Nat → Option Seg} {next : Nat}

theorem post_pure (hm : MemRel w0 T0 E gs w) {v : SV} {u : Value} (hv : RelV E v u) {rd : List Nat} {obs : List Bool} : PostOp w0 T0 E gs next ⟨v, [], next, rd, obs⟩ u w :=
  ⟨E, Ext.refl E, fun i h => .inl h, hv, hm⟩
theorem post_pure' (hm : MemRel w0 T0 E gs w) {w' : World} (h1 : w'.heap = w.heap) (h2 : w'.os = w.os) (h3 : w'.output = w.output) {v : SV} {u : Value} (hv : RelV E v u) {rd : List Nat} {obs : List Bool} : PostOp w0 T0 E gs next ⟨v, [], next, rd, obs⟩ u w' :=
  post_pure (hm.congr h1 h2 h3) hv
theorem post_new (hm : MemRel w0 T0 E gs w) (hfr : E next = none) (hn1 : next ≠ 0) {cs : Array Value} {T : TypeId} {body : SBody} (hl : body.len ≤ cs.size) (hc : ∀ k, k < body.len → ∃ v, cs[k]? = some v ∧ RelC E (body.at k) v)
    {p : SC} {u : Value} (hp : RelC (upd E next (some (w.heap.size, 0, cs.size))) p u) {rd : List Nat} {obs : List Bool} :
    PostOp w0 T0 E gs next ⟨.c p, [(next, some ⟨true, true, body⟩)], next + 1, rd, obs⟩ u { w with heap := w.heap.push (.cells cs T) } := by
  refine ⟨_, Ext.upd _ hfr, fun i h => ?_, hp, hm.alloc hfr hl hc⟩
  by_cases e : i = next
  · subst e; exact .inr ⟨Nat.le_refl _, Nat.lt_succ_self _⟩
  · rw [upd_other _ _ e] at h; exact .inl h
theorem cells_hc {l : List SC} {vs : List Value} (hr : RelL E l vs) : (SBody.cells l).len ≤ vs.toArray.size ∧ ∀ k, k < (SBody.cells l).len → ∃ v, vs.toArray[k]? = some v ∧ RelC E ((SBody.cells l).at k) v := by
  refine ⟨by simp [SBody.len, hr.len], fun k hk => ?_⟩
  obtain ⟨v, h1, h2⟩ := hr.getD k hk
  exact ⟨v, by simpa using h1, h2⟩
theorem post_newP (hm : MemRel w0 T0 E gs w) (hfr : E next = none) (hn1 : next ≠ 0) {l : List SC} {v : Value} (hr : RelL E l v.cells.toList) (T : TypeId) :
    PostOp w0 T0 E gs next ⟨.c (.ptr next 0), [(next, some ⟨true, true, .cells l⟩)], next + 1, [], []⟩ (.pointer (some ⟨w.heap.size, 0, none⟩)) { w with heap := w.heap.push (.cells v.cells T) } := by
  have hc := cells_hc hr
  simp only [Array.toArray_toList] at hc
  exact post_new (p := .ptr next 0) hm hfr hn1 hc.1 hc.2 ⟨_, _, _, upd_same _ _ _, rfl⟩

theorem oPick_ok (hm : MemRel w0 T0 E gs w) {c : SC} {x y : Option SV} {e : Eff} (h : oPick next c x y = some e) {vc : Value} (hc : RelC E c vc) {vx vy : Value} (hx : ∀ s, x = some s → RelV E s vx) (hy : ∀ s, y = some s → RelV E s vy) :
    ∃ b, vc = .bool b ∧ PostOp w0 T0 E gs next e (if b then vx else vy) w := by
  unfold oPick at h
  split at h
  · obtain ⟨s, h1, h2⟩ := bindO_some h
    cases h2; cases hc
    exact ⟨true, rfl, post_pure hm (hx s h1)⟩
  · obtain ⟨s, h1, h2⟩ := bindO_some h
    cases h2; cases hc
    exact ⟨false, rfl, post_pure hm (hy s h1)⟩
  · obtain ⟨s, h1, h⟩ := bindO_some h
    obtain ⟨t, h2, h⟩ := bindO_some h
    cases h; cases hc
    refine ⟨_, rfl, post_pure hm (RelV.merge (fun e => ?_) (fun e => ?_))⟩
    · subst e; exact hx s h1
    · subst e; exact hy t h2
  · cases h

theorem fold_set (off : Nat) : ∀ (l : List Value) (n : Nat) (cs : Array Value), ((l.zipIdx n).foldl (fun cs p => cs.setIfInBounds (off + p.2) p.1) cs).size = cs.size ∧
    ∀ k, ((l.zipIdx n).foldl (fun cs p => cs.setIfInBounds (off + p.2) p.1) cs)[k]? = if off + n ≤ k ∧ k < off + n + l.length ∧ k < cs.size then l[k - (off + n)]? else cs[k]?
  | [], n, cs => ⟨rfl, fun k => by rw [if_neg (by simp; omega)]; rfl⟩
  | v :: l, n, cs => by
    have ih := fold_set off l (n + 1) (cs.setIfInBounds (off + n) v)
    simp only [List.zipIdx_cons, List.foldl_cons]
    refine ⟨by rw [ih.1]; simp, fun k => ?_⟩
    rw [ih.2 k]
    simp only [Array.size_setIfInBounds]
    by_cases h1 : off + (n + 1) ≤ k ∧ k < off + (n + 1) + l.length ∧ k < cs.size
    · rw [if_pos h1, if_pos (by simp; omega), show k - (off + n) = (k - (off + (n + 1))) + 1 by omega]; simp
    · rw [if_neg h1]
      by_cases h2 : k = off + n
      · subst h2
        by_cases h3 : off + n < cs.size
        · rw [if_pos (by simp; omega)]; simp [h3]
        · rw [if_neg (by omega)]
          simp [h3]
      · rw [if_neg (by simp; omega)]
        simp [Array.getElem?_setIfInBounds, Ne.symm h2]
theorem fill_ok (hT : ∀ t, RelV E (gt t) (a.tmps.getD t undef)) {pl : Nat → Option (Nat × Nat)} : ∀ {parts : List (Nat × Operand)} {l r : List SC} {cs : Array Value}, fillC pl gt l parts = some r → RelL E l cs.toList →
    ∃ cs', Instr.fill pl cs (parts.map fun (i, x) => (i, a.eval x)) = some cs' ∧ RelL E r cs'.toList
  | [], l, r, cs, h, hl => by cases h; exact ⟨cs, rfl, hl⟩
  | (i, x) :: parts, l, r, cs, h, hl => by
    simp only [fillC] at h
    split at h <;> try (cases h; done)
    rename_i o sz hpl
    split at h <;> try (cases h; done)
    rename_i new hnew
    split at h <;> try (cases h; done)
    rename_i hsz
    split at h <;> try (cases h; done)
    rename_i l' hl'
    have hn := evL_ok hT hnew
    have hlen := hn.len
    have hll := hl.len
    simp only [Bool.and_eq_true, beqN, Nat.ble_eq] at hsz
    obtain ⟨hsz, hroom⟩ := hsz
    simp only [Array.length_toList] at hlen hll
    simp only [List.map_cons, Instr.fill, hpl]
    · rw [if_neg (by simp; omega)]
      have hf := fold_set o (a.eval x).cells.toList 0 cs
      have hrw : (a.eval x).cells.zipIdx.foldl (fun cs p => cs.setIfInBounds (o + p.2) p.1) cs = ((a.eval x).cells.toList.zipIdx 0).foldl (fun cs p => cs.setIfInBounds (o + p.2) p.1) cs := by
        rw [← Array.foldl_toList]; simp
      have hfold : (Array.foldl (fun cs x => match x with | (c, j) => cs.setIfInBounds (o + j) c) cs (a.eval x).cells.zipIdx) = ((a.eval x).cells.toList.zipIdx 0).foldl (fun cs p => cs.setIfInBounds (o + p.2) p.1) cs := hrw
      rw [hfold]
      refine fill_ok hT h (RelL.of_getD (by rw [splice_len hl', hll]; simp [hf.1]) fun k hk => ?_)
      rw [splice_len hl'] at hk
      rw [splice_get hl', Array.getElem?_toList, hf.2 k]
      simp only [Array.length_toList, Nat.add_zero]
      by_cases hc : o ≤ k ∧ k < o + new.length
      · rw [if_pos hc, if_pos (by omega)]
        obtain ⟨u, h1, h2⟩ := hn.getD (k - o) (by omega)
        exact ⟨u, h1, h2⟩
      · rw [if_neg hc, if_neg (by omega)]
        obtain ⟨u, h1, h2⟩ := hl.getD k hk
        exact ⟨u, by simpa using h1, h2⟩
end

end Go.Proofs.YtaodbpejeglmlaaDoor
