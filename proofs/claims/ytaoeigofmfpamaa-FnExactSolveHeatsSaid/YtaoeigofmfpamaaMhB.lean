/- Parts of a proof, merged: Si, Sj, Sk, Sl, Sm, Sn, So, Sp, Sq. Nothing is assumed. -/
import Derived.LoopN
import Derived.Scope
import Derived.Test.YtaoeigofmfpamaaMhA
/- make, append, calls; the law of every operation. Nothing is assumed. -/
section
namespace Go.Proofs.Ytaoeigofmfpamaa
open Go

section
variable {P : Program} {a : Act} {w0 w : World} {T0 : Nat → Nat → Prop} {E : EM} {gt : Nat → SV} {gs : Nat → Option Seg} {next : Nat}

theorem sLen_ok {t : TypeId} {x r : SC} (h : sLen P t x = some r) {v : Value} (hv : RelC E x v) (ts : Array TypeId) (ty : TypeId) (hts : ts[0]? = some t) :
    ∃ u, (Builtin.len_ ts ty #[v]).run P w = .ok u w ∧ RelC E r u := by
  cases x <;> simp only [sLen] at h <;> try (cases h; done)
  · cases hv
    split at h <;> cases h
    rename_i hu
    refine ⟨_, ?_, rfl⟩
    simp only [Builtin.len_, hts]
    simp [run_underlying hu, goInt, SI.val]
  · obtain ⟨base, n, cap, rfl, hlen, hcap, hnil, hbase⟩ := hv
    split at h <;> cases h
    rename_i hu
    refine ⟨.int .i64 n, ?_, by rw [RelC, hlen]⟩
    simp only [Builtin.len_, hts]
    simp [run_underlying hu, goInt]

theorem wrap_small {n : Int} (h0 : 0 ≤ n) (h1 : n ≤ 1000000000000) : IntKind.i64.wrap n = n :=
  IntWalk.i64_in n (by omega)
theorem info_of_bytes {t n : Nat} (h : tbytes P t = some n) : ∃ i, P.info? t = some i ∧ i.bytes = n := by
  unfold tbytes at h
  cases hi : P.info? t with
  | none => simp [hi] at h
  | some i => simp only [hi, Option.map_some, Option.some.injEq] at h; exact ⟨i, rfl, h⟩
theorem run_make {t el : TypeId} {es by' n : Nat} (hel : telem P t = some el) (hes : tsize P el = some es) (hby : tbytes P el = some by') {zv : Value} (hz : (zeroValue el).run P w = .ok zv w) (hb : by' ≤ 1000000) (hn : n ≤ 100000000) {k k' : IntKind} :
    ∃ cs, (Instr.makeSlice t (.int k n) (.int k' n)).run P w = .ok (.slice (some ⟨w.heap.size, 0, none⟩) n n) { w with heap := w.heap.push (.cells cs el) } ∧ (cs = (Array.range (n * es)).map (zv.cells[· % zv.cells.size]!)) := by
  obtain ⟨i, hi, rfl⟩ := info_of_bytes hby
  obtain ⟨i', hi', rfl⟩ := info_of_size hes
  rw [hi] at hi'; cases hi'
  refine ⟨_, ?_, rfl⟩
  have hw : IntKind.i64.wrap (n : Int) = n := wrap_small (by omega) (by omega)
  have hm : (i.bytes : Int) * (n : Int) ≤ 100000000000000 := by
    have h : i.bytes * n ≤ 1000000 * 100000000 := Nat.mul_le_mul hb hn
    have h' := Int.ofNat_le.2 h
    rw [Int.natCast_mul] at h'
    omega
  have h1 : ¬ ((n : Int) < 0) := by omega
  have h2 : ¬ (281474976710656 < (i.bytes : Int) * (n : Int)) := by omega
  have h3 : ¬ ((n : Int) > (n : Int)) := by omega
  by_cases h0 : n * i.size = 0
  · have e0 : Array.range 0 = #[] := rfl
    have em : ∀ f : Nat → Value, Array.map f #[] = #[] := fun f => by simp
    simp [Instr.makeSlice, run_underlying (telem_und hel), asInt, asIntOf, typeInfo, hi, sizeOf, hw, h1, h2, h0, newRow, e0]
  · simp [Instr.makeSlice, run_underlying (telem_und hel), asInt, asIntOf, typeInfo, hi, sizeOf, hw, h1, h2, h0, newRow, hz]
theorem softL_get : ∀ (z : List SC) (q : Nat), (softL z).getD q .any = softC (z.getD q .any)
  | [], q => by cases q <;> rfl
  | x :: z, 0 => rfl
  | x :: z, q + 1 => by
    show (softL z).getD q .any = softC (z.getD q .any)
    exact softL_get z q
theorem softC_ok {x : SC} {v : Value} (h : RelC E x v) : RelC E (softC x) v := by
  cases x with
  | int k n => cases n <;> exact h
  | _ => exact h
theorem sMake_ok (hm : MemRel w0 T0 E gs w) (h1 : next ≠ 0) {t : TypeId} {x y : SC} {u v : Value} (hu : RelC E x u) (hv : RelC E y v) {e : Eff} (h : sMake P t next x y = some e) (hfr : ∀ i, next ≤ i → i < e.next → E i = none) (hob : AllT e.obs) :
    NextOK P ((do pure (Next.value (← Instr.makeSlice t u v)) : Sem Next).run P w) (PostOp w0 T0 E gs next e) := by
  cases x <;> cases y <;> simp only [sMake] at h <;> try (cases h; done)
  rename_i k n k' m
  cases hu; cases hv
  split at h <;> try (cases h; done)
  rename_i el hel
  split at h <;> try (cases h; done)
  rename_i es by' z hes hby hz
  unfold sMake2 at h
  split at h <;> try (cases h; done)
  rename_i hc
  simp only [Bool.and_eq_true, Nat.ble_eq, beqN] at hc
  obtain ⟨⟨hc1, hc2⟩, hc3⟩ := hc
  obtain ⟨zv, hzv, hr, _⟩ := rZero (P := P) (w := w) (E := E) hz
  have hlen := hr.len
  simp only [Array.length_toList] at hlen
  split at h
  · rename_i n m
    split at h <;> cases h
    rename_i hnm
    simp only [Bool.and_eq_true, Nat.ble_eq, beqN] at hnm
    obtain ⟨rfl, hn⟩ := hnm
    obtain ⟨cs, hrun, hcs⟩ := run_make (w := w) (k := k) (k' := k') hel hes hby hzv hc1 (by omega : n ≤ 100000000)
    have hrel := zeros_ok hr n
    rw [hc2, ← hcs] at hrel
    have hcl := hrel.len
    rw [repL_len, hc2, Array.length_toList] at hcl
    refine next_v hrun (new_slice hm (hfr next (Nat.le_refl _) (Nat.lt_succ_self _)) h1 (by rw [repL_len, hc2]; omega) (fun q hq => ?_) (Nat.le_refl _) hcl rfl)
    obtain ⟨y, g1, g2⟩ := hrel.getD q hq
    exact ⟨y, by simpa using g1, g2⟩
  · rename_i n m
    cases h
    have hb := hob.head
    simp only [decide_eq_true_eq] at hb
    obtain ⟨rfl, h0, hbig⟩ := hb
    obtain ⟨j, rfl⟩ := Int.eq_ofNat_of_zero_le h0
    obtain ⟨cs, hrun, hcs⟩ := run_make (w := w) (k := k) (k' := k') hel hes hby hzv hc1 (by omega : j ≤ 100000000)
    have hrel := zeros_ok hr j
    rw [hc2, ← hcs] at hrel
    have hcl := hrel.len
    rw [repL_len, hc2, Array.length_toList] at hcl
    refine next_v (w' := { w with heap := w.heap.push (.cells cs el) }) (v := .slice (some ⟨w.heap.size, 0, none⟩) j j) hrun
      (post_new (body := .rows es j (fun _ => softL z)) (p := .sl next 0 es (.s j) true) hm (hfr next (Nat.le_refl _) (Nat.lt_succ_self _)) h1 ?_ (fun q hq => ?_) ?_)
    · simp only [SBody.len, Int.toNat_natCast]; rw [Nat.mul_comm]; omega
    · simp only [SBody.len, Int.toNat_natCast] at hq
      rw [Nat.mul_comm] at hq
      obtain ⟨y, g1, g2⟩ := hrel.getD q (by rw [repL_len, hc2]; exact hq)
      rw [repL_get z j q (by rw [hc2]; exact hq), hc2] at g2
      refine ⟨y, by simpa using g1, ?_⟩
      simp only [SBody.at]
      rw [softL_get]
      exact softC_ok g2
    · refine ⟨some ⟨w.heap.size, 0, none⟩, j, j, rfl, rfl, Nat.le_refl _, fun e => (by cases e), fun ad had => ?_⟩
      cases had
      exact ⟨h1, _, _, _, upd_same _ _ _, fun _ => rfl, fun _ => by rw [Nat.zero_add]; exact hcl⟩
  · cases h

/-! append -/
theorem appNew_ok (hm : MemRel w0 T0 E gs w) {i2 o2 e2 es m : Nat} {new : List SC} (h : appNew gs i2 o2 e2 es m = some new) {len : SI} {f : Bool} {x : Value} (hx : RelC E (.sl i2 o2 e2 len f) x) (hlen : len.val = (m : Nat)) :
    ∃ us : List Value, (Builtin.firstCells es m x).run P w = .ok us.toArray w ∧ RelL E new us ∧ us.length = m * es ∧ ∃ base c, x = .slice base m c := by
  obtain ⟨base, n, cap, rfl, hl, hcap, hnil, hbase⟩ := hx
  have hn : n = m := by omega
  subst hn
  unfold appNew at h
  split at h
  · rename_i h0
    rw [beqN] at h0
    subst h0
    cases h
    refine ⟨[], ?_, trivial, by simp, base, cap, rfl⟩
    cases base <;> simp [Builtin.firstCells, loadCells, loadCellsFrom]
  · rename_i h0
    have hn0 : n ≠ 0 := by intro e; subst e; simp at h0
    split at h <;> try (cases h; done)
    rename_i he
    rw [beqN] at he
    split at h <;> try (cases h; done)
    rename_i g hg
    split at h <;> cases h
    rename_i hl2
    cases base with
    | none => have := hnil rfl; omega
    | some ad =>
      obtain ⟨_, b, q, z, hE, ha, _⟩ := hbase ad rfl
      have had := ha (by omega)
      subst had
      obtain ⟨b', o', hp, vs, hvl, hrel, hcell⟩ := sLoad_ok hm hg (p := .ptr i2 o2) rfl (v := .pointer (some ⟨b, q + o2, none⟩)) ⟨b, q, z, hE, rfl⟩ hl2 AllT.nil
      cases hp
      refine ⟨vs, ?_, hrel, hvl, _, cap, rfl⟩
      simp only [Builtin.firstCells]
      rw [← hvl]
      exact run_loadCells_list w _ vs fun j u hj => by
        have hjl : j < vs.length := by
          rcases Nat.lt_or_ge j vs.length with h' | h'
          · exact h'
          · rw [List.getElem?_eq_none h'] at hj; cases hj
        rw [addr_add, hcell j (by omega)]; exact hj
theorem cap_ok {need : Nat} (h : need ≤ 1000000) {old : Nat} (h2 : old < need) : Builtin.nextslicecap need old ≤ 100000000 := by
  unfold Builtin.nextslicecap
  split
  · omega
  · split
    · omega
    · simp only [Builtin.growBy]
      split
      · omega
      · split
        · omega
        · split
          · omega
          · split <;> omega
theorem run_app_in {t el : TypeId} {es n m c : Nat} {base : Option Addr} {x : Value} {ts : Array TypeId} {ty : TypeId} (hel : telem P t = some el) (hes : tsize P el = some es) {t' el' : TypeId} (hts : ts[0]? = some t ∧ ts[1]? = some t') (ht' : telem P t' = some el')
    {us : List Value} {bx : Option Addr} {cx : Nat} (hx : x = .slice bx m cx) (hf : (Builtin.firstCells es m x).run P w = .ok us.toArray w) (hn : n + m ≤ c) {w' : World}
    (hst : ∀ ad, base = some ad → (storeCells (ad.add (n * es)) us).run P w = .ok () w') (hnone : base = none → w' = w) :
    (Builtin.append_ ts ty #[.slice base n c, x]).run P w = .ok (.slice base (n + m) c) w' := by
  subst hx
  cases base with
  | none =>
    have := hnone rfl
    subst this
    simp [Builtin.append_, hts.1, hts.2, run_underlying (telem_und hel), run_underlying (telem_und ht'), rSize hes, Builtin.lenOf, hn, hf]
  | some ad =>
    simp [Builtin.append_, hts.1, hts.2, run_underlying (telem_und hel), run_underlying (telem_und ht'), rSize hes, Builtin.lenOf, hn, hf, hst ad rfl]
theorem run_app_new {t el : TypeId} {es by' n m c : Nat} {base : Option Addr} {x : Value} {ts : Array TypeId} {ty : TypeId} (hel : telem P t = some el) (hes : tsize P el = some es) (hby : tbytes P el = some by') (hb : by' ≤ 1000000) {t' el' : TypeId} (hts : ts[0]? = some t ∧ ts[1]? = some t') (ht' : telem P t' = some el')
    {us os : List Value} {bx : Option Addr} {cx : Nat} (hx : x = .slice bx m cx) (hf : (Builtin.firstCells es m x).run P w.drew = .ok us.toArray w.drew) (ho : (Builtin.firstCells es n (.slice base n c)).run P w.drew = .ok os.toArray w.drew) (hn : c < n + m) (hbig : n + m ≤ 1000000) {zv : Value} (hz : ∀ w : World, (zeroValue el).run P w = .ok zv w) (hzs : zv.cells.size = es) (hus : us.length = m * es) (hos : os.length = n * es) :
    ∃ cap cs, n + m ≤ cap ∧ cs.size = cap * es ∧ (∀ k, k < os.length + us.length → cs[k]? = (os ++ us)[k]?) ∧
      (Builtin.append_ ts ty #[.slice base n c, x]).run P w = .ok (.slice (some ⟨w.heap.size, 0, none⟩) (n + m) cap) { w.drew with heap := w.heap.push (.cells cs el) } := by
  subst hx
  obtain ⟨i, hi, rfl⟩ := info_of_bytes hby
  obtain ⟨i', hi', rfl⟩ := info_of_size hes
  rw [hi] at hi'; cases hi'
  have hcap : (Question.appendCap (n + m) c el).cut (w.tape w.drawn (.appendCap (n + m) c el)) = n + m + w.tape w.drawn (.appendCap (n + m) c el) % (2 ^ 63 - (n + m)) := rfl
  refine ⟨(Question.appendCap (n + m) c el).cut (w.tape w.drawn (.appendCap (n + m) c el)), os.toArray ++ (us.toArray ++ Builtin.zeroCells zv.cells ((Question.appendCap (n + m) c el).cut (w.tape w.drawn (.appendCap (n + m) c el)) - (n + m))), by rw [hcap]; omega, ?_, fun k hk => ?_, ?_⟩
  · have hle : n + m ≤ (Question.appendCap (n + m) c el).cut (w.tape w.drawn (.appendCap (n + m) c el)) := by rw [hcap]; omega
    generalize (Question.appendCap (n + m) c el).cut (w.tape w.drawn (.appendCap (n + m) c el)) = cap at hle ⊢
    simp only [Array.size_append, Builtin.zeroCells, Array.size_map, Array.size_range, List.size_toArray, hzs, hus, hos]
    have e1 : (cap - (n + m)) * i.size = cap * i.size - (n + m) * i.size := Nat.sub_mul ..
    have e2 : (n + m) * i.size ≤ cap * i.size := Nat.mul_le_mul_right _ hle
    rw [e1]
    rw [Nat.add_mul] at e2 ⊢
    omega
  · generalize Builtin.zeroCells zv.cells ((Question.appendCap (n + m) c el).cut (w.tape w.drawn (.appendCap (n + m) c el)) - (n + m)) = Z
    have e : os.toArray ++ (us.toArray ++ Z) = ((os ++ us) ++ Z.toList).toArray := by
      apply Array.toList_inj.1
      simp
    rw [e, List.getElem?_toArray, List.getElem?_append_left (by simpa using hk)]
  · have hbs : ¬ ((n : Int) + (m : Int) > IntKind.i64.max ∧ (false = true ∨ i.bytes = 0)) := by
      rw [IntKind.max_i64]; omega
    have hnc := cap_ok hbig hn
    have hmul : Builtin.nextslicecap (n + m) c * i.bytes ≤ 100000000 * 1000000 := Nat.mul_le_mul hnc hb
    have hno : ¬ (2 ^ 48 < Builtin.nextslicecap (n + m) c * i.bytes) := by omega
    have hlt : ¬ (n + m ≤ c) := by omega
    have hq : (Question.appendCap (n + m) c el).forced = false := rfl
    have h64 : ¬ ((9223372036854775807 : Int) < (n : Int) + (m : Int)) := by omega
    have hdr : ({ w with drawn := w.drawn + 1 } : World) = w.drew := rfl
    simp [Builtin.append_, hts.1, hts.2, run_underlying (telem_und hel), run_underlying (telem_und ht'), sizeOf, typeInfo, hi, Builtin.lenOf, hlt, h64, hno, hq, hdr, hf, ho, hz, newRow]
    rfl

end

end Go.Proofs.Ytaoeigofmfpamaa
end

/- append, calls, and the law of every operation. Nothing is assumed. -/
section
namespace Go.Proofs.Ytaoeigofmfpamaa
open Go

section
variable {P : Program} {a : Act} {w0 w : World} {T0 : Nat → Nat → Prop} {E : EM} {gt : Nat → SV} {gs : Nat → Option Seg} {next : Nat}

/-- A segment under another name. -/
theorem MemRel.rename (h : MemRel w0 T0 E gs w) {i j : Nat} {g : Seg} (hg : gs i = some g) (hj : E j = none) {x : Nat × Nat × Nat} (hx : E i = some x) : MemRel w0 T0 (upd E j (some x)) (upd (upd gs i none) j (some g)) w := by
  obtain ⟨xb, xo, xz⟩ := x
  have he : Ext E (upd E j (some (xb, xo, xz))) := Ext.upd _ hj
  have hij : i ≠ j := by intro e; subst e; rw [hj] at hx; cases hx
  have look : ∀ k gk, upd (upd gs i none) j (some g) k = some gk → (k = j ∧ gk = g) ∨ (k ≠ j ∧ k ≠ i ∧ gs k = some gk) := by
    intro k gk hk
    by_cases e : k = j
    · subst e; rw [upd_same] at hk; cases hk; exact .inl ⟨rfl, rfl⟩
    · rw [upd_other _ _ e] at hk
      by_cases e' : k = i
      · subst e'; rw [upd_same] at hk; cases hk
      · rw [upd_other _ _ e'] at hk; exact .inr ⟨e, e', hk⟩
  refine ⟨fun k gk hk => ?_, fun k l gk gl b o z b' o' z' hkl hk hl hr hb hb' => ?_, fun k gk b o z hk hr hb => ?_, h.fr, h.tab⟩
  · rcases look k gk hk with ⟨rfl, rfl⟩ | ⟨e1, e2, e3⟩
    · obtain ⟨b, o, z, cs, T, fr, e, s⟩ := h.segs i _ hg
      exact ⟨b, o, z, cs, T, fr, by rw [upd_same, ← hx]; exact e, s.mono he⟩
    · obtain ⟨b, o, z, cs, T, fr, e, s⟩ := h.segs k gk e3
      exact ⟨b, o, z, cs, T, fr, by rw [upd_other _ _ e1]; exact e, s.mono he⟩
  · rcases look k gk hk with ⟨rfl, rfl⟩ | ⟨e1, e2, e3⟩ <;> rcases look l gl hl with ⟨rfl, rfl⟩ | ⟨f1, f2, f3⟩
    · exact absurd rfl hkl
    · rw [upd_same, ← hx] at hb
      rw [upd_other _ _ f1] at hb'
      exact h.disj i l _ gl b o z b' o' z' (Ne.symm f2) hg f3 hr hb hb'
    · rw [upd_same, ← hx] at hb'
      rw [upd_other _ _ e1] at hb
      exact h.disj k i gk _ b o z b' o' z' e2 e3 hg hr hb hb'
    · rw [upd_other _ _ e1] at hb
      rw [upd_other _ _ f1] at hb'
      exact h.disj k l gk gl b o z b' o' z' hkl e3 f3 hr hb hb'
  · rcases look k gk hk with ⟨rfl, rfl⟩ | ⟨e1, e2, e3⟩
    · rw [upd_same, ← hx] at hb
      exact h.tch i _ b o z hg hr hb
    · rw [upd_other _ _ e1] at hb
      exact h.tch k gk b o z e3 hr hb

theorem post_app_new (hm : MemRel w0 T0 E gs w) (hfr : E next = none) (h1 : next ≠ 0) {gs' : Nat → Option Seg} (hsub : ∀ i g, gs' i = some g → gs i = some g) {l : List SC} {vs : List Value} (hr : RelL E l vs) {n cap es : Nat} {cs : Array Value} (hcap : n ≤ cap) (hcs : cs.size = cap * es) (hlen : l.length = n * es) (hget : ∀ k, k < vs.length → cs[k]? = vs[k]?) {el : TypeId} {rd : List Nat} {obs : List Bool} {ws : List (Nat × Option Seg)} (hws : updSs gs ws = upd gs' next (some ⟨true, true, .cells l⟩)) :
    PostOp w0 T0 E gs next ⟨.c (.sl next 0 es (.c (.ofNat n)) true), ws, next + 1, rd, obs⟩ (.slice (some ⟨w.heap.size, 0, none⟩) n cap) { w.drew with heap := w.heap.push (.cells cs el) } := by
  have hm' : MemRel w0 T0 E gs' w.drew := (hm.sub hsub).congr rfl rfl rfl
  have hle : l.length ≤ cs.size := by
    rw [hlen, hcs]; exact Nat.mul_le_mul_right _ hcap
  obtain ⟨E', g1, g2, g3, g4⟩ := new_slice (T := el) (rd := rd) (obs := obs) (len := .c (.ofNat n)) hm' hfr h1 hle (fun k hk => by
    obtain ⟨v, h1, h2⟩ := hr.getD k hk
    exact ⟨v, by rw [hget k (by rw [← hr.len]; exact hk)]; exact h1, h2⟩) hcap hcs.symm rfl
  exact ⟨E', g1, g2, g3, by rw [hws]; exact g4⟩

theorem sApp_ok (hm : MemRel w0 T0 E gs w) (h1 : next ≠ 0) {t el : TypeId} {i1 o1 e1 n : Nat} {f1 : Bool} {i2 o2 e2 m es by' : Nat} {f2 : Bool} {z : List SC} {s x : Value} (hs : RelC E (.sl i1 o1 e1 (.c (.ofNat n)) f1) s) (hx : RelC E (.sl i2 o2 e2 (.c (.ofNat m)) f2) x)
    (hel : telem P t = some el) (hes : tsize P el = some es) (hby : tbytes P el = some by') (hz : tzero P el = some z) {e : Eff} (h : sApp P el gs next i1 o1 e1 n f1 i2 o2 e2 m es by' z = some e) (hfr : ∀ i, next ≤ i → i < e.next → E i = none)
    {ts : Array TypeId} {ty t' el' : TypeId} (hts : ts[0]? = some t ∧ ts[1]? = some t') (ht' : telem P t' = some el') :
    ∃ u w', (Builtin.append_ ts ty #[s, x]).run P w = .ok u w' ∧ PostOp w0 T0 E gs next e u w' := by
  unfold sApp at h
  split at h <;> try (cases h; done)
  rename_i hc
  simp only [Bool.and_eq_true, Nat.ble_eq, beqN] at hc
  obtain ⟨⟨⟨hc1, hc2⟩, hc3⟩, hc4⟩ := hc
  have g1 := bindO_some h
  clear h
  obtain ⟨new, hnew, h⟩ := g1
  have hmd : MemRel w0 T0 E gs w.drew := hm.congr rfl rfl rfl
  obtain ⟨zv, hzv, hzr, _⟩ := rZero (P := P) (w := w) (E := E) hz
  have hzall : ∀ w : World, (zeroValue el).run P w = .ok zv w := by
    intro u
    obtain ⟨zv', h1, _, i, hi, hiz⟩ := rZero (P := P) (w := u) (E := E) hz
    obtain ⟨_, h2, _, i', hi', hiz'⟩ := rZero (P := P) (w := w) (E := E) hz
    rw [hi] at hi'; cases hi'
    rw [hiz] at hiz'; cases hiz'
    rw [hzv] at h2; cases h2
    exact h1
  have hzs : zv.cells.size = es := by have := hzr.len; simp at this; omega
  have hne : next ≠ 0 := h1
  split at h
  · -- onto nil
    rename_i h0
    rw [beqN] at h0
    split at h <;> try (cases h; done)
    rename_i hn0
    rw [beqN] at hn0
    subst h0; subst hn0
    obtain ⟨base, nn, cap, rfl, hlen, hcap, hnil, hbase⟩ := hs
    have hbn : base = none := by
      cases base with
      | none => rfl
      | some ad => exact absurd rfl (hbase ad rfl).1
    subst hbn
    have hc0 := hnil rfl
    subst hc0
    have hnn : nn = 0 := by omega
    subst hnn
    split at h
    · rename_i hm0
      rw [beqN] at hm0
      subst hm0
      cases h
      obtain ⟨us, hf, hnr, hul, bx, cx, hxe⟩ := appNew_ok (P := P) hm hnew hx rfl
      refine ⟨_, w, run_app_in hel hes hts ht' hxe hf (Nat.le_refl _) (fun ad had => by cases had) (fun _ => rfl), post_pure hm (v := .c (.sl 0 0 0 (.c 0) false)) ?_⟩
      exact ⟨none, 0, 0, rfl, rfl, Nat.le_refl _, fun _ => rfl, fun ad had => by cases had⟩
    · rename_i hm0
      have hm1 : m ≠ 0 := by intro e; subst e; simp at hm0
      cases h
      obtain ⟨us, hf, hnr, hul, bx, cx, hxe⟩ := appNew_ok (P := P) hmd hnew hx rfl
      obtain ⟨cap, cs, k1, k2, k3, k4⟩ := run_app_new (w := w) (base := none) (n := 0) (c := 0) (os := []) (ty := ty) hel hes hby hc3 hts ht' hxe hf (by simp [Builtin.firstCells]) (by omega) (by omega) hzall hzs hul (by simp)
      rw [Nat.zero_add] at k1 k4
      refine ⟨_, _, k4, post_app_new hm (hfr next (Nat.le_refl _) (Nat.lt_succ_self _)) h1 (gs' := gs) (fun _ _ h => h) hnr k1 k2 (by rw [hnr.len, hul]) (fun k hk => ?_) rfl⟩
      have := k3 k (by simpa using hk)
      simpa using this
  · rename_i h0
    have hi0 : i1 ≠ 0 := by intro e; subst e; simp at h0
    split at h <;> try (cases h; done)
    rename_i hoe
    simp only [Bool.and_eq_true, beqN] at hoe
    obtain ⟨⟨rfl, rfl⟩, rfl⟩ := hoe
    unfold appOwn at h
    split at h <;> try (cases h; done)
    rename_i l1 hg1
    obtain ⟨b, q, z1, cs1, T1, fr1, hE1, s1⟩ := hm.segs i1 _ hg1
    obtain ⟨hq0, hz1⟩ := s1.own rfl
    subst hq0
    have hl1 : l1.length ≤ z1 := s1.le
    obtain ⟨base, nn, cap, rfl, hlen, hcap, hnil, hbase⟩ := hs
    have hnn : nn = n := by simp only [SI.val, Int.ofNat_eq_natCast] at hlen; omega
    subst hnn
    have hb2 : ∀ ad, base = some ad → (cap ≠ 0 → ad = ⟨b, 0, none⟩) ∧ cap * e1 = z1 := by
      intro ad had
      obtain ⟨_, b', o', z', hE', ha, hfu⟩ := hbase ad had
      rw [hE1] at hE'; cases hE'
      exact ⟨fun hc => by rw [ha hc], by have := hfu rfl; omega⟩
    have hmul : nn * e1 + m * e1 = (nn + m) * e1 := (Nat.add_mul ..).symm
    split at h
    · -- there is room for sure
      rename_i hroom
      simp only [Bool.and_eq_true, Nat.ble_eq, Bool.or_eq_true, beqN] at hroom
      obtain ⟨hroom, hnm⟩ := hroom
      split at h <;> cases h
      rename_i r hr
      obtain ⟨us, hf, hnr, hul, bx, cx, hxe⟩ := appNew_ok (P := P) hm hnew hx rfl
      have hfit : nn + m ≤ cap := by
        cases base with
        | none =>
          have hc0 := hnil rfl
          omega
        | some ad =>
          have h2 := (hb2 ad rfl).2
          have h3 : (nn + m) * e1 ≤ cap * e1 := by omega
          exact Nat.le_of_mul_le_mul_right h3 hc1
      obtain ⟨b', o', hp, w', hrun, hm'⟩ := sStore_ok hm hg1 rfl (p := .ptr i1 (nn * e1)) rfl (v := .pointer (some ⟨b, 0 + nn * e1, none⟩)) ⟨b, 0, z1, hE1, rfl⟩ hnr (body := .cells r) (ob := []) (by simp only [sStore, hr]) AllT.nil P
      cases hp
      refine ⟨.slice base (nn + m) cap, w', ?_, E, Ext.refl E, fun i h => .inl h, ?_, hm'⟩
      · by_cases hc0 : cap = 0
        · have hn0 : nn = 0 := by omega
          have hm0 : m = 0 := by omega
          subst hn0; subst hm0
          have hu0 : us = [] := List.length_eq_zero_iff.1 (by simpa using hul)
          subst hu0
          have hww : w' = w := by simp [storeCells] at hrun; exact hrun.symm
          subst hww
          exact run_app_in hel hes hts ht' hxe hf hfit (fun ad _ => by simp [storeCells]) (fun _ => rfl)
        · refine run_app_in hel hes hts ht' hxe hf hfit (fun ad had => ?_) (fun hbn => absurd (hnil hbn) hc0)
          rw [(hb2 ad had).1 hc0, addr_add]; exact hrun
      · refine ⟨base, nn + m, cap, rfl, rfl, hfit, hnil, fun ad had => ?_⟩
        exact ⟨hi0, b, 0, z1, hE1, fun hc => by rw [(hb2 ad had).1 hc], fun _ => by have := (hb2 ad had).2; omega⟩
    · split at h <;> try (cases h; done)
      rename_i hbig
      rw [Nat.ble_eq] at hbig
      split at h <;> cases h
      rename_i old hold
      have hfrn := hfr next (Nat.le_refl _) (Nat.lt_succ_self _)
      have hni : next ≠ i1 := by intro e; subst e; rw [hfrn] at hE1; cases hE1
      have hws : ∀ seg, updSs gs [(i1, none), (next, some seg)] = upd (upd gs i1 none) next (some seg) := fun _ => rfl
      have htg := takeL_get hold
      have htl := takeL_le hold
      by_cases hfit : nn + m ≤ cap
      · -- it lies where it lay
        obtain ⟨us, hf, hnr, hul, bx, cx, hxe⟩ := appNew_ok (P := P) hm hnew hx rfl
        have hnm1 : nn + m ≠ 0 := by
          intro e0
          have : nn = 0 := by omega
          have : m = 0 := by omega
          subst nn; subst m
          omega
        cases base with
        | none => have := hnil rfl; omega
        | some ad =>
          obtain ⟨ha, hce⟩ := hb2 ad rfl
          have had := ha (by omega)
          subst had
          have hroom : (nn + m) * e1 ≤ cap * e1 := Nat.mul_le_mul_right _ hfit
          have hsz : z1 = cs1.size := hz1
          obtain ⟨w', cs', hrun, hput⟩ := run_put P b (nn * e1) T1 fr1 us 0 w cs1 s1.heap (by rw [hul]; omega) (fun k h2 h3 => s1.fz rfl k (by omega) (by rw [hul] at h3; omega)) hnr.one
          have hm' := hm.put hg1 rfl hE1 hput (by rw [hul]; omega) (body := .cells (old ++ new)) (by simp only [SBody.len, List.length_append, htg.1, hnr.len, hul]; omega) (fun k hk => by
            simp only [SBody.len, List.length_append, htg.1, hnr.len, hul] at hk
            simp only [SBody.at]
            rw [hput.at_]
            by_cases hk2 : k < nn * e1
            · rw [if_neg (by omega)]
              obtain ⟨u, h2, h3⟩ := s1.cell k (by simp only [SBody.len]; omega)
              refine ⟨u, h2, ?_⟩
              have e2 : (old ++ new).getD k .any = old.getD k .any := by simp [List.getD, List.getElem?_append_left (show k < old.length by omega)]
              rw [e2, htg.2 k hk2]; exact h3
            · rw [if_pos (by rw [hul]; omega)]
              obtain ⟨u, h2, h3⟩ := hnr.getD (k - nn * e1) (by rw [hnr.len, hul]; omega)
              refine ⟨u, by rw [show 0 + k - (nn * e1 + 0) = k - nn * e1 by omega]; exact h2, ?_⟩
              have e2 : (old ++ new).getD k .any = new.getD (k - nn * e1) .any := by
                simp [List.getD, List.getElem?_append_right (show old.length ≤ k by omega), htg.1]
              rw [e2]; exact h3)
          have hm2 := hm'.rename (upd_same _ _ _) hfrn hE1
          have hff : upd (upd gs i1 (some ⟨true, true, .cells (old ++ new)⟩)) i1 none = upd gs i1 none := by
            funext k
            by_cases e : k = i1
            · subst e; rw [upd_same, upd_same]
            · rw [upd_other _ _ e, upd_other _ _ e, upd_other _ _ e]
          rw [hff] at hm2
          refine ⟨.slice (some ⟨b, 0, none⟩) (nn + m) cap, w', run_app_in hel hes hts ht' hxe hf hfit (fun ad had => ?_) (fun hbn => by cases hbn), upd E next (some (b, 0, z1)), Ext.upd _ hfrn, fun i hi => ?_, ?_, ?_⟩
          · cases had
            rw [addr_add, Nat.zero_add]; exact hrun
          · by_cases e : i = next
            · subst e; exact .inr ⟨Nat.le_refl _, Nat.lt_succ_self _⟩
            · rw [upd_other _ _ e] at hi; exact .inl hi
          · refine ⟨some ⟨b, 0, none⟩, nn + m, cap, rfl, rfl, hfit, fun e => (by cases e), fun ad had => ?_⟩
            cases had
            exact ⟨h1, b, 0, z1, upd_same _ _ _, fun _ => rfl, fun _ => by omega⟩
          · rw [hws]; exact hm2
      · -- it is copied
        obtain ⟨us, hf, hnr, hul, bx, cx, hxe⟩ := appNew_ok (P := P) hmd hnew hx rfl
        -- the old cells
        have hos : ∃ os : List Value, (Builtin.firstCells e1 nn (.slice base nn cap)).run P w.drew = .ok os.toArray w.drew ∧ RelL E old os ∧ os.length = nn * e1 := by
          have hx1 : RelC E (.sl i1 0 e1 (.c (.ofNat nn)) true) (.slice base nn cap) := ⟨base, nn, cap, rfl, rfl, hcap, hnil, hbase⟩
          have hpart : part l1 0 (nn * e1) = some old := by
            unfold part
            have : dropL l1 0 = l1 := by cases l1 <;> rfl
            rw [this]; exact hold
          have hap : appNew gs i1 0 e1 e1 nn = some old := by
            unfold appNew
            split
            · rename_i hn0
              rw [beqN] at hn0
              subst hn0
              have : old = [] := List.length_eq_zero_iff.1 (by rw [htg.1]; simp)
              rw [this]
            · rw [show Nat.beq e1 e1 = true from beqN.2 rfl]
              simp only [hg1, sLoad, hpart]
          obtain ⟨os, k1, k2, k3, _⟩ := appNew_ok (P := P) hmd hap hx1 rfl
          exact ⟨os, k1, k2, k3⟩
        obtain ⟨os, ho, hor, hol⟩ := hos
        obtain ⟨cap', cs, k1, k2, k3, k4⟩ := run_app_new (w := w) (ty := ty) hel hes hby hc3 hts ht' hxe hf ho (by omega) hc2 hzall hzs hul hol
        refine ⟨_, _, k4, post_app_new hm hfrn h1 (gs' := upd gs i1 none) (fun i g hg => ?_) (hor.append hnr) k1 k2 (by rw [List.length_append, hor.len, hnr.len, hol, hul, hmul]) (fun k hk => ?_) (hws _)⟩
        · by_cases e : i = i1
          · subst e; rw [upd_same] at hg; cases hg
          · rw [upd_other _ _ e] at hg; exact hg
        · exact k3 k (by simpa using hk)
/-! ### rows -/
/-- What 'n' rows at the head of a body are read as. -/
theorem srcR_ok (hm : MemRel w0 T0 E gs w) {i2 es N m : Nat} {g2 : Seg} {NI : Int} {row : Int → List SC} (hg : gs i2 = some g2) (hb : g2.body = .rows es NI row) (hmN : (m : Int) ≤ NI) (hN : NI = (N : Nat)) {len : SI} {f : Bool} {x : Value} (hx : RelC E (.sl i2 0 es len f) x) (hlen : len.val = (m : Nat)) :
    ∃ us : List Value, (Builtin.firstCells es m x).run P w = .ok us.toArray w ∧ us.length = m * es ∧ (∀ k, k < m * es → ∃ u, us[k]? = some u ∧ RelC E ((row ((k / es : Nat) : Int)).getD (k % es) .any) u) ∧ ∃ bx cx, x = .slice bx m cx := by
  obtain ⟨base, n, cap, rfl, hl, hcap, hnil, hbase⟩ := hx
  have hn : n = m := by omega
  subst hn
  by_cases hn0 : n = 0
  · subst hn0
    exact ⟨[], by cases base <;> simp [Builtin.firstCells, loadCells, loadCellsFrom], by simp, fun k hk => by simp at hk, base, cap, rfl⟩
  · cases base with
    | none => have := hnil rfl; omega
    | some ad =>
      obtain ⟨_, b, q, z, hE, ha, _⟩ := hbase ad rfl
      have had := ha (by omega)
      subst had
      obtain ⟨b', q', z', cs, T, fr, hE', s⟩ := hm.segs i2 _ hg
      rw [hE] at hE'; cases hE'
      have hblen : n * es ≤ g2.body.len := by
        rw [hb]
        simp only [SBody.len, hN, Int.toNat_natCast]
        rw [Nat.mul_comm]
        exact Nat.mul_le_mul_left _ (by omega)
      have hle := s.le
      have hfit := s.fit
      have hl2 : ((cs.toList.drop q).take (n * es)).length = n * es := by
        simp only [List.length_take, List.length_drop, Array.length_toList]
        omega
      have hget : ∀ k, k < n * es → ((cs.toList.drop q).take (n * es))[k]? = cs[q + k]? := by
        intro k hk
        rw [List.getElem?_take, if_pos hk, List.getElem?_drop, Array.getElem?_toList]
      refine ⟨(cs.toList.drop q).take (n * es), ?_, hl2, fun k hk => ?_, _, cap, rfl⟩
      · simp only [Builtin.firstCells]
        have e := run_loadCells_list (P := P) w ⟨b, q + 0, none⟩ ((cs.toList.drop q).take (n * es)) fun j u hj => by
          have hjl : j < n * es := by
            rcases Nat.lt_or_ge j (n * es) with h' | h'
            · exact h'
            · rw [List.getElem?_eq_none (by rw [hl2]; exact h')] at hj; cases hj
          rw [hget j hjl] at hj
          rw [addr_add]
          simp only [World.cell?, s.heap, Nat.add_zero]
          exact hj
        rw [hl2] at e
        exact e
      · obtain ⟨v, h1, h2⟩ := s.cell k (by omega)
        rw [hb] at h2
        exact ⟨v, by rw [hget k hk]; exact h1, h2⟩
theorem takeL_zero : ∀ l : List SC, takeL l 0 = some []
  | [] => rfl
  | _ :: _ => rfl
theorem takeL_two : ∀ {l : List SC} {n m : Nat} {r r' : List SC}, takeL l n = some r → takeL (dropL l n) m = some r' → takeL l (n + m) = some (r ++ r')
  | [], 0, m, r, r', h, h' => by cases h; rw [Nat.zero_add]; exact h'
  | [], n + 1, m, r, r', h, _ => by cases h
  | x :: l, 0, m, r, r', h, h' => by cases h; rw [Nat.zero_add]; exact h'
  | x :: l, n + 1, m, r, r', h, h' => by
    change (Option.rec none (fun r => some (x :: r)) (takeL l n) : Option (List SC)) = some r at h
    cases hm : takeL l n with
    | none => rw [hm] at h; cases h
    | some q =>
      rw [hm] at h; cases h
      have := takeL_two hm (show takeL (dropL l n) m = some r' from h')
      rw [show n + 1 + m = n + m + 1 by omega]
      show (Option.rec none (fun r => some (x :: r)) (takeL l (n + m)) : Option (List SC)) = _
      rw [this]; rfl
theorem dropL_add : ∀ (l : List SC) (o n : Nat), dropL l (o + n) = dropL (dropL l o) n
  | [], o, n => by cases o <;> cases n <;> rfl
  | _ :: _, 0, n => by rw [Nat.zero_add]; rfl
  | x :: l, o + 1, n => by
    rw [show o + 1 + n = o + n + 1 by omega]
    exact dropL_add l o n
theorem part_two {l r r' : List SC} {o n : Nat} (h : part l o n = some r) (h' : part l (o + n) n = some r') : part l o (n + n) = some (r ++ r') := by
  unfold part at h h' ⊢
  rw [dropL_add] at h'
  exact takeL_two h h'
/-- What 'm' rows behind row 'I' are read as. -/
theorem srcRr_ok (hm : MemRel w0 T0 E gs w) {i2 es N I m : Nat} {g2 : Seg} {NI : Int} {row : Int → List SC} (hg : gs i2 = some g2) (hb : g2.body = .rows es NI row) (hmN : I + m ≤ N) (hN : NI = (N : Nat)) {x : Value} (hx : RelC E (.slr i2 es (I : Int) (m : Int)) x) :
    ∃ us : List Value, (Builtin.firstCells es m x).run P w = .ok us.toArray w ∧ us.length = m * es ∧ (∀ k, k < m * es → ∃ u, us[k]? = some u ∧ RelC E ((row (((I * es + k) / es : Nat) : Int)).getD ((I * es + k) % es) .any) u) ∧ ∃ bx cx, x = .slice bx m cx := by
  obtain ⟨base, n, cap, rfl, hl, hcap, hnil, I', hI, hbase⟩ := hx
  have hn : n = m := by omega
  have hI' : I' = I := by omega
  subst hn
  subst hI'
  by_cases hn0 : n = 0
  · subst hn0
    exact ⟨[], by cases base <;> simp [Builtin.firstCells, loadCells, loadCellsFrom], by simp, fun k hk => by simp at hk, base, cap, rfl⟩
  · cases base with
    | none => have := hnil rfl; omega
    | some ad =>
      obtain ⟨b, q, z, hE, ha⟩ := hbase ad rfl
      have had := ha (by omega)
      subst had
      obtain ⟨b', q', z', cs, T, fr, hE', s⟩ := hm.segs i2 _ hg
      rw [hE] at hE'; cases hE'
      have hblen : I' * es + n * es ≤ g2.body.len := by
        rw [hb]
        simp only [SBody.len, hN, Int.toNat_natCast]
        rw [← Nat.add_mul, Nat.mul_comm]
        exact Nat.mul_le_mul_left _ hmN
      have hle := s.le
      have hfit := s.fit
      have hl2 : ((cs.toList.drop (q + I' * es)).take (n * es)).length = n * es := by
        simp only [List.length_take, List.length_drop, Array.length_toList]
        omega
      have hget : ∀ k, k < n * es → ((cs.toList.drop (q + I' * es)).take (n * es))[k]? = cs[q + (I' * es + k)]? := by
        intro k hk
        rw [List.getElem?_take, if_pos hk, List.getElem?_drop, Array.getElem?_toList, Nat.add_assoc]
      refine ⟨(cs.toList.drop (q + I' * es)).take (n * es), ?_, hl2, fun k hk => ?_, _, cap, rfl⟩
      · simp only [Builtin.firstCells]
        have e := run_loadCells_list (P := P) w ⟨b, q + I' * es, none⟩ ((cs.toList.drop (q + I' * es)).take (n * es)) fun j u hj => by
          have hjl : j < n * es := by
            rcases Nat.lt_or_ge j (n * es) with h' | h'
            · exact h'
            · rw [List.getElem?_eq_none (by rw [hl2]; exact h')] at hj; cases hj
          rw [hget j hjl] at hj
          rw [addr_add]
          simp only [World.cell?, s.heap]
          rw [Nat.add_assoc]
          exact hj
        rw [hl2] at e
        exact e
      · obtain ⟨v, h1, h2⟩ := s.cell (I' * es + k) (by omega)
        rw [hb] at h2
        exact ⟨v, by rw [hget k hk]; exact h1, h2⟩
theorem appR_run (hm : MemRel w0 T0 E gs w) (h1 : next ≠ 0) {t el : TypeId} {i1 es by' n m : Nat} {len1 : SI} {s x : Value} (hs : RelC E (.sl i1 0 es len1 true) s) (hl1 : len1.val = (n : Nat)) {b1 : SBody} (hg1 : gs i1 = some ⟨true, true, b1⟩) (hi0 : i1 ≠ 0) (hes1 : 1 ≤ es) {R : Int → List SC}
    (hsrc : ∀ w : World, MemRel w0 T0 E gs w → ∃ us : List Value, (Builtin.firstCells es m x).run P w = .ok us.toArray w ∧ us.length = m * es ∧ (∀ k, k < m * es → ∃ u, us[k]? = some u ∧ RelC E ((R (((n * es + k) / es : Nat) : Int)).getD ((n * es + k) % es) .any) u) ∧ ∃ bx cx, x = .slice bx m cx)
    (hold : ∀ k, k < n * es → k < b1.len ∧ ∀ v, RelC E (b1.at k) v → RelC E ((R ((k / es : Nat) : Int)).getD (k % es) .any) v)
    (hel : telem P t = some el) (hes : tsize P el = some es) (hby : tbytes P el = some by') (hb : by' ≤ 1000000) {zv : Value} (hz : ∀ w : World, (zeroValue el).run P w = .ok zv w) (hzs : zv.cells.size = es)
    {ts : Array TypeId} {ty t' el' : TypeId} (hts : ts[0]? = some t ∧ ts[1]? = some t') (ht' : telem P t' = some el') (hbig : n + m ≤ 1000000) (hfrn : E next = none) {rd : List Nat} {obs : List Bool} {len : SI} {N : Int} (hlen : len.val = ((n + m : Nat) : Int)) (hN : N = ((n + m : Nat) : Int)) :
    ∃ u w', (Builtin.append_ ts ty #[s, x]).run P w = .ok u w' ∧ PostOp w0 T0 E gs next ⟨.c (.sl next 0 es len true), [(i1, none), (next, some ⟨true, true, .rows es N R⟩)], next + 1, rd, obs⟩ u w' := by
  have hmd : MemRel w0 T0 E gs w.drew := hm.congr rfl rfl rfl
  obtain ⟨b, q, z1, cs1, T1, fr1, hE1, s1⟩ := hm.segs i1 _ hg1
  obtain ⟨hq0, hz1⟩ := s1.own rfl
  subst hq0
  have hsz : z1 = cs1.size := hz1
  obtain ⟨base, nn, cap, rfl, hln, hcap, hnil, hbase⟩ := hs
  have hnn : nn = n := by omega
  subst hnn
  have hb2 : ∀ ad, base = some ad → (cap ≠ 0 → ad = ⟨b, 0, none⟩) ∧ cap * es = z1 := by
    intro ad had
    obtain ⟨_, b', o', z', hE', ha, hfu⟩ := hbase ad had
    rw [hE1] at hE'; cases hE'
    exact ⟨fun hc => by rw [ha hc], by have := hfu rfl; omega⟩
  have hmul : nn * es + m * es = (nn + m) * es := (Nat.add_mul ..).symm
  have hni : next ≠ i1 := by intro e; subst e; rw [hfrn] at hE1; cases hE1
  have hws : updSs gs [(i1, none), (next, some ⟨true, true, .rows es N R⟩)] = upd (upd gs i1 none) next (some ⟨true, true, .rows es N R⟩) := rfl
  have hbl : (SBody.rows es N R).len = (nn + m) * es := by
    simp only [SBody.len, hN, Int.toNat_natCast]
    exact Nat.mul_comm _ _
  by_cases hfit : nn + m ≤ cap
  · obtain ⟨us, hf, hul, hus, bx, cx, hxe⟩ := hsrc w hm
    have hone : ∀ v ∈ us, v.oneCell' = true := by
      intro v hv
      obtain ⟨k, hk⟩ := List.getElem?_of_mem hv
      have hkl : k < m * es := by
        rcases Nat.lt_or_ge k us.length with h' | h'
        · omega
        · rw [List.getElem?_eq_none h'] at hk; cases hk
      obtain ⟨u, g1, g2⟩ := hus k hkl
      rw [g1] at hk; cases hk
      exact g2.one
    have hroom : (nn + m) * es ≤ z1 := by
      cases base with
      | none =>
        have hc0 := hnil rfl
        have : nn + m = 0 := by omega
        rw [this]; simp
      | some ad =>
        have h2 := (hb2 ad rfl).2
        rw [← h2]
        exact Nat.mul_le_mul_right _ hfit
    obtain ⟨w', cs', hrun, hput⟩ := run_put P b (nn * es) T1 fr1 us 0 w cs1 s1.heap (by rw [hul]; omega) (fun k h2 h3 => s1.fz rfl k (by omega) (by rw [hul] at h3; omega)) hone
    have hm' := hm.put hg1 rfl hE1 hput (by rw [hul]; omega) (body := .rows es N R) (by rw [hbl]; exact hroom) (fun k hk => by
      rw [hbl] at hk
      rw [hput.at_]
      by_cases hk2 : k < nn * es
      · rw [if_neg (by omega)]
        obtain ⟨h3, h4⟩ := hold k hk2
        obtain ⟨u, h5, h6⟩ := s1.cell k h3
        exact ⟨u, h5, h4 u h6⟩
      · rw [if_pos (by rw [hul]; omega)]
        obtain ⟨u, h2, h3⟩ := hus (k - nn * es) (by omega)
        refine ⟨u, by rw [show 0 + k - (nn * es + 0) = k - nn * es by omega]; exact h2, ?_⟩
        rw [show nn * es + (k - nn * es) = k by omega] at h3
        exact h3)
    have hm2 := hm'.rename (upd_same _ _ _) hfrn hE1
    have hff : upd (upd gs i1 (some ⟨true, true, .rows es N R⟩)) i1 none = upd gs i1 none := by
      funext k
      by_cases e : k = i1
      · subst e; rw [upd_same, upd_same]
      · rw [upd_other _ _ e, upd_other _ _ e, upd_other _ _ e]
    rw [hff] at hm2
    have hu0 : cap = 0 → us = [] := by
      intro hc0
      have hm0 : m = 0 := by omega
      subst hm0
      exact List.length_eq_zero_iff.1 (by simpa using hul)
    have hww : us = [] → w' = w := by
      intro e
      subst e
      simp [storeCells] at hrun
      exact hrun.symm
    refine ⟨.slice base (nn + m) cap, w', run_app_in hel hes hts ht' hxe hf hfit (fun ad had => ?_) (fun hbn => hww (hu0 (hnil hbn))), upd E next (some (b, 0, z1)), Ext.upd _ hfrn, fun i hi => ?_, ?_, ?_⟩
    · by_cases hc0 : cap = 0
      · have e := hu0 hc0
        rw [hww e, e]
        simp [storeCells]
      · rw [(hb2 ad had).1 hc0, addr_add, Nat.zero_add]; exact hrun
    · by_cases e : i = next
      · subst e; exact .inr ⟨Nat.le_refl _, Nat.lt_succ_self _⟩
      · rw [upd_other _ _ e] at hi; exact .inl hi
    · refine ⟨base, nn + m, cap, rfl, hlen, hfit, hnil, fun ad had => ?_⟩
      exact ⟨h1, b, 0, z1, upd_same _ _ _, fun hc => by rw [(hb2 ad had).1 hc], fun _ => by have := (hb2 ad had).2; omega⟩
    · rw [hws]; exact hm2
  · obtain ⟨us, hf, hul, hus, bx, cx, hxe⟩ := hsrc w.drew hmd
    have hos : ∃ os : List Value, (Builtin.firstCells es nn (.slice base nn cap)).run P w.drew = .ok os.toArray w.drew ∧ os.length = nn * es ∧ ∀ k, k < nn * es → ∃ u, os[k]? = some u ∧ RelC E (b1.at k) u := by
      by_cases hn0 : nn = 0
      · subst hn0
        exact ⟨[], by cases base <;> simp [Builtin.firstCells, loadCells, loadCellsFrom], by simp, fun k hk => by simp at hk⟩
      · cases base with
        | none => have := hnil rfl; omega
        | some ad =>
          have had := (hb2 ad rfl).1 (by omega)
          subst had
          have hle := s1.le
          have hnb : nn * es ≤ z1 := by
            rw [← (hb2 _ rfl).2]
            exact Nat.mul_le_mul_right _ hcap
          have hl2 : (cs1.toList.take (nn * es)).length = nn * es := by
            simp only [List.length_take, Array.length_toList]
            omega
          have hget : ∀ k, k < nn * es → (cs1.toList.take (nn * es))[k]? = cs1[k]? := by
            intro k hk
            rw [List.getElem?_take, if_pos hk, Array.getElem?_toList]
          refine ⟨cs1.toList.take (nn * es), ?_, hl2, fun k hk => ?_⟩
          · simp only [Builtin.firstCells]
            have e := run_loadCells_list (P := P) w.drew ⟨b, 0, none⟩ (cs1.toList.take (nn * es)) fun j u hj => by
              have hjl : j < nn * es := by
                rcases Nat.lt_or_ge j (nn * es) with h' | h'
                · exact h'
                · rw [List.getElem?_eq_none (by rw [hl2]; exact h')] at hj; cases hj
              rw [hget j hjl] at hj
              rw [addr_add]
              have hh : w.drew.heap[b]? = some (.cells cs1 T1 fr1) := s1.heap
              simp only [World.cell?, hh, Nat.zero_add]
              exact hj
            rw [hl2] at e
            exact e
          · obtain ⟨h3, _⟩ := hold k hk
            obtain ⟨u, h5, h6⟩ := s1.cell k h3
            exact ⟨u, by rw [hget k hk]; simpa using h5, h6⟩
    obtain ⟨os, ho, hol, hor⟩ := hos
    obtain ⟨cap', cs, k1, k2, k3, k4⟩ := run_app_new (w := w) (ty := ty) hel hes hby hb hts ht' hxe hf ho (by omega) hbig hz hzs hul hol
    have hm3 : MemRel w0 T0 E (upd gs i1 none) w := hm.sub fun i g hg => by
      by_cases e : i = i1
      · subst e; rw [upd_same] at hg; cases hg
      · rw [upd_other _ _ e] at hg; exact hg
    have hm4 : MemRel w0 T0 E (upd gs i1 none) w.drew := hm3.congr rfl rfl rfl
    have hroom : (nn + m) * es ≤ cap' * es := Nat.mul_le_mul_right _ k1
    obtain ⟨E', g1, g2, g3, g4⟩ := post_new (T := el) (cs := cs) (rd := rd) (obs := obs) (body := .rows es N R) (p := .sl next 0 es len true) (u := .slice (some ⟨w.heap.size, 0, none⟩) (nn + m) cap') hm4 hfrn h1 (by rw [hbl, k2]; exact hroom) (fun k hk => by
      rw [hbl] at hk
      rw [k3 k (by omega)]
      by_cases hk2 : k < nn * es
      · obtain ⟨u, h5, h6⟩ := hor k hk2
        exact ⟨u, by rw [List.getElem?_append_left (by omega)]; exact h5, (hold k hk2).2 u h6⟩
      · obtain ⟨u, h2, h3⟩ := hus (k - nn * es) (by omega)
        refine ⟨u, by rw [List.getElem?_append_right (by omega), hol]; exact h2, ?_⟩
        rw [show nn * es + (k - nn * es) = k by omega] at h3
        exact h3) (by
      refine ⟨some ⟨w.heap.size, 0, none⟩, nn + m, cap', rfl, hlen, k1, fun e => (by cases e), fun ad had => ?_⟩
      cases had
      exact ⟨h1, _, _, _, upd_same _ _ _, fun _ => rfl, fun _ => by rw [Nat.zero_add]; exact k2.symm⟩)
    exact ⟨_, _, k4, E', g1, g2, g3, by rw [hws]; exact g4⟩
theorem sAppR_ok (hm : MemRel w0 T0 E gs w) (h1 : next ≠ 0) {t el : TypeId} {i1 o1 e1 : Nat} {n : SI} {f1 : Bool} {i2 o2 e2 : Nat} {m : SI} {es by' : Nat} {f2 : Bool} {z : List SC} {s x : Value} (hs : RelC E (.sl i1 o1 e1 n f1) s) (hx : RelC E (.sl i2 o2 e2 m f2) x)
    (hel : telem P t = some el) (hes : tsize P el = some es) (hby : tbytes P el = some by') (hz : tzero P el = some z) {e : Eff} (h : sAppR gs next i1 o1 e1 n f1 i2 o2 e2 m es by' z = some e) (hfr : ∀ i, next ≤ i → i < e.next → E i = none) (hob : AllT e.obs)
    {ts : Array TypeId} {ty t' el' : TypeId} (hts : ts[0]? = some t ∧ ts[1]? = some t') (ht' : telem P t' = some el') :
    ∃ u w', (Builtin.append_ ts ty #[s, x]).run P w = .ok u w' ∧ PostOp w0 T0 E gs next e u w' := by
  obtain ⟨zv, hzv, hzr, _⟩ := rZero (P := P) (w := w) (E := E) hz
  have hzall : ∀ w : World, (zeroValue el).run P w = .ok zv w := by
    intro u
    obtain ⟨zv', h1, _, i, hi, hiz⟩ := rZero (P := P) (w := u) (E := E) hz
    obtain ⟨_, h2, _, i', hi', hiz'⟩ := rZero (P := P) (w := w) (E := E) hz
    rw [hi] at hi'; cases hi'
    rw [hiz] at hiz'; cases hiz'
    rw [hzv] at h2; cases h2
    exact h1
  unfold sAppR at h
  split at h <;> try (cases h; done)
  rename_i hc
  simp only [Bool.and_eq_true, Nat.ble_eq, beqN] at hc
  obtain ⟨⟨⟨⟨⟨⟨⟨hc1, hc2⟩, hc3⟩, hc4⟩, rfl⟩, rfl⟩, rfl⟩, rfl⟩ := hc
  have hzs : zv.cells.size = e2 := by have := hzr.len; simp at this; omega
  split at h <;> try (cases h; done)
  rename_i b1 hg1
  obtain ⟨g2, hg2, h⟩ := bindO_some h
  unfold appR at h
  split at h <;> try (cases h; done)
  · -- onto nothing
    rename_i k
    split at h <;> try (cases h; done)
    rename_i hk0
    rw [beqN] at hk0
    subst hk0
    split at h <;> try (cases h; done)
    rename_i st N row hb2
    split at h <;> try (cases h; done)
    rename_i m
    split at h <;> cases h
    rename_i hst
    simp only [Bool.and_eq_true, beqN] at hst
    obtain ⟨rfl, rfl⟩ := hst
    have hb := hob.head
    simp only [decide_eq_true_eq] at hb
    obtain ⟨h0, hmN, hbig⟩ := hb
    obtain ⟨j, rfl⟩ := Int.eq_ofNat_of_zero_le h0
    obtain ⟨J, rfl⟩ := Int.eq_ofNat_of_zero_le (Int.le_trans h0 hmN)
    exact appR_run (n := 0) (m := j) hm h1 hs rfl hg1 (by omega) hc1 (R := row) (fun w hm => by
      obtain ⟨us, k1, k2, k3, k4⟩ := srcR_ok (P := P) hm hg2 hb2 hmN rfl hx rfl
      exact ⟨us, k1, k2, fun k hk => by rw [Nat.zero_mul, Nat.zero_add]; exact k3 k hk, k4⟩) (fun k hk => by simp at hk) hel hes hby hc2 hzall hzs hts ht' (by omega) (hfr next (Nat.le_refl _) (Nat.lt_succ_self _)) (by simp [SI.val]) (by simp)
  · -- a row onto rows
    rename_i n
    split at h <;> try (cases h; done)
    rename_i st N row
    split at h <;> try (cases h; done)
    rename_i k
    split at h <;> try (cases h; done)
    rename_i l hb2
    split at h
    · rename_i hst
      simp only [Bool.and_eq_true, beqN] at hst
      obtain ⟨rfl, rfl⟩ := hst
      split at h <;> cases h
      rename_i r hr
      have hb := hob.head
      simp only [decide_eq_true_eq] at hb
      obtain ⟨h0, hnN, hbig⟩ := hb
      obtain ⟨j, rfl⟩ := Int.eq_ofNat_of_zero_le h0
      obtain ⟨J, rfl⟩ := Int.eq_ofNat_of_zero_le (Int.le_trans h0 hnN)
      have hap : appNew gs i2 o2 st st 1 = some r := by
        unfold appNew
        rw [show Nat.beq 1 0 = false from rfl, show Nat.beq st st = true from beqN.2 rfl]
        simp only [hg2, sLoad, hb2, Nat.one_mul, hr]
      have hrl : r.length = st := by
        obtain ⟨us, _, k2, k3, _⟩ := appNew_ok (P := P) (w := w) hm hap hx rfl
        rw [k2.len, k3, Nat.one_mul]
      have hes0 : 0 < st := by omega
      exact appR_run (n := j) (m := 1) hm h1 hs rfl hg1 (by omega) hc1 (R := fun k => bif decide (k < (j : Int)) then row k else r) (fun w hm => by
        obtain ⟨us, k1, k2, k3, k4⟩ := appNew_ok (P := P) hm hap hx rfl
        refine ⟨us, k1, k3, fun k hk => ?_, k4⟩
        rw [Nat.one_mul] at hk
        obtain ⟨u, h2, h3⟩ := k2.getD k (by rw [hrl]; exact hk)
        refine ⟨u, h2, ?_⟩
        rw [show (j * st + k) / st = j by rw [Nat.mul_comm, Nat.mul_add_div hes0, Nat.div_eq_of_lt hk]; simp, show (j * st + k) % st = k by rw [Nat.mul_comm, Nat.mul_add_mod, Nat.mod_eq_of_lt hk]]
        simpa using h3) (fun k hk => by
        have hkd : k / st < j := (Nat.div_lt_iff_lt_mul hes0).2 hk
        refine ⟨?_, fun v hv => ?_⟩
        · simp only [SBody.len, Int.toNat_natCast]
          have : j * st ≤ st * J := by rw [Nat.mul_comm]; exact Nat.mul_le_mul_left _ (by omega)
          omega
        · have hd : decide (((k / st : Nat) : Int) < (j : Int)) = true := by simpa using Int.ofNat_lt.2 hkd
          rw [hd]
          exact hv) hel hes hby hc2 hzall hzs hts ht' (by omega) (hfr next (Nat.le_refl _) (Nat.lt_succ_self _)) (by simp [SI.val]) (by simp)
    · split at h <;> try (cases h; done)
      rename_i hst
      simp only [Bool.and_eq_true, beqN] at hst
      obtain ⟨rfl, rfl⟩ := hst
      split at h <;> try (cases h; done)
      rename_i r hr
      split at h <;> cases h
      rename_i r' hr'
      have hb := hob.head
      simp only [decide_eq_true_eq] at hb
      obtain ⟨h0, hnN, hbig⟩ := hb
      obtain ⟨j, rfl⟩ := Int.eq_ofNat_of_zero_le h0
      obtain ⟨J, rfl⟩ := Int.eq_ofNat_of_zero_le (Int.le_trans h0 hnN)
      have hes0 : 0 < st := by omega
      have hp2 : part l o2 (2 * st) = some (r ++ r') := by
        have := part_two hr hr'
        rw [Nat.two_mul]; exact this
      have hap : appNew gs i2 o2 st st 2 = some (r ++ r') := by
        unfold appNew
        rw [show Nat.beq 2 0 = false from rfl, show Nat.beq st st = true from beqN.2 rfl]
        simp only [hg2, sLoad, hb2, hp2]
      have hrl : r.length = st := (part_get hr).1
      have hrl' : r'.length = st := (part_get hr').1
      exact appR_run (n := j) (m := 2) hm h1 hs rfl hg1 (by omega) hc1 (R := fun k => bif decide (k < (j : Int)) then row k else bif decide (k = (j : Int)) then r else r') (fun w hm => by
        obtain ⟨us, k1, k2, k3, k4⟩ := appNew_ok (P := P) hm hap hx rfl
        refine ⟨us, k1, k3, fun k hk => ?_, k4⟩
        obtain ⟨u, h2, h3⟩ := k2.getD k (by rw [List.length_append, hrl, hrl']; omega)
        refine ⟨u, h2, ?_⟩
        by_cases hk1 : k < st
        · rw [show (j * st + k) / st = j by rw [Nat.mul_comm, Nat.mul_add_div hes0, Nat.div_eq_of_lt hk1]; simp, show (j * st + k) % st = k by rw [Nat.mul_comm, Nat.mul_add_mod, Nat.mod_eq_of_lt hk1]]
          rw [List.getD_eq_getElem?_getD, List.getElem?_append_left (by omega), ← List.getD_eq_getElem?_getD] at h3
          simpa using h3
        · have hk3 : k - st < st := by omega
          rw [show (j * st + k) / st = j + 1 by rw [show j * st + k = st * (j + 1) + (k - st) by rw [Nat.mul_succ, Nat.mul_comm]; omega, Nat.mul_add_div hes0, Nat.div_eq_of_lt hk3, Nat.add_zero], show (j * st + k) % st = k - st by rw [show j * st + k = st * (j + 1) + (k - st) by rw [Nat.mul_succ, Nat.mul_comm]; omega, Nat.mul_add_mod, Nat.mod_eq_of_lt hk3]]
          rw [List.getD_eq_getElem?_getD, List.getElem?_append_right (by omega), hrl, ← List.getD_eq_getElem?_getD] at h3
          have e1 : decide (((j + 1 : Nat) : Int) < (j : Int)) = false := by simp; omega
          have e2 : decide (((j + 1 : Nat) : Int) = (j : Int)) = false := by simp; omega
          rw [e1, e2]
          exact h3) (fun k hk => by
        have hkd : k / st < j := (Nat.div_lt_iff_lt_mul hes0).2 hk
        refine ⟨?_, fun v hv => ?_⟩
        · simp only [SBody.len, Int.toNat_natCast]
          have : j * st ≤ st * J := by rw [Nat.mul_comm]; exact Nat.mul_le_mul_left _ (by omega)
          omega
        · have hd : decide (((k / st : Nat) : Int) < (j : Int)) = true := by simpa using Int.ofNat_lt.2 hkd
          rw [hd]
          exact hv) hel hes hby hc2 hzall hzs hts ht' (by omega) (hfr next (Nat.le_refl _) (Nat.lt_succ_self _)) (by simp [SI.val]) (by simp)
theorem sAppRR_ok (hm : MemRel w0 T0 E gs w) (h1 : next ≠ 0) {t el : TypeId} {i1 o1 e1 : Nat} {n : SI} {f1 : Bool} {i2 e2 : Nat} {idx m : Int} {es by' : Nat} {z : List SC} {s x : Value} (hs : RelC E (.sl i1 o1 e1 n f1) s) (hx : RelC E (.slr i2 e2 idx m) x)
    (hel : telem P t = some el) (hes : tsize P el = some es) (hby : tbytes P el = some by') (hz : tzero P el = some z) {e : Eff} (h : sAppRR gs next i1 o1 e1 n f1 i2 e2 idx m es by' z = some e) (hfr : ∀ i, next ≤ i → i < e.next → E i = none) (hob : AllT e.obs)
    {ts : Array TypeId} {ty t' el' : TypeId} (hts : ts[0]? = some t ∧ ts[1]? = some t') (ht' : telem P t' = some el') :
    ∃ u w', (Builtin.append_ ts ty #[s, x]).run P w = .ok u w' ∧ PostOp w0 T0 E gs next e u w' := by
  obtain ⟨zv, hzv, hzr, _⟩ := rZero (P := P) (w := w) (E := E) hz
  have hzall : ∀ w : World, (zeroValue el).run P w = .ok zv w := by
    intro u
    obtain ⟨zv', h1, _, i, hi, hiz⟩ := rZero (P := P) (w := u) (E := E) hz
    obtain ⟨_, h2, _, i', hi', hiz'⟩ := rZero (P := P) (w := w) (E := E) hz
    rw [hi] at hi'; cases hi'
    rw [hiz] at hiz'; cases hiz'
    rw [hzv] at h2; cases h2
    exact h1
  unfold sAppRR at h
  split at h <;> try (cases h; done)
  rename_i hc
  simp only [Bool.and_eq_true, Nat.ble_eq, beqN] at hc
  obtain ⟨⟨⟨⟨⟨⟨⟨hc1, hc2⟩, hc3⟩, hc4⟩, rfl⟩, rfl⟩, rfl⟩, rfl⟩ := hc
  have hzs : zv.cells.size = e2 := by have := hzr.len; simp at this; omega
  split at h <;> try (cases h; done)
  rename_i n
  split at h <;> try (cases h; done)
  rename_i st N row hg1
  split at h <;> try (cases h; done)
  rename_i w2 p2 st2 N2 row2 hg2
  split at h <;> cases h
  rename_i hst
  simp only [Bool.and_eq_true, beqN] at hst
  obtain ⟨rfl, rfl⟩ := hst
  have hb := hob.head
  simp only [decide_eq_true_eq] at hb
  obtain ⟨h0, hnN, hm0, hi0, hiN, hbig⟩ := hb
  obtain ⟨j, rfl⟩ := Int.eq_ofNat_of_zero_le h0
  obtain ⟨J, rfl⟩ := Int.eq_ofNat_of_zero_le (Int.le_trans h0 hnN)
  obtain ⟨M, rfl⟩ := Int.eq_ofNat_of_zero_le hm0
  obtain ⟨I, rfl⟩ := Int.eq_ofNat_of_zero_le hi0
  obtain ⟨J2, rfl⟩ := Int.eq_ofNat_of_zero_le (show 0 ≤ N2 by omega)
  have hes0 : 0 < st2 := by omega
  exact appR_run (n := j) (m := M) hm h1 hs rfl hg1 (by omega) hc1 (R := fun k => bif decide (k < (j : Int)) then row k else row2 (k - (j : Int) + (I : Int))) (fun w hm => by
    obtain ⟨us, k1, k2, k3, k4⟩ := srcRr_ok (P := P) hm hg2 rfl (by omega : I + M ≤ J2) rfl hx
    refine ⟨us, k1, k2, fun k hk => ?_, k4⟩
    obtain ⟨u, h2, h3⟩ := k3 k hk
    refine ⟨u, h2, ?_⟩
    rw [show j * st2 + k = st2 * j + k by rw [Nat.mul_comm], Nat.mul_add_div hes0, Nat.mul_add_mod]
    rw [show I * st2 + k = st2 * I + k by rw [Nat.mul_comm], Nat.mul_add_div hes0, Nat.mul_add_mod] at h3
    have e1 : decide (((j + k / st2 : Nat) : Int) < (j : Int)) = false := decide_eq_false (Int.not_lt.2 (Int.ofNat_le.2 (Nat.le_add_right _ _)))
    rw [e1]
    have e2 : ((j + k / st2 : Nat) : Int) - (j : Int) + (I : Int) = ((I + k / st2 : Nat) : Int) := by omega
    show RelC E ((row2 (((j + k / st2 : Nat) : Int) - (j : Int) + (I : Int))).getD _ _) u
    rw [e2]
    exact h3) (fun k hk => by
      have hkd : k / st2 < j := (Nat.div_lt_iff_lt_mul hes0).2 hk
      refine ⟨?_, fun v hv => ?_⟩
      · simp only [SBody.len, Int.toNat_natCast]
        have : j * st2 ≤ st2 * J := by rw [Nat.mul_comm]; exact Nat.mul_le_mul_left _ (by omega)
        omega
      · have hd : decide (((k / st2 : Nat) : Int) < (j : Int)) = true := by simpa using Int.ofNat_lt.2 hkd
        rw [hd]
        exact hv) hel hes hby hc2 hzall hzs hts ht' (by omega) (hfr next (Nat.le_refl _) (Nat.lt_succ_self _)) (by simp [SI.val]) (by simp)
end

end Go.Proofs.Ytaoeigofmfpamaa
end

/- Calls, and the law of every operation. Nothing is assumed. -/
section
namespace Go.Proofs.Ytaoeigofmfpamaa
open Go

/-- The cells that a call may write: those of the segments that it is handed to write. -/
def Tch (E : EM) (rd : List (Nat × Seg)) (b k : Nat) : Prop := ∃ i g o z, findS i rd = some g ∧ g.rw = true ∧ E i = some (b, o, z) ∧ o ≤ k ∧ k < o + z
def CallPost (E : EM) (base : Nat) (rd : List (Nat × Seg)) (w : World) (e : CEff) (v : Value) (w' : World) : Prop :=
  ∃ E', Ext E E' ∧ (∀ i, E' i ≠ none → E i ≠ none ∨ (base ≤ i ∧ i < e.next)) ∧ RelV E' e.ret v ∧ MemRel w (Tch E rd) E' (updSs (fun i => findS i rd) e.ws) w'
/-- What is proved of a function: its calls do what 'S' says. -/
def CallOK (P : Program) (f : FuncId) (S : CS) : Prop :=
  ∀ (E : EM) (base : Nat) (args : List SV) (vals : Array Value) (rd : List (Nat × Seg)) (w : World) (e : CEff), S base args rd = some e → AllT e.obs → RelVs E args vals.toList → 1 ≤ base → base ≤ e.next →
    (∀ i, base ≤ i → i < e.next → E i = none) → MemRel w (Tch E rd) E (fun i => findS i rd) w → NextOK P ((callFunc f vals).run P w) (CallPost E base rd w e)

section
variable {P : Program} {a : Act} {w0 w w' : World} {T0 : Nat → Nat → Prop} {E E' : EM} {gt : Nat → SV} {gs : Nat → Option Seg} {next : Nat}

theorem hasId_find {i : Nat} : ∀ {l : List (Nat × Seg)}, hasId i l = false → findS i l = none
  | [], _ => rfl
  | (j, s) :: l, h => by
    simp only [hasId] at h
    simp only [findS]
    split at h
    · cases h
    · exact hasId_find h
theorem grab_ok : ∀ {l : List Nat} {acc : List (Nat × Seg)}, (∀ i g, findS i acc = some g → gs i = some g) → ∀ i g, findS i (grab gs l acc) = some g → gs i = some g
  | [], acc, h, i, g, hg => h i g hg
  | j :: l, acc, h, i, g, hg => by
    simp only [grab] at hg
    split at hg
    · exact grab_ok h i g hg
    · split at hg
      · rename_i s hs
        refine grab_ok (acc := (j, s) :: acc) (fun i' g' h' => ?_) i g hg
        simp only [findS] at h'
        split at h'
        · rename_i hb; rw [beqN] at hb; subst hb; cases h'; exact hs
        · exact h i' g' h'
      · exact grab_ok h i g hg
theorem reach_ok {args : List SV} (i : Nat) (g : Seg) (h : findS i (reach gs args) = some g) : gs i = some g :=
  grab_ok (grab_ok (fun i g h => by cases h)) i g h

theorem updSs_cases (f h : Nat → Option Seg) : ∀ (ws : List (Nat × Option Seg)) (i : Nat), (∃ v, updSs f ws i = v ∧ updSs h ws i = v ∧ (i, v) ∈ ws) ∨ (updSs f ws i = f i ∧ updSs h ws i = h i ∧ ∀ v, (i, v) ∉ ws)
  | [], i => .inr ⟨rfl, rfl, fun v h => by simp at h⟩
  | (j, v) :: r, i => by
    rcases updSs_cases (upd f j v) (upd h j v) r i with ⟨u, h1, h2, h3⟩ | ⟨h1, h2, h3⟩
    · exact .inl ⟨u, h1, h2, by simp [h3]⟩
    · by_cases e : i = j
      · subst e
        exact .inl ⟨v, by simp only [updSs]; rw [h1, upd_same], by simp only [updSs]; rw [h2, upd_same], by simp⟩
      · refine .inr ⟨by simp only [updSs]; rw [h1, upd_other _ _ e], by simp only [updSs]; rw [h2, upd_other _ _ e], fun u hu => ?_⟩
        rcases List.mem_cons.1 hu with hu | hu
        · cases hu; exact e rfl
        · exact h3 u hu
theorem wsOk1_ok {hi i : Nat} {rd : List (Nat × Seg)} {v : Option Seg} (h : wsOk1 next hi rd i v = true) : (∃ g, findS i rd = some g ∧ ∀ g', v = some g' → g'.rw = true → g.rw = true) ∨ (findS i rd = none ∧ next ≤ i ∧ i < hi ∧ ∀ g', v = some g' → g'.rw = true) := by
  unfold wsOk1 at h
  cases hf : findS i rd with
  | some g =>
    rw [hf] at h
    refine .inl ⟨g, rfl, fun g' hg' hrw => ?_⟩
    subst hg'
    simpa [hrw] using h
  | none =>
    rw [hf] at h
    simp only [Bool.and_eq_true, Nat.ble_eq] at h
    refine .inr ⟨rfl, h.1.1, by omega, fun g' hg' => ?_⟩
    subst hg'; exact h.2
theorem wsOk_mem {hi : Nat} {rd : List (Nat × Seg)} : ∀ {l : List (Nat × Option Seg)}, wsOk next hi rd l = true → ∀ i v, (i, v) ∈ l → (∃ g, findS i rd = some g ∧ ∀ g', v = some g' → g'.rw = true → g.rw = true) ∨ (findS i rd = none ∧ next ≤ i ∧ i < hi ∧ ∀ g', v = some g' → g'.rw = true)
  | [], _, i, v, hm => by simp at hm
  | (j, u) :: l, h, i, v, hm => by
    have h' : (Bool.rec false (wsOk next hi rd l) (wsOk1 next hi rd j u) : Bool) = true := h
    cases h1 : wsOk1 next hi rd j u with
    | false => rw [h1] at h'; cases h'
    | true =>
      rw [h1] at h'
      rcases List.mem_cons.1 hm with hm | hm
      · cases hm; exact wsOk1_ok h1
      · exact wsOk_mem (l := l) h' i v hm

theorem Fr.trans {T1 : Nat → Nat → Prop} (h : Fr w0 w T0) (h' : Fr w w' T1) (ht : ∀ b k, b < w0.heap.size → T1 b k → T0 b k) : Fr w0 w' T0 where
  os := h'.os.trans h.os
  out := h'.out.trans h.out
  size := Nat.le_trans h.size h'.size
  old b hb := by
    have hb' := Nat.lt_of_lt_of_le hb h.size
    rcases h.old b hb with ⟨cs, t, fr, cs', e1, e2, e3, e4⟩ | e1 <;> rcases h'.old b hb' with ⟨ds, t', fr', ds', f1, f2, f3, f4⟩ | f1
    · rw [e2] at f1; cases f1
      exact .inl ⟨cs, t, fr, ds', e1, f2, f3.trans e3, fun j hj => (f4 j fun h => hj (ht b j hb h)).trans (e4 j hj)⟩
    · exact .inl ⟨cs, t, fr, cs', e1, by rw [f1]; exact e2, e3, e4⟩
    · rw [e1] at f1
      exact .inl ⟨ds, t', fr', ds', f1, f2, f3, fun j hj => f4 j fun h => hj (ht b j hb h)⟩
    · exact .inr (f1.trans e1)
  frz hn b o hb := by
    by_cases e : b < w.heap.size
    · have h0 := h.frz hn b o hb
      rcases h'.old b e with ⟨ds, t', fr', ds', f1, f2, f3, f4⟩ | f1
      · simp only [World.frozen?, f1, f2] at *; exact h0
      · simpa only [World.frozen?, f1] using h0
    · exact h'.frz hn b o (Nat.le_of_not_lt e)

/-- A segment that is out of a call's reach is as it was. -/
theorem SegAt.frame {T1 : Nat → Nat → Prop} {b o z : Nat} {g : Seg} {cs : Array Value} {T : TypeId} {fr : Nat × Nat} (s : SegAt E b o z g w cs T fr) (h : Fr w w' T1) (hn : ∀ k, o ≤ k → k < o + z → ¬ T1 b k) : ∃ cs', SegAt E b o z g w' cs' T fr := by
  rcases h.old b (lt_of_heap s.heap) with ⟨ds, t', fr', ds', f1, f2, f3, f4⟩ | f1
  · rw [s.heap] at f1; cases f1
    refine ⟨ds', f2, s.le, by rw [f3]; exact s.fit, fun ho => by rw [f3]; exact s.own ho, s.fz, fun k hk => ?_⟩
    have := s.le
    rw [f4 (o + k) (hn _ (by omega) (by omega))]
    exact s.cell k hk
  · exact ⟨cs, { s with heap := by rw [f1]; exact s.heap }⟩

/-- The memory behind a call. -/
theorem MemRel.call (hm : MemRel w0 T0 E gs w) {rd : List (Nat × Seg)} (hrd : ∀ i g, findS i rd = some g → gs i = some g) {hi : Nat} {ws : List (Nat × Option Seg)} (hws : wsOk next hi rd ws = true) (hfr : ∀ i, next ≤ i → i < hi → E i = none)
    (he : Ext E E') (hc : MemRel w (Tch E rd) E' (updSs (fun i => findS i rd) ws) w') : MemRel w0 T0 E' (updSs gs ws) w' := by
  -- each segment is one that the call tells of, or one that it does not reach
  have look : ∀ i g, updSs gs ws i = some g → updSs (fun i => findS i rd) ws i = some g ∨ (gs i = some g ∧ findS i rd = none ∧ (∀ v, (i, v) ∉ ws)) := by
    intro i g hg
    rcases updSs_cases gs (fun i => findS i rd) ws i with ⟨v, h1, h2, h3⟩ | ⟨h1, h2, h3⟩
    · left; rw [h2, ← h1]; exact hg
    · rw [h1] at hg
      cases hf : findS i rd with
      | some g' =>
        left
        have := hrd i g' hf
        rw [hg] at this; cases this
        rw [h2]; exact hf
      | none => exact .inr ⟨hg, rfl, h3⟩
  -- of those that the call tells of: one that was there, or a new one
  have told : ∀ i g, updSs (fun i => findS i rd) ws i = some g → (∃ g0, findS i rd = some g0 ∧ (g.rw = true → g0.rw = true)) ∨ (E i = none ∧ g.rw = true) := by
    intro i g hg
    rcases updSs_cases (fun i => findS i rd) (fun i => findS i rd) ws i with ⟨v, h1, _, h3⟩ | ⟨h1, _, _⟩
    · rw [h1] at hg; subst hg
      rcases wsOk_mem hws i _ h3 with ⟨g0, k1, k2⟩ | ⟨_, k2, k3, k4⟩
      · exact .inl ⟨g0, k1, k2 g rfl⟩
      · exact .inr ⟨hfr i k2 k3, k4 g rfl⟩
    · rw [h1] at hg; exact .inl ⟨g, hg, fun h => h⟩
  have blk : ∀ i g, gs i = some g → ∀ b o z, E i = some (b, o, z) → b < w.heap.size := fun i g hg b o z hb => by
    obtain ⟨b', o', z', cs', T', fr', e, s⟩ := hm.segs i g hg
    rw [hb] at e; cases e; exact lt_of_heap s.heap
  -- what is out of reach meets no cell that the call may write
  have apart : ∀ j g, gs j = some g → findS j rd = none → ∀ b o z, E j = some (b, o, z) → ∀ k, o ≤ k → k < o + z → ¬ Tch E rd b k := by
    intro j g hg hj b o z hb k h1 h2 ⟨i, gi, oi, zi, k1, k2, k3, k4, k5⟩
    have hij : i ≠ j := by intro e; subst e; rw [hj] at k1; cases k1
    rcases hm.disj i j gi g b oi zi b o z hij (hrd i gi k1) hg (.inl k2) k3 hb with d | d | d | d | d
    · exact d rfl
    all_goals omega
  have mixed : ∀ i j g h b o z b' o' z', updSs (fun i => findS i rd) ws i = some g → gs j = some h → findS j rd = none → (∀ v, (j, v) ∉ ws) → (g.rw = true ∨ h.rw = true) → E' i = some (b, o, z) → E j = some (b', o', z') → i ≠ j → b ≠ b' ∨ o + z ≤ o' ∨ o' + z' ≤ o ∨ z = 0 ∨ z' = 0 := by
    intro i j g h b o z b' o' z' hg hh hj hjw hr hb hb' hij
    rcases told i g hg with ⟨g0, k1, k2⟩ | ⟨hnew, hgw⟩
    · obtain ⟨b0, o0, z0, cs0, T00, fr0, e0, _⟩ := hm.segs i g0 (hrd i g0 k1)
      have := he i _ e0
      rw [hb] at this; cases this
      exact hm.disj i j g0 h b o z b' o' z' hij (hrd i g0 k1) hh (hr.imp k2 id) e0 hb'
    · -- a new one
      obtain ⟨b1, o1, z1, cs1, T1, fr1, e1, s1⟩ := hc.segs i g hg
      rw [hb] at e1; cases e1
      rcases hc.tch i g b o z hg hgw hb with h1 | h1
      · exact .inl (Nat.ne_of_gt (Nat.lt_of_lt_of_le (blk j h hh b' o' z' hb') h1))
      · by_cases hbb : b = b'
        · subst hbb
          by_cases ho : o + z ≤ o'
          · exact .inr (.inl ho)
          · by_cases ho' : o' + z' ≤ o
            · exact .inr (.inr (.inl ho'))
            · by_cases hz : z = 0
              · exact .inr (.inr (.inr (.inl hz)))
              · by_cases hz' : z' = 0
                · exact .inr (.inr (.inr (.inr hz')))
                · exact absurd (h1 (max o o') (by omega) (by omega)) (apart j h hh hj b o' z' hb' (max o o') (by omega) (by omega))
        · exact .inl hbb
  refine ⟨fun i g hg => ?_, fun i j g h b o z b' o' z' hij hg hh hr hb hb' => ?_, fun i g b o z hg hr hb => ?_, hm.fr.trans hc.fr ?_, hm.tab⟩
  · rcases look i g hg with h1 | ⟨h1, h2, h3⟩
    · exact hc.segs i g h1
    · obtain ⟨b, o, z, cs, T, fr, e, s⟩ := hm.segs i g h1
      obtain ⟨cs', s'⟩ := s.frame hc.fr (apart i g h1 h2 b o z e)
      exact ⟨b, o, z, cs', T, fr, he _ _ e, s'.mono he⟩
  · have back : ∀ i g, gs i = some g → ∀ x, E' i = some x → E i = some x := by
      intro i g hg x hx
      obtain ⟨b0, o0, z0, cs0, T00, fr0, e0, _⟩ := hm.segs i g hg
      have := he i _ e0
      rw [hx] at this; cases this; exact e0
    rcases look i g hg with h1 | ⟨h1, h2, h3⟩ <;> rcases look j h hh with k1 | ⟨k1, k2, k3⟩
    · exact hc.disj i j g h b o z b' o' z' hij h1 k1 hr hb hb'
    · exact mixed i j g h b o z b' o' z' h1 k1 k2 k3 hr hb (back j h k1 _ hb') hij
    · have := mixed j i h g b' o' z' b o z k1 h1 h2 h3 (Or.symm hr) hb' (back i g h1 _ hb) (Ne.symm hij)
      rcases this with d | d | d | d | d
      · exact .inl (Ne.symm d)
      all_goals omega
    · exact hm.disj i j g h b o z b' o' z' hij h1 k1 hr (back i g h1 _ hb) (back j h k1 _ hb')
  · rcases look i g hg with h1 | ⟨h1, h2, h3⟩
    · rcases hc.tch i g b o z h1 hr hb with k1 | k1
      · exact .inl (Nat.le_trans hm.fr.size k1)
      · by_cases hb0 : w0.heap.size ≤ b
        · exact .inl hb0
        · refine .inr fun k q1 q2 => ?_
          obtain ⟨j, gj, oj, zj, p1, p2, p3, p4, p5⟩ := k1 k q1 q2
          rcases hm.tch j gj b oj zj (hrd j gj p1) p2 p3 with r1 | r1
          · exact absurd r1 hb0
          · exact r1 k p4 p5
    · obtain ⟨b0, o0, z0, cs0, T00, fr0, e0, _⟩ := hm.segs i g h1
      have := he i _ e0
      rw [hb] at this; cases this
      exact hm.tch i g b o z h1 hr e0
  · rintro b k hb ⟨j, gj, oj, zj, p1, p2, p3, p4, p5⟩
    rcases hm.tch j gj b oj zj (hrd j gj p1) p2 p3 with r1 | r1
    · omega
    · exact r1 k p4 p5

theorem evs_ok (hT : ∀ t, RelV E (gt t) (a.tmps.getD t undef)) : ∀ {l : List Operand} {vs : List SV}, evs gt l = some vs → RelVs E vs (l.map a.eval)
  | [], vs, h => by cases h; trivial
  | x :: l, vs, h => by
    simp only [evs] at h
    split at h <;> try (cases h; done)
    split at h <;> try (cases h; done)
    rename_i v hv _ r hr
    cases h
    exact ⟨ev_ok hT hv, evs_ok hT hr⟩

theorem oFn_ok (hm : MemRel w0 T0 E gs w) {f : FuncId} {S : CS} (hS : CallOK P f S) {vs : List SV} {vals : Array Value} (hv : RelVs E vs vals.toList) {e : Eff} (h : oFn gs next S vs (reach gs vs) = some e) (hfr : ∀ i, next ≤ i → i < e.next → E i = none) (hob : AllT e.obs) :
    NextOK P ((callFunc f vals).run P w) (PostOp w0 T0 E gs next e) := by
  unfold oFn at h
  obtain ⟨c, hc, h⟩ := bindO_some h
  cases hb : (wsOk next c.next (reach gs vs) c.ws && Nat.ble 1 next && Nat.ble next c.next) with
  | false => rw [hb] at h; cases h
  | true =>
    rw [hb] at h; cases h
    simp only [Bool.and_eq_true, Nat.ble_eq] at hb
    obtain ⟨⟨hb1, hb2⟩, hb3⟩ := hb
    have hsub : MemRel w (Tch E (reach gs vs)) E (fun i => findS i (reach gs vs)) w := by
      have h0 := hm.sub (sg' := fun i => findS i (reach gs vs)) (fun i g h => reach_ok i g h)
      refine ⟨h0.segs, h0.disj, fun i g b o z hg hr hb => .inr fun k h1 h2 => ⟨i, g, o, z, hg, hr, hb, h1, h2⟩, Fr.refl _ _, hm.fr.tabs hm.tab.1 hm.tab.2, fun b k hb ⟨i, g, o, z, p1, p2, p3, p4, p5⟩ => ?_⟩
      rcases hm.tch i g b o z (reach_ok i g p1) p2 p3 with r1 | r1
      · obtain ⟨t, fr, e⟩ := hm.tab.1 b hb
        exact absurd (lt_of_heap e) (by omega)
      · exact hm.tab.2 b k hb (r1 k p4 p5)
    refine (hS E next vs vals (reach gs vs) w c hc hob hv hb2 hb3 hfr hsub).mono fun v w' hp => ?_
    obtain ⟨E', k1, k2, k3, k4⟩ := hp
    exact ⟨E', k1, k2, k3, hm.call (fun i g h => reach_ok i g h) hb1 hfr k1 k4⟩

theorem retO_some {r : Option (SC × List Bool)} {e : Eff} (h : retO next r = some e) : ∃ c ob, r = some (c, ob) ∧ e = ⟨.c c, [], next, [], ob⟩ := by
  unfold retO at h
  split at h <;> cases h
  exact ⟨_, _, rfl, rfl⟩
/-- Every operation that the executor takes. -/
theorem sop_ok {cx : Cx} (hO : cx.O = fops) (hC : ∀ f S, cx.orc f = some S → CallOK cx.P f S) (hm : MemRel w0 T0 E gs w) (hT : ∀ t, RelV E (gt t) (a.tmps.getD t undef)) {o : Oper} {e : Eff} (h : sop cx gt gs next o.op = some e)
    (h1 : 1 ≤ next) (hfr : ∀ i, next ≤ i → i < e.next → E i = none) (hob : AllT e.obs) : NextOK cx.P ((execOp a.eval o).run cx.P w) (PostOp w0 T0 E gs next e) := by
  obtain ⟨P, O, orc⟩ := cx
  simp only at hO hC
  subst hO
  have hne : next ≠ 0 := by omega
  obtain ⟨dst, op, type, pos, after, guard⟩ := o
  simp only at h
  have pureRet : ∀ {x : Option SV} {u : Value}, (∀ s, x = some s → RelV E s u) → bindO x (retV next) = some e → PostOp w0 T0 E gs next e u w := by
    intro x u hx hb
    obtain ⟨s, h2, h3⟩ := bindO_some hb
    cases h3
    exact post_pure hm (hx s h2)
  cases op with
  | move x => exact pureRet (fun s hs => ev_ok hT hs) h
  | assign x => exact pureRet (fun s hs => ev_ok hT hs) h
  | pick c x y =>
    obtain ⟨q, hq, h⟩ := bindC_some (show bindC (ev gt c) (fun c => oPick next c (ev gt x) (ev gt y)) = some e from h)
    obtain ⟨b, hb, hp⟩ := oPick_ok hm h (ev_ok hT hq) (fun s hs => ev_ok hT hs) (fun s hs => ev_ok hT hs)
    have : (execOp a.eval ⟨dst, .pick c x y, type, pos, after, guard⟩).run P w = .ok (.value (if b then a.eval x else a.eval y)) w := by
      simp [execOp, hb, asBool]
    rw [this]; exact hp
  | alloc t => exact oAlloc_ok hm hne h hfr _
  | box t x =>
    obtain ⟨l, hl, h⟩ := bindO_some (show bindO (evL gt x) (fun l => newE next (.ptr next 0) l) = some e from h)
    exact oBox_ok hm hne (evL_ok hT hl) h hfr
  | build t parts =>
    obtain ⟨z, hz, h⟩ := bindO_some (show bindO (tzero P t) (fun z => oBuild P gt next z (P.underlying t) parts.toList) = some e from h)
    exact oBuild_ok hm hT hz h
  | buildSlice t len parts =>
    obtain ⟨el, hel, h⟩ := bindO_some (show bindO (telem P t) (fun el => oBuildSlice P gt next el len parts.toList) = some e from h)
    exact oBuildSlice_ok hm hne hT hel h hfr
  | load t x =>
    obtain ⟨p, hp, h⟩ := bindC_some (show bindC (ev gt x) (fun p => oLoadH P gs next t (hkey ⟨P, fops, orc⟩ x) p) = some e from h)
    obtain ⟨ob, h', hob'⟩ := oLoadH_some h hob
    have hq := oLoad_ok hm (ev_ok hT hp) h' hob'
    exact hq
  | store t x y =>
    obtain ⟨p, hp, h⟩ := bindC_some (show bindC (ev gt x) (fun p => oStoreH P gs next t (hkey ⟨P, fops, orc⟩ x) p (evL gt y)) = some e from h)
    exact oStoreH_ok hm (ev_ok hT hp) (fun l hl => evL_ok hT hl) h hob
  | nilCheck x =>
    obtain ⟨p, hp, h⟩ := bindC_some (show bindC (ev gt x) (fun p => oNil next p) = some e from h)
    unfold oNil at h
    obtain ⟨i, hi, h⟩ := bindO_some h
    cases h
    have hr := ev_ok hT hp
    have : ∃ ad, a.eval x = .pointer (some ad) := by
      cases p <;> simp only [ptrId] at hi <;> try (cases hi; done)
      · obtain ⟨_, _, _, _, h⟩ := hr; exact ⟨_, h⟩
      · obtain ⟨_, _, _, _, _, _, _, h⟩ := hr; exact ⟨_, h⟩
      · obtain ⟨_, _, _, _, _, _, h⟩ := hr; exact ⟨_, h⟩
    obtain ⟨ad, had⟩ := this
    have hrun : (execOp a.eval ⟨dst, .nilCheck x, type, pos, after, guard⟩).run P w = .ok (.value (a.eval x)) w := by
      simp [execOp, had]
    rw [hrun]; exact post_pure hm (v := .c p) hr
  | binOp op t x y ty =>
    obtain ⟨p, hp, h⟩ := bindC_some (show bindC (ev gt x) (fun p => bindC (ev gt y) fun q => retO next (sBin fops (tbool P t) op p q)) = some e from h)
    obtain ⟨q, hq, h⟩ := bindC_some h
    obtain ⟨r, ob, hr, rfl⟩ := retO_some h
    obtain ⟨v, w', g1, g2, g3, g4, g5⟩ := sBin_ok (P := P) (w := w) hr hob (ev_ok hT hp) (ev_ok hT hq) x y
    exact next_v g1 (post_pure' hm g3 g4 g5 (v := .c r) g2)
  | unOp op t x =>
    obtain ⟨p, hp, h⟩ := bindC_some (show bindC (ev gt x) (fun p => oUn fops next op p) = some e from h)
    unfold oUn at h
    obtain ⟨r, hr, h⟩ := bindO_some h
    cases h
    obtain ⟨v, g1, g2⟩ := sUn_ok (P := P) (w := w) hr (ev_ok hT hp)
    exact next_v g1 (post_pure hm (v := .c r) g2)
  | convert s d x =>
    obtain ⟨p, hp, h⟩ := bindC_some (show bindC (ev gt x) (fun p => oConvB P fops gs next s d p) = some e from h)
    unfold oConvB at h
    split at h
    · obtain ⟨u, h1, h2⟩ := oBytes_ok (P := P) hm (ev_ok hT hp) h hob
      exact next_v h1 h2
    unfold oConv at h
    obtain ⟨su, hs, h⟩ := bindO_some h
    obtain ⟨du, hd, h⟩ := bindO_some h
    obtain ⟨r, ob, hr, rfl⟩ := retO_some h
    obtain ⟨v, w', g1, g2, g3, g4, g5⟩ := sConv_ok (w := w) hs hd hr hob (ev_ok hT hp)
    exact next_v g1 (post_pure' hm g3 g4 g5 (v := .c r) g2)
  | makeSlice t l c =>
    obtain ⟨p, hp, h⟩ := bindC_some (show bindC (ev gt l) (fun p => bindC (ev gt c) fun q => sMake P t next p q) = some e from h)
    obtain ⟨q, hq, h⟩ := bindC_some h
    exact sMake_ok hm hne (ev_ok hT hp) (ev_ok hT hq) h hfr hob
  | slice t x lo hi mx =>
    obtain ⟨p, hp, h⟩ := bindC_some (show bindC (ev gt x) (fun p => oSlice P gt gs next t p lo hi mx) = some e from h)
    exact oSlice_ok hm hT (ev_ok hT hp) h hne hfr hob
  | fieldAddr s x f =>
    obtain ⟨p, hp, h⟩ := bindC_some (show bindC (ev gt x) (fun p => oFieldAddr P next (P.underlying s) p f) = some e from h)
    exact oFieldAddr_ok hm (ev_ok hT hp) h
  | field s x f =>
    obtain ⟨p, hp, h⟩ := bindO_some (show bindO (ev gt x) (fun p => oField P next (P.underlying s) p f) = some e from h)
    exact oField_ok hm (ev_ok hT hp) h
  | indexAddr t x i =>
    obtain ⟨p, hp, h⟩ := bindC_some (show bindC (ev gt x) (fun p => bindC (ev gt i) fun n => oIndexAddr P gs next (P.underlying t) p n) = some e from h)
    obtain ⟨q, hq, h⟩ := bindC_some h
    exact oIndexAddr_ok hm (ev_ok hT hp) (ev_ok hT hq) h hob
  | index t x i =>
    obtain ⟨p, hp, h⟩ := bindO_some (show bindO (ev gt x) (fun p => bindC (ev gt i) fun n => oIndex P next (P.underlying t) p n) = some e from h)
    obtain ⟨q, hq, h⟩ := bindC_some h
    exact oIndex_ok hm (ev_ok hT hp) (ev_ok hT hq) h hob
  | extract x i =>
    obtain ⟨p, hp, h⟩ := bindO_some (show bindO (ev gt x) (fun p => oExtract next p i) = some e from h)
    exact oExtract_ok hm (ev_ok hT hp) h
  | call c =>
    obtain ⟨callee, args, ats⟩ := c
    have h' : oCall ⟨P, fops, orc⟩ gt gs next ⟨callee, args, ats⟩ = some e := h
    unfold oCall at h'
    simp only at h'
    split at h'
    · rename_i b
      split at h'
      · -- len
        unfold oLen at h'
        split at h' <;> try (cases h'; done)
        rename_i x t rest hargs hts
        obtain ⟨p, hp, h'⟩ := bindC_some h'
        obtain ⟨r, hr, h'⟩ := bindO_some h'
        cases h'
        have hts0 : ats[0]? = some t := by rw [← Array.getElem?_toList, hts]; rfl
        obtain ⟨u, g1, g2⟩ := sLen_ok (P := P) (w := w) hr (ev_ok hT hp) ats type hts0
        have hargs' : args = #[x] := by apply Array.toList_inj.1; simpa using hargs
        have hrun : (execOp a.eval ⟨dst, .call ⟨.builtin .len, args, ats⟩, type, pos, after, guard⟩).run P w = .ok (.value u) w := by
          subst hargs'
          simp [execOp, resolve, invoke, builtin, g1]
        rw [hrun]; exact post_pure hm (v := .c r) g2
      · -- append
        unfold oAppend at h'
        split at h' <;> try (cases h'; done)
        rename_i x y t t' rest hargs hts
        obtain ⟨el', hel', h'⟩ := bindO_some h'
        obtain ⟨p, hp, h'⟩ := bindC_some h'
        obtain ⟨q, hq, h'⟩ := bindC_some h'
        have hts0 : ats[0]? = some t ∧ ats[1]? = some t' := by rw [← Array.getElem?_toList, ← Array.getElem?_toList, hts]; exact ⟨rfl, rfl⟩
        have hargs' : args = #[x, y] := by apply Array.toList_inj.1; simpa using hargs
        unfold sAppend at h'
        split at h' <;> try (cases h'; done)
        · obtain ⟨el, hel, h'⟩ := bindO_some h'
          obtain ⟨es, hes, h'⟩ := bindO_some h'
          obtain ⟨by', hby, h'⟩ := bindO_some h'
          obtain ⟨z, hz, h'⟩ := bindO_some h'
          obtain ⟨u, w', g1, g2⟩ := sApp_ok (P := P) (ty := type) hm hne (ev_ok hT hp) (ev_ok hT hq) hel hes hby hz h' hfr hts0 hel'
          have hrun : (execOp a.eval ⟨dst, .call ⟨.builtin .append, args, ats⟩, type, pos, after, guard⟩).run P w = .ok (.value u) w' := by
            subst hargs'
            simp [execOp, resolve, invoke, builtin, g1]
          rw [hrun]; exact g2
        · obtain ⟨el, hel, h'⟩ := bindO_some h'
          obtain ⟨es, hes, h'⟩ := bindO_some h'
          obtain ⟨by', hby, h'⟩ := bindO_some h'
          obtain ⟨z, hz, h'⟩ := bindO_some h'
          obtain ⟨u, w', g1, g2⟩ := sAppR_ok (P := P) (ty := type) hm hne (ev_ok hT hp) (ev_ok hT hq) hel hes hby hz h' hfr hob hts0 hel'
          have hrun : (execOp a.eval ⟨dst, .call ⟨.builtin .append, args, ats⟩, type, pos, after, guard⟩).run P w = .ok (.value u) w' := by
            subst hargs'
            simp [execOp, resolve, invoke, builtin, g1]
          rw [hrun]; exact g2
        · obtain ⟨el, hel, h'⟩ := bindO_some h'
          obtain ⟨es, hes, h'⟩ := bindO_some h'
          obtain ⟨by', hby, h'⟩ := bindO_some h'
          obtain ⟨z, hz, h'⟩ := bindO_some h'
          obtain ⟨u, w', g1, g2⟩ := sAppRR_ok (P := P) (ty := type) hm hne (ev_ok hT hp) (ev_ok hT hq) hel hes hby hz h' hfr hob hts0 hel'
          have hrun : (execOp a.eval ⟨dst, .call ⟨.builtin .append, args, ats⟩, type, pos, after, guard⟩).run P w = .ok (.value u) w' := by
            subst hargs'
            simp [execOp, resolve, invoke, builtin, g1]
          rw [hrun]; exact g2
      · cases h'
    · split at h' <;> try (cases h'; done)
      rename_i f
      obtain ⟨S, hS, h'⟩ := bindO_some h'
      obtain ⟨vs, hvs, h'⟩ := bindO_some h'
      have hv : RelVs E vs (args.map a.eval).toList := by
        have := evs_ok hT hvs; simpa using this
      have hrun : (execOp a.eval ⟨dst, .call ⟨.value (.func f), args, ats⟩, type, pos, after, guard⟩).run P w = (callFunc f (args.map a.eval)).run P w := by
        simp [execOp, resolve, Deferred.ofValue, Act.eval, invoke]
      rw [hrun]
      exact oFn_ok hm (hC f S hS) hv h' hfr hob
    · cases h'
  | _ => cases h
end

end Go.Proofs.Ytaoeigofmfpamaa
end

/- Layers, merges of layers, and what one operation does to the whole state. Nothing is assumed. -/
section
namespace Go.Proofs.Ytaoeigofmfpamaa
open Go

/-! ### trees -/
section
variable {α : Type}
theorem Tr.get_nil (i : Nat) : (Tr.nil : Tr α).get i = none := rfl
theorem Tr.get_zero (v : Option α) (l r : Tr α) : (Tr.node v l r).get 0 = v := rfl
theorem Tr.get_succ (v : Option α) (l r : Tr α) (j : Nat) : (Tr.node v l r).get (j + 1) = (if j % 2 = 0 then l.get (j / 2) else r.get (j / 2)) := by
  change (Bool.rec (r.get (j / 2)) (l.get (j / 2)) (Nat.beq (j % 2) 0) : Option α) = _
  by_cases h : j % 2 = 0
  · rw [if_pos h, beqN.2 h]
  · rw [if_neg h]
    have : Nat.beq (j % 2) 0 = false := by
      cases hb : Nat.beq (j % 2) 0
      · rfl
      · exact absurd (beqN.1 hb) h
    rw [this]
theorem Tr.one_get (x : α) : ∀ (f i j : Nat), i < f → (Tr.one x f i).get j = if j = i then some x else none
  | 0, i, j, h => by omega
  | f + 1, 0, j, _ => by
    change (Tr.node (some x) .nil .nil : Tr α).get j = _
    cases j with
    | zero => rfl
    | succ j => rw [Tr.get_succ, if_neg (show ¬ (j + 1 = 0) by omega)]; split <;> rfl
  | f + 1, i + 1, j, h => by
    change (Bool.rec (.node none .nil (Tr.one x f (i / 2))) (.node none (Tr.one x f (i / 2)) .nil) (Nat.beq (i % 2) 0) : Tr α).get j = _
    by_cases hi : i % 2 = 0
    · rw [beqN.2 hi]
      cases j with
      | zero => rw [if_neg (by omega)]; rfl
      | succ j =>
        rw [Tr.get_succ]
        by_cases hj : j % 2 = 0
        · rw [if_pos hj, Tr.one_get x f _ _ (by omega)]
          by_cases e : j = i
          · subst e; simp
          · rw [if_neg (by omega), if_neg (by omega)]
        · rw [if_neg hj, if_neg (by omega)]; rfl
    · have hb : Nat.beq (i % 2) 0 = false := by
        cases hb : Nat.beq (i % 2) 0
        · rfl
        · exact absurd (beqN.1 hb) hi
      rw [hb]
      cases j with
      | zero => rw [if_neg (by omega)]; rfl
      | succ j =>
        rw [Tr.get_succ]
        by_cases hj : j % 2 = 0
        · rw [if_pos hj, if_neg (by omega)]; rfl
        · rw [if_neg hj, Tr.one_get x f _ _ (by omega)]
          by_cases e : j = i
          · subst e; simp
          · rw [if_neg (by omega), if_neg (by omega)]
theorem Tr.get_set (x : α) : ∀ (t : Tr α) (i j : Nat), (t.set x i).get j = if j = i then some x else t.get j
  | .nil, i, j => by
    change (Tr.one x (i + 1) i).get j = _
    rw [Tr.one_get x _ _ _ (Nat.lt_succ_self _)]; rfl
  | .node v l r, 0, j => by
    change (Tr.node (some x) l r).get j = _
    cases j with
    | zero => rfl
    | succ j => rw [if_neg (show ¬ (j + 1 = 0) by omega), Tr.get_succ, Tr.get_succ]
  | .node v l r, i + 1, j => by
    change (Bool.rec (.node v l (r.set x (i / 2))) (.node v (l.set x (i / 2)) r) (Nat.beq (i % 2) 0) : Tr α).get j = _
    by_cases hi : i % 2 = 0
    · rw [beqN.2 hi]
      cases j with
      | zero => rw [if_neg (by omega)]; rfl
      | succ j =>
        rw [Tr.get_succ, Tr.get_succ]
        by_cases hj : j % 2 = 0
        · rw [if_pos hj, if_pos hj, Tr.get_set x l]
          by_cases e : j = i
          · subst e; simp
          · rw [if_neg (by omega), if_neg (by omega)]
        · rw [if_neg hj, if_neg hj, if_neg (by omega)]
    · have hb : Nat.beq (i % 2) 0 = false := by
        cases hb : Nat.beq (i % 2) 0
        · rfl
        · exact absurd (beqN.1 hb) hi
      rw [hb]
      cases j with
      | zero => rw [if_neg (by omega)]; rfl
      | succ j =>
        rw [Tr.get_succ, Tr.get_succ]
        by_cases hj : j % 2 = 0
        · rw [if_pos hj, if_pos hj, if_neg (by omega)]
        · rw [if_neg hj, if_neg hj, Tr.get_set x r]
          by_cases e : j = i
          · subst e; simp
          · rw [if_neg (by omega), if_neg (by omega)]
theorem Tr.oneK_eq {β : Type} (x : α) : ∀ (f i : Nat) (k : Tr α → β), Tr.oneK x f i k = k (Tr.one x f i)
  | 0, _, _ => rfl
  | f + 1, 0, _ => rfl
  | f + 1, i + 1, k => by
    change (Bool.rec (Tr.oneK x f (i / 2) (fun r => k (.node none .nil r))) (Tr.oneK x f (i / 2) (fun l => k (.node none l .nil))) (Nat.beq (i % 2) 0) : β) = k (Bool.rec (.node none .nil (Tr.one x f (i / 2))) (.node none (Tr.one x f (i / 2)) .nil) (Nat.beq (i % 2) 0) : Tr α)
    cases Nat.beq (i % 2) 0
    · exact Tr.oneK_eq x f _ _
    · exact Tr.oneK_eq x f _ _
theorem Tr.setK_eq {β : Type} (x : α) : ∀ (t : Tr α) (i : Nat) (k : Tr α → β), t.setK x i k = k (t.set x i)
  | .nil, i, k => Tr.oneK_eq x (i + 1) i k
  | .node _ _ _, 0, _ => rfl
  | .node v l r, i + 1, k => by
    change (Bool.rec (r.setK x (i / 2) (fun r' => k (.node v l r'))) (l.setK x (i / 2) (fun l' => k (.node v l' r))) (Nat.beq (i % 2) 0) : β) = k (Bool.rec (.node v l (r.set x (i / 2))) (.node v (l.set x (i / 2)) r) (Nat.beq (i % 2) 0) : Tr α)
    cases Nat.beq (i % 2) 0
    · exact Tr.setK_eq x r _ _
    · exact Tr.setK_eq x l _ _
theorem Tr.keys_acc : ∀ (t : Tr α) (a b : Nat) (acc : List Nat) (k : Nat), k ∈ acc → k ∈ t.keys a b acc
  | .nil, _, _, _, _, h => h
  | .node none l r, a, b, acc, k, h => Tr.keys_acc l _ _ _ k (Tr.keys_acc r _ _ _ k h)
  | .node (some _) l r, a, b, acc, k, h => List.mem_cons_of_mem _ (Tr.keys_acc l _ _ _ k (Tr.keys_acc r _ _ _ k h))
theorem Tr.mem_keys : ∀ (t : Tr α) (a b : Nat) (acc : List Nat) (j : Nat) (x : α), t.get j = some x → a * j + b ∈ t.keys a b acc
  | .nil, _, _, _, _, _, h => by cases h
  | .node v l r, a, b, acc, 0, x, h => by
    rw [Tr.get_zero] at h
    subst h
    rw [Nat.mul_zero, Nat.zero_add]
    exact List.mem_cons_self
  | .node v l r, a, b, acc, j + 1, x, h => by
    rw [Tr.get_succ] at h
    have key : a * (j + 1) + b ∈ l.keys (2 * a) (a + b) (r.keys (2 * a) (2 * a + b) acc) := by
      split at h
      · have := Tr.mem_keys l (2 * a) (a + b) (r.keys (2 * a) (2 * a + b) acc) (j / 2) x h
        have e : 2 * a * (j / 2) + (a + b) = a * (j + 1) + b := by
          have h2 : j = 2 * (j / 2) := by omega
          have e1 : 2 * a * (j / 2) = a * (2 * (j / 2)) := by rw [Nat.mul_comm 2 a, Nat.mul_assoc]
          rw [e1, ← h2, Nat.mul_add]; omega
        rw [e] at this; exact this
      · have := Tr.mem_keys r (2 * a) (2 * a + b) acc (j / 2) x h
        have e : 2 * a * (j / 2) + (2 * a + b) = a * (j + 1) + b := by
          have h2 : j = 2 * (j / 2) + 1 := by omega
          have e1 : 2 * a * (j / 2) = a * (2 * (j / 2)) := by rw [Nat.mul_comm 2 a, Nat.mul_assoc]
          have e2 : a * (j + 1) = a * (2 * (j / 2)) + 2 * a := by
            conv => lhs; rw [h2]
            rw [Nat.mul_add, Nat.mul_add]; omega
          rw [e1, e2]; omega
        rw [e] at this
        exact Tr.keys_acc l _ _ _ _ this
    cases v with
    | none => exact key
    | some _ => exact List.mem_cons_of_mem _ key
end

/-! ### layers -/
theorem getT_cons (y : Ly) (R : List Ly) (k : Nat) : getT (y :: R) k = (y.t.get k).getD (getT R k) := by
  change (Option.rec (motive := fun _ => SV) (getT R k) (fun v => v) (y.t.get k)) = _
  cases y.t.get k <;> rfl
/-- What is seen through a layer. -/
noncomputable def resV (v : Option SD) (g : Option Seg) : Option Seg :=
  match v with
  | none => g
  | some v => resD v g
theorem getS_cons (y : Ly) (R : List Ly) (k : Nat) : getS (y :: R) k = resV (y.s.get k) (getS R k) := by
  change (Option.rec (motive := fun _ => Option Seg) (getS R k) (fun v => resD v (getS R k)) (y.s.get k)) = _
  cases y.s.get k <;> rfl
theorem getT_setT (T : Top) (k : Nat) (v : SV) (R : List Ly) : getT ((T.setT k v).ly :: R) = upd (getT (T.ly :: R)) k v := by
  funext j
  rw [getT_cons]
  show ((T.ly.t.set v k).get j).getD _ = _
  rw [Tr.get_set]
  by_cases e : j = k
  · subst e; rw [if_pos rfl, upd_same]; rfl
  · rw [if_neg e, upd_other _ _ e, getT_cons]
theorem getS_setT (T : Top) (k : Nat) (v : SV) (R : List Ly) : getS ((T.setT k v).ly :: R) = getS (T.ly :: R) := rfl
theorem getS_setD (T : Top) (k : Nat) (v : SD) (R : List Ly) : getS ((T.setD k v).ly :: R) = upd (getS (T.ly :: R)) k (resD v (getS R k)) := by
  funext j
  rw [getS_cons]
  show resV ((T.ly.s.set v k).get j) _ = _
  rw [Tr.get_set]
  by_cases e : j = k
  · subst e; rw [if_pos rfl, upd_same]; rfl
  · rw [if_neg e, upd_other _ _ e, getS_cons]
theorem getT_setD (T : Top) (k : Nat) (v : SD) (R : List Ly) : getT ((T.setD k v).ly :: R) = getT (T.ly :: R) := rfl
theorem getS_setS (T : Top) (k : Nat) (v : Option Seg) (R : List Ly) : getS ((T.setS k v).ly :: R) = upd (getS (T.ly :: R)) k v := by
  unfold Top.setS
  rw [getS_setD]
  cases v <;> rfl
theorem getT_setS (T : Top) (k : Nat) (v : Option Seg) (R : List Ly) : getT ((T.setS k v).ly :: R) = getT (T.ly :: R) := rfl
theorem setSs_cons (T : Top) (p : Nat × Option Seg) (l : List (Nat × Option Seg)) : T.setSs (p :: l) = (T.setS p.1 p.2).setSs l := rfl
theorem getT_setSs (R : List Ly) : ∀ (l : List (Nat × Option Seg)) (T : Top), getT ((T.setSs l).ly :: R) = getT (T.ly :: R)
  | [], _ => rfl
  | p :: l, T => by rw [setSs_cons, getT_setSs R l, getT_setS]
theorem getS_setSs (R : List Ly) : ∀ (l : List (Nat × Option Seg)) (T : Top), getS ((T.setSs l).ly :: R) = updSs (getS (T.ly :: R)) l
  | [], _ => rfl
  | (i, v) :: l, T => by rw [setSs_cons, getS_setSs R l, getS_setS]; rfl
def appT (dst : Option Tmp) (e : Eff) (tm : Nat → SV) : Nat → SV :=
  match dst with
  | some d => upd tm d e.val
  | none => tm
theorem getT_applyE (T : Top) (dst : Option Tmp) (e : Eff) (R : List Ly) : getT ((applyE T dst e).ly :: R) = appT dst e (getT (T.ly :: R)) := by
  cases dst with
  | none => exact getT_setSs R e.ws T
  | some d => exact (getT_setSs R e.ws (T.setT d e.val)).trans (getT_setT T d e.val R)
theorem getS_applyE (T : Top) (dst : Option Tmp) (e : Eff) (R : List Ly) : getS ((applyE T dst e).ly :: R) = updSs (getS (T.ly :: R)) e.ws := by
  cases dst with
  | none => exact getS_setSs R e.ws T
  | some d => exact (getS_setSs R e.ws (T.setT d e.val)).trans (by rw [getS_setT])
theorem setSsK_eq {β : Type} : ∀ (l : List (Nat × Option Seg)) (T : Top) (f : Top → β), T.setSsK l f = f (T.setSs l)
  | [], _, _ => rfl
  | p :: l, T, f => by
    change T.setSK p.1 p.2 (fun T' => T'.setSsK l f) = f ((T.setS p.1 p.2).setSs l)
    unfold Top.setSK Top.setDK
    rw [Tr.setK_eq]
    exact setSsK_eq l _ f
theorem applyK_eq {β : Type} (T : Top) (dst : Option Tmp) (e : Eff) (f : Top → β) : applyK T dst e f = f (applyE T dst e) := by
  cases dst with
  | none => exact setSsK_eq e.ws T _
  | some d =>
    change T.setTK d e.val (fun T1 => T1.setSsK e.ws fun T2 => f ⟨T2.ly, e.next⟩) = _
    unfold Top.setTK
    rw [Tr.setK_eq]
    exact setSsK_eq e.ws _ _

/-! ### cells that are new -/
theorem setC_len : ∀ (l : List SC) (j : Nat) (x : SC), (setC l j x).length = l.length
  | [], _, _ => rfl
  | _ :: _, 0, _ => rfl
  | y :: l, j + 1, x => congrArg (· + 1) (setC_len l j x)
theorem setC_get : ∀ (l : List SC) (j : Nat) (x : SC) (k : Nat), (setC l j x).getD k .any = if k = j ∧ j < l.length then x else l.getD k .any
  | [], j, x, k => by simp [setC]
  | y :: l, 0, x, k => by
    cases k with
    | zero =>
      show x = _
      simp
    | succ k =>
      show l.getD k .any = _
      simp
  | y :: l, j + 1, x, k => by
    cases k with
    | zero =>
      show y = _
      simp
    | succ k =>
      have := setC_get l j x k
      show (setC l j x).getD k .any = _
      rw [this]
      simp
theorem patch_cons (p : Nat × SC) (d : List (Nat × SC)) (l : List SC) : patch (p :: d) l = setC (patch d l) p.1 p.2 := rfl
theorem patch_len : ∀ (d : List (Nat × SC)) (l : List SC), (patch d l).length = l.length
  | [], _ => rfl
  | p :: d, l => by rw [patch_cons, setC_len, patch_len d l]
theorem patch_out : ∀ (d : List (Nat × SC)) (l : List SC) (k : Nat), k ∉ fsts d → (patch d l).getD k .any = l.getD k .any
  | [], _, _, _ => rfl
  | p :: d, l, k, h => by
    have h' : k ∉ p.1 :: fsts d := h
    rw [List.mem_cons, not_or] at h'
    rw [patch_cons, setC_get, if_neg (fun e => h'.1 e.1), patch_out d l k h'.2]
theorem patch_in : ∀ (d : List (Nat × SC)) (l : List SC) (k : Nat) (x : SC), k ∈ fsts d → k < l.length → (∀ y, (k, y) ∈ d → y = x) → (patch d l).getD k .any = x
  | [], _, _, _, h, _, _ => by cases h
  | p :: d, l, k, x, h, hl, hx => by
    rw [patch_cons, setC_get, patch_len]
    by_cases e : k = p.1
    · rw [if_pos ⟨e, by omega⟩]
      exact hx p.2 (by rw [e]; exact List.mem_cons_self)
    · rw [if_neg (fun h => e h.1)]
      have h' : k ∈ p.1 :: fsts d := h
      exact patch_in d l k x ((List.mem_cons.1 h').resolve_left e) hl fun y hy => hx y (List.mem_cons_of_mem _ hy)
theorem patch_append : ∀ (d d' : List (Nat × SC)) (l : List SC), patch (d ++ d') l = patch d (patch d' l)
  | [], _, _ => rfl
  | p :: d, d', l => by
    show setC (patch (d ++ d') l) p.1 p.2 = setC (patch d (patch d' l)) p.1 p.2
    rw [patch_append d d' l]
theorem patchS_append (d d' : List (Nat × SC)) (g : Option Seg) : patchS (d ++ d') g = patchS d (patchS d' g) := by
  cases g with
  | none => rfl
  | some g =>
    cases hb : g.body with
    | cells l => simp only [patchS, patchB, hb, patch_append]
    | rows st n row => simp only [patchS, patchB, hb]
theorem cellsD_append : ∀ (l : List SC) (o : Nat) (acc : List (Nat × SC)), cellsD o l acc = cellsD o l [] ++ acc
  | [], _, _ => rfl
  | x :: l, o, acc => by
    show (o, x) :: cellsD (o + 1) l acc = (o, x) :: (cellsD (o + 1) l [] ++ acc)
    rw [cellsD_append l (o + 1) acc]
theorem patchS_nil (g : Option Seg) : patchS [] g = g := by
  cases g with
  | none => rfl
  | some g => obtain ⟨w, o, b⟩ := g; cases b <;> rfl
theorem putD_res (o : Nat) (l : List SC) (v : Option SD) (g : Option Seg) : resD (putD o l v) g = patchS (cellsD o l []) (resV v g) := by
  cases v with
  | none => rfl
  | some v => cases v with
    | gone => rfl
    | full g' => rfl
    | diff d =>
      show patchS (cellsD o l d) g = patchS (cellsD o l []) (patchS d g)
      rw [cellsD_append l o d, patchS_append]
theorem cellsD_mem : ∀ (l : List SC) (o k : Nat) (y : SC), (k, y) ∈ cellsD o l [] → o ≤ k ∧ k < o + l.length ∧ y = l.getD (k - o) .any
  | [], _, _, _, h => by cases h
  | x :: l, o, k, y, h => by
    rcases List.mem_cons.1 h with h | h
    · cases h; exact ⟨Nat.le_refl _, by simp, by simp⟩
    · obtain ⟨h1, h2, h3⟩ := cellsD_mem l (o + 1) k y h
      refine ⟨by omega, by simp; omega, ?_⟩
      rw [h3, show k - o = (k - (o + 1)) + 1 by omega]; rfl
theorem mem_fsts' {k : Nat} : ∀ {d : List (Nat × SC)}, k ∈ fsts d ↔ ∃ y, (k, y) ∈ d
  | [] => by simp [fsts]
  | p :: d => by
    have : k ∈ fsts (p :: d) ↔ k = p.1 ∨ k ∈ fsts d := List.mem_cons
    rw [this, mem_fsts' (d := d)]
    constructor
    · rintro (h | ⟨y, h⟩)
      · exact ⟨p.2, by rw [h]; exact List.mem_cons_self⟩
      · exact ⟨y, List.mem_cons_of_mem _ h⟩
    · rintro ⟨y, h⟩
      rcases List.mem_cons.1 h with h | h
      · exact .inl (by rw [← h])
      · exact .inr ⟨y, h⟩
theorem cellsD_has : ∀ (l : List SC) (o k : Nat), o ≤ k → k < o + l.length → k ∈ fsts (cellsD o l [])
  | [], o, k, h1, h2 => by simp at h2; omega
  | x :: l, o, k, h1, h2 => by
    show k ∈ o :: fsts (cellsD (o + 1) l [])
    by_cases e : k = o
    · rw [e]; exact List.mem_cons_self
    · exact List.mem_cons_of_mem _ (cellsD_has l (o + 1) k (by omega) (by simp at h2; omega))
theorem splice_patch {c l r : List SC} {o : Nat} (h : splice c o l = some r) : patch (cellsD o l []) c = r := by
  have hlen := splice_len h
  refine List.ext_getElem (by rw [patch_len, hlen]) fun k h1 h2 => ?_
  rw [← getD_lt h1, ← getD_lt h2, splice_get h k]
  have hk : k < c.length := by rw [patch_len] at h1; exact h1
  by_cases hin : o ≤ k ∧ k < o + l.length
  · rw [if_pos hin]
    exact patch_in _ _ _ _ (cellsD_has l o k hin.1 hin.2) hk fun y hy => (cellsD_mem l o k y hy).2.2
  · rw [if_neg hin]
    refine patch_out _ _ _ fun hm => hin ?_
    obtain ⟨y, hy⟩ := mem_fsts'.1 hm
    have := cellsD_mem l o k y hy
    exact ⟨this.1, this.2.1⟩
/-- A store at a known place is told of by its hint. -/
theorem hint_ok {cx : Cx} {gt : Nat → SV} {gs : Nat → Option Seg} {next : Nat} {op : Op} {e : Eff} (h : sop cx gt gs next op = some e) {i o : Nat} {l : List SC} (hh : hintOf gt op = some (i, o, l)) : e.ws = [(i, patchS (cellsD o l []) (gs i))] := by
  unfold hintOf at hh
  split at hh <;> try (cases hh; done)
  rename_i t a x
  split at hh <;> try (cases hh; done)
  rename_i i' o' hp
  split at hh <;> cases hh
  rename_i hl
  replace h : bindC (ev gt a) (fun p => oStoreH cx.P gs next t (hkey cx a) p (evL gt x)) = some e := h
  have hev : ev gt a = some (.c (.ptr i o)) := by
    unfold evC at hp
    split at hp <;> cases hp
    assumption
  rw [hev] at h
  replace h : oStoreH cx.P gs next t (hkey cx a) (.ptr i o) (evL gt x) = some e := h
  unfold oStoreH at h
  split at h <;> try (cases h; done)
  rw [hl] at h
  unfold oStore at h
  obtain ⟨j, hj, h⟩ := bindO_some h
  cases hj
  obtain ⟨g, hg, h⟩ := bindO_some h
  obtain ⟨n, _, h⟩ := bindO_some h
  obtain ⟨l', hl', h⟩ := bindO_some h
  cases hl'
  split at h <;> try (cases h; done)
  rename_i hrw
  unfold oStore2 at h
  split at h <;> try (cases h; done)
  obtain ⟨r, hr, h⟩ := bindO_some h
  cases h
  rw [hg]
  obtain ⟨w, ow, b⟩ := g
  simp only at hrw hr
  subst hrw
  cases b with
  | cells c =>
    simp only [sStore] at hr
    cases hq : splice c o l with
    | none => rw [hq] at hr; cases hr
    | some q =>
    rw [hq] at hr
    cases hr
    show [(i, some (⟨true, ow, .cells q⟩ : Seg))] = [(i, some ⟨true, ow, .cells (patch (cellsD o l []) c)⟩)]
    rw [splice_patch hq]
  | rows st n row => simp [sStore] at hr
theorem getT_applyH (T : Top) (dst : Option Tmp) (e : Eff) (h : Option (Nat × Nat × List SC)) (R : List Ly) : getT ((applyH T dst e h).ly :: R) = appT dst e (getT (T.ly :: R)) := by
  cases h with
  | none => exact getT_applyE T dst e R
  | some p =>
    obtain ⟨i, o, l⟩ := p
    cases dst with
    | none => rfl
    | some d => exact getT_setT T d e.val R
theorem getS_applyH {cx : Cx} (T : Top) (dst : Option Tmp) (e : Eff) (R : List Ly) {op : Op} {next : Nat} (h : sop cx (getT (T.ly :: R)) (getS (T.ly :: R)) next op = some e) : getS ((applyH T dst e (hintOf (getT (T.ly :: R)) op)).ly :: R) = updSs (getS (T.ly :: R)) e.ws := by
  cases hh : hintOf (getT (T.ly :: R)) op with
  | none => exact getS_applyE T dst e R
  | some p =>
    obtain ⟨i, o, l⟩ := p
    rw [hint_ok h hh]
    show _ = upd (getS (T.ly :: R)) i _
    have key : ∀ T1 : Top, T1.ly.s = T.ly.s → getS ((T1.setD i (putD o l (T.ly.s.get i))).ly :: R) = upd (getS (T.ly :: R)) i (patchS (cellsD o l []) (getS (T.ly :: R) i)) := by
      intro T1 h1
      rw [getS_setD, putD_res, ← getS_cons]
      congr 1
      funext k
      rw [getS_cons, getS_cons, h1]
    cases dst with
    | none => exact key T rfl
    | some d => exact key (T.setT d e.val) rfl
theorem applyHK_eq {β : Type} (T : Top) (dst : Option Tmp) (e : Eff) (h : Option (Nat × Nat × List SC)) (f : Top → β) : applyHK T dst e h f = f (applyH T dst e h) := by
  cases h with
  | none => exact applyK_eq T dst e f
  | some p =>
    obtain ⟨i, o, l⟩ := p
    cases dst with
    | none =>
      show Tr.setK (putD o l (T.ly.s.get i)) T.ly.s i (fun s => f ⟨⟨T.ly.t, s⟩, e.next⟩) = _
      rw [Tr.setK_eq]; rfl
    | some d =>
      show Tr.setK e.val T.ly.t d (fun t => Tr.setK (putD o l (T.ly.s.get i)) T.ly.s i (fun s => f ⟨⟨t, s⟩, e.next⟩)) = _
      rw [Tr.setK_eq, Tr.setK_eq]; rfl
theorem applyH_next (T : Top) (dst : Option Tmp) (e : Eff) (h : Option (Nat × Nat × List SC)) : (applyH T dst e h).next = e.next := by
  cases h with
  | none => rfl
  | some p => rfl

/-! ### merges of layers -/
theorem mergeTs_get (b : Bool) (l1 l2 : List Ly) (R : List Ly) : ∀ (ks : List Nat) (T : Top) (k : Nat), getT ((mergeTs b l1 l2 ks T).ly :: R) k = if k ∈ ks then mergeV b (getT l1 k) (getT l2 k) else getT (T.ly :: R) k
  | [], T, k => by simp [mergeTs]
  | j :: ks, T, k => by
    change getT ((mergeTs b l1 l2 ks (T.setT j (mergeV b (getT l1 j) (getT l2 j)))).ly :: R) k = _
    rw [mergeTs_get b l1 l2 R ks, getT_setT]
    by_cases h : k ∈ ks
    · rw [if_pos h, if_pos (List.mem_cons_of_mem _ h)]
    · rw [if_neg h]
      by_cases e : k = j
      · subst e; rw [upd_same, if_pos List.mem_cons_self]
      · rw [upd_other _ _ e, if_neg (by simp [e, h])]
theorem mergeTs_S (b : Bool) (l1 l2 : List Ly) (R : List Ly) : ∀ (ks : List Nat) (T : Top), getS ((mergeTs b l1 l2 ks T).ly :: R) = getS (T.ly :: R) ∧ (mergeTs b l1 l2 ks T).next = T.next
  | [], T => ⟨rfl, rfl⟩
  | j :: ks, T => mergeTs_S b l1 l2 R ks (T.setT j (mergeV b (getT l1 j) (getT l2 j)))
theorem mergeSs_get (b : Bool) (y1 y2 : Ly) (R : List Ly) : ∀ (ks : List Nat) (T : Top) (k : Nat), getS ((mergeSs b y1 y2 R ks T).ly :: R) k = if k ∈ ks then resD (mergeD b (y1.s.get k) (y2.s.get k) (getS (y1 :: R) k) (getS (y2 :: R) k)) (getS R k) else getS (T.ly :: R) k
  | [], T, k => by simp [mergeSs]
  | j :: ks, T, k => by
    change getS ((mergeSs b y1 y2 R ks (T.setD j (mergeD b (y1.s.get j) (y2.s.get j) (getS (y1 :: R) j) (getS (y2 :: R) j)))).ly :: R) k = _
    rw [mergeSs_get b y1 y2 R ks, getS_setD]
    by_cases h : k ∈ ks
    · rw [if_pos h, if_pos (List.mem_cons_of_mem _ h)]
    · rw [if_neg h]
      by_cases e : k = j
      · subst e; rw [upd_same, if_pos List.mem_cons_self]
      · rw [upd_other _ _ e, if_neg (by simp [e, h])]
theorem mergeSs_T (b : Bool) (y1 y2 : Ly) (R : List Ly) : ∀ (ks : List Nat) (T : Top), getT ((mergeSs b y1 y2 R ks T).ly :: R) = getT (T.ly :: R) ∧ (mergeSs b y1 y2 R ks T).next = T.next
  | [], T => ⟨rfl, rfl⟩
  | j :: ks, T => mergeSs_T b y1 y2 R ks (T.setD j (mergeD b (y1.s.get j) (y2.s.get j) (getS (y1 :: R) j) (getS (y2 :: R) j)))
theorem getT_empty (n : Nat) (R : List Ly) : getT ((Top.empty n).ly :: R) = getT R := by funext k; rw [getT_cons]; rfl
theorem getS_empty (n : Nat) (R : List Ly) : getS ((Top.empty n).ly :: R) = getS R := by funext k; rw [getS_cons]; rfl
theorem key1 {α : Type} (t : Tr α) (acc : List Nat) {k : Nat} (h : k ∉ t.keys 1 0 acc) : t.get k = none := by
  cases hg : t.get k with
  | none => rfl
  | some x => exact absurd (by have := Tr.mem_keys t 1 0 acc k x hg; simpa using this) h
theorem mergeTop_T (b : Bool) (R : List Ly) (o1 o2 : Top) (k : Nat) : getT ((mergeTop b R o1 o2).ly :: R) k = mergeV b (getT (o1.ly :: R) k) (getT (o2.ly :: R) k) ∨ (getT ((mergeTop b R o1 o2).ly :: R) k = getT (o1.ly :: R) k ∧ getT ((mergeTop b R o1 o2).ly :: R) k = getT (o2.ly :: R) k) := by
  unfold mergeTop
  rw [(mergeSs_T b _ _ R _ _).1, mergeTs_get]
  by_cases h : k ∈ o1.ly.t.keys 1 0 (o2.ly.t.keys 1 0 [])
  · rw [if_pos h]; exact .inl rfl
  · rw [if_neg h, getT_empty]
    have h1 := key1 _ _ h
    have h2 := key1 o2.ly.t [] (fun hk => h (Tr.keys_acc _ _ _ _ _ hk))
    exact .inr ⟨by rw [getT_cons, h1]; rfl, by rw [getT_cons, h2]; rfl⟩
theorem mergeTop_S (b : Bool) (R : List Ly) (o1 o2 : Top) (k : Nat) : getS ((mergeTop b R o1 o2).ly :: R) k = resD (mergeD b (o1.ly.s.get k) (o2.ly.s.get k) (getS (o1.ly :: R) k) (getS (o2.ly :: R) k)) (getS R k) ∨ (getS ((mergeTop b R o1 o2).ly :: R) k = getS (o1.ly :: R) k ∧ getS ((mergeTop b R o1 o2).ly :: R) k = getS (o2.ly :: R) k) := by
  unfold mergeTop
  rw [mergeSs_get]
  by_cases h : k ∈ o1.ly.s.keys 1 0 (o2.ly.s.keys 1 0 [])
  · rw [if_pos h]; exact .inl rfl
  · rw [if_neg h, (mergeTs_S b _ _ R _ _).1, getS_empty]
    have h1 := key1 _ _ h
    have h2 := key1 o2.ly.s [] (fun hk => h (Tr.keys_acc _ _ _ _ _ hk))
    exact .inr ⟨by rw [getS_cons, h1]; rfl, by rw [getS_cons, h2]; rfl⟩
theorem mergeTop_next (b : Bool) (R : List Ly) (o1 o2 : Top) : (mergeTop b R o1 o2).next = max o1.next o2.next := by
  unfold mergeTop
  rw [(mergeSs_T b _ _ R _ _).2, (mergeTs_S b _ _ R _ _).2]; rfl
theorem commitT_get (o : Ly) (R : List Ly) : ∀ (ks : List Nat) (T : Top) (k : Nat), getT ((commitT [o] ks T).ly :: R) k = if k ∈ ks then getT [o] k else getT (T.ly :: R) k
  | [], T, k => by simp [commitT]
  | j :: ks, T, k => by
    change getT ((commitT [o] ks (T.setT j (getT [o] j))).ly :: R) k = _
    rw [commitT_get o R ks, getT_setT]
    by_cases h : k ∈ ks
    · rw [if_pos h, if_pos (List.mem_cons_of_mem _ h)]
    · rw [if_neg h]
      by_cases e : k = j
      · subst e; rw [upd_same, if_pos List.mem_cons_self]
      · rw [upd_other _ _ e, if_neg (by simp [e, h])]
theorem commitT_S (o : Ly) (R : List Ly) : ∀ (ks : List Nat) (T : Top), getS ((commitT [o] ks T).ly :: R) = getS (T.ly :: R) ∧ (commitT [o] ks T).next = T.next
  | [], T => ⟨rfl, rfl⟩
  | j :: ks, T => commitT_S o R ks (T.setT j (getT [o] j))
theorem commitS_get (y o : Ly) (R : List Ly) : ∀ (ks : List Nat) (T : Top) (k : Nat), getS ((commitS y o ks T).ly :: R) k = if k ∈ ks then resD (commitD (y.s.get k) (o.s.get k)) (getS R k) else getS (T.ly :: R) k
  | [], T, k => by simp [commitS]
  | j :: ks, T, k => by
    change getS ((commitS y o ks (T.setD j (commitD (y.s.get j) (o.s.get j)))).ly :: R) k = _
    rw [commitS_get y o R ks, getS_setD]
    by_cases h : k ∈ ks
    · rw [if_pos h, if_pos (List.mem_cons_of_mem _ h)]
    · rw [if_neg h]
      by_cases e : k = j
      · subst e; rw [upd_same, if_pos List.mem_cons_self]
      · rw [upd_other _ _ e, if_neg (by simp [e, h])]
theorem commitS_T (y o : Ly) (R : List Ly) : ∀ (ks : List Nat) (T : Top), getT ((commitS y o ks T).ly :: R) = getT (T.ly :: R) ∧ (commitS y o ks T).next = T.next
  | [], T => ⟨rfl, rfl⟩
  | j :: ks, T => commitS_T y o R ks (T.setD j (commitD (y.s.get j) (o.s.get j)))
theorem commitD_res (t o : Option SD) (g : Option Seg) : resD (commitD t o) g = resV o (resV t g) := by
  cases o with
  | none => cases t with
    | none => exact patchS_nil g
    | some v => rfl
  | some o => cases o with
    | gone => rfl
    | full g' => rfl
    | diff d => cases t with
      | none => rfl
      | some v => cases v with
        | gone => rfl
        | full g' => rfl
        | diff d0 => exact patchS_append d d0 g
-- a key that is there, and one that is not
theorem mem_key1 {α : Type} (t : Tr α) {k : Nat} {x : α} (h : t.get k = some x) : k ∈ t.keys 1 0 [] := by
  have := Tr.mem_keys t 1 0 [] k x h; simpa using this
theorem keys_get {α : Type} : ∀ (t : Tr α) (a b : Nat) (acc : List Nat) (k : Nat), k ∈ t.keys a b acc → k ∈ acc ∨ ∃ j x, k = a * j + b ∧ t.get j = some x
  | .nil, _, _, _, _, h => .inl h
  | .node v l r, a, b, acc, k, h => by
    have sub : k ∈ l.keys (2 * a) (a + b) (r.keys (2 * a) (2 * a + b) acc) → k ∈ acc ∨ ∃ j x, k = a * j + b ∧ (Tr.node v l r).get j = some x := by
      intro h
      rcases keys_get l _ _ _ k h with h | ⟨j, x, e, hx⟩
      · rcases keys_get r _ _ _ k h with h | ⟨j, x, e, hx⟩
        · exact .inl h
        · refine .inr ⟨2 * j + 1 + 1, x, ?_, ?_⟩
          · rw [e, Nat.mul_add, Nat.mul_add, Nat.mul_comm 2 a, Nat.mul_assoc]; omega
          · rw [Tr.get_succ, if_neg (by omega), show (2 * j + 1) / 2 = j by omega]; exact hx
      · refine .inr ⟨2 * j + 1, x, ?_, ?_⟩
        · rw [e, Nat.mul_add, Nat.mul_comm 2 a, Nat.mul_assoc]; omega
        · rw [Tr.get_succ, if_pos (by omega), show 2 * j / 2 = j by omega]; exact hx
    cases v with
    | none => exact sub h
    | some y =>
      rcases List.mem_cons.1 h with h | h
      · exact .inr ⟨0, y, by rw [h]; simp, rfl⟩
      · exact sub h
theorem commit_T (T o : Top) (R : List Ly) : getT ((commit T o).ly :: R) = getT (o.ly :: T.ly :: R) := by
  funext k
  unfold commit
  rw [(commitS_T T.ly o.ly R _ _).1, commitT_get]
  by_cases h : k ∈ o.ly.t.keys 1 0 []
  · rw [if_pos h]
    rcases keys_get _ _ _ _ _ h with h' | ⟨j, x, e, hx⟩
    · simp at h'
    · have : k = j := by omega
      subst this
      rw [getT_cons, getT_cons, hx]; rfl
  · rw [if_neg h, getT_cons o.ly, key1 _ _ h]; rfl
theorem commit_S (T o : Top) (R : List Ly) : getS ((commit T o).ly :: R) = getS (o.ly :: T.ly :: R) := by
  funext k
  unfold commit
  rw [commitS_get, (commitT_S o.ly R _ _).1]
  by_cases h : k ∈ o.ly.s.keys 1 0 []
  · rw [if_pos h, commitD_res, getS_cons, getS_cons]
  · rw [if_neg h, getS_cons o.ly, key1 _ _ h]; rfl
theorem commit_next (T o : Top) : (commit T o).next = o.next := by
  unfold commit
  rw [(commitS_T T.ly o.ly [] _ _).2, (commitT_S o.ly [] _ _).2]

/-! ### weaker segments -/
structure SegLe (g g' : Seg) : Prop where
  rw : g'.rw = true → g.rw = true
  own : g'.own = true → g.own = true
  len : g'.body.len = g.body.len
  at_ : ∀ (E : EM) k v, k < g.body.len → RelC E (g.body.at k) v → RelC E (g'.body.at k) v
theorem SegLe.refl (g : Seg) : SegLe g g := ⟨id, id, rfl, fun _ _ _ _ h => h⟩
theorem mergeR_l {E : EM} {l m : List SC} {c : Nat} {v : Value} (hv : RelC E (l.getD c .any) v) : RelC E ((mergeR true l m).getD c .any) v := by
  unfold mergeR
  split
  · rename_i r hr
    have hl := mergeL_len hr
    by_cases hc : c < r.length
    · rw [mergeL_get hr c hc]
      exact RelC.mergeL' (fun _ => hv) (fun e => by cases e)
    · have : r.getD c .any = .any := by simp [List.getD, List.getElem?_eq_none (by omega : r.length ≤ c)]
      rw [this]; exact hv.any_of
  · exact hv.any_of
theorem mergeR_r {E : EM} {l m : List SC} {c : Nat} {v : Value} (hv : RelC E (m.getD c .any) v) : RelC E ((mergeR false l m).getD c .any) v := by
  unfold mergeR
  split
  · rename_i r hr
    have hl := mergeL_len hr
    by_cases hc : c < r.length
    · rw [mergeL_get hr c hc]
      exact RelC.mergeL' (fun e => by cases e) (fun _ => hv)
    · have : r.getD c .any = .any := by simp [List.getD, List.getElem?_eq_none (by omega : r.length ≤ c)]
      rw [this]; exact hv.any_of
  · exact hv.any_of
theorem mergeSeg_l {s1 s2 : Option Seg} {g : Seg} {b : Bool} (h : mergeSeg b s1 s2 = some g) (hb : b = true) : ∃ g1, s1 = some g1 ∧ SegLe g1 g := by
  unfold mergeSeg at h
  split at h <;> try (cases h; done)
  · split at h <;> cases h
    rename_i w o l w' o' m r hr
    have hl := mergeL_len hr
    refine ⟨_, rfl, fun h => (by simp at h; exact h.1), fun h => (by simp at h; exact h.1), hl.1.symm, fun E k v hk hv => ?_⟩
    simp only [SBody.at, SBody.len] at *
    rw [mergeL_get hr k (by omega)]
    exact RelC.mergeL' (fun _ => hv) (fun e => by rw [hb] at e; cases e)
  · split at h <;> cases h
    rename_i hst
    rw [beqN] at hst
    subst hst hb
    exact ⟨_, rfl, fun h => (by simp at h; exact h.1), fun h => (by simp at h; exact h.1), rfl, fun E k v hk hv => mergeR_l hv⟩
theorem mergeSeg_r {s1 s2 : Option Seg} {g : Seg} {b : Bool} (h : mergeSeg b s1 s2 = some g) (hb : b = false) : ∃ g1, s2 = some g1 ∧ SegLe g1 g := by
  unfold mergeSeg at h
  split at h <;> try (cases h; done)
  · split at h <;> cases h
    rename_i w o l w' o' m r hr
    have hl := mergeL_len hr
    refine ⟨_, rfl, fun h => (by simp at h; exact h.2), fun h => (by simp at h; exact h.2), hl.2.symm, fun E k v hk hv => ?_⟩
    simp only [SBody.at, SBody.len] at *
    rw [mergeL_get hr k (by omega)]
    exact RelC.mergeL' (fun e => by rw [hb] at e; cases e) (fun _ => hv)
  · split at h <;> cases h
    rename_i hst
    rw [beqN] at hst
    subst hst hb
    exact ⟨_, rfl, fun h => (by simp at h; exact h.2), fun h => (by simp at h; exact h.2), rfl, fun E k v hk hv => mergeR_r hv⟩
theorem mem_onceN {k : Nat} : ∀ {l : List Nat}, k ∈ l → k ∈ onceN l
  | [], h => h
  | n :: l, h => by
    show k ∈ (Bool.rec (n :: onceN l) (onceN l) (inN n (onceN l)) : List Nat)
    have ih : k ∈ l → k ∈ onceN l := mem_onceN
    have hin : ∀ {m : List Nat}, inN n m = true → n ∈ m := by
      intro m
      induction m with
      | nil => intro h; cases h
      | cons x m ihm =>
        intro h
        replace h : (Bool.rec (inN n m) true (Nat.beq n x) : Bool) = true := h
        cases hb : Nat.beq n x with
        | true => rw [beqN.1 hb]; exact List.mem_cons_self
        | false => rw [hb] at h; exact List.mem_cons_of_mem _ (ihm h)
    cases hb : inN n (onceN l) with
    | true =>
      rcases List.mem_cons.1 h with h | h
      · rw [h]; exact hin hb
      · exact ih h
    | false =>
      rcases List.mem_cons.1 h with h | h
      · rw [h]; exact List.mem_cons_self
      · exact List.mem_cons_of_mem _ (ih h)
theorem mergeAt_mem {b : Bool} {l m : List SC} {k : Nat} {y : SC} : ∀ {ps : List Nat}, (k, y) ∈ mergeAt b l m ps → y = mergeC b (l.getD k .any) (m.getD k .any)
  | [], h => by cases h
  | j :: ps, h => by
    replace h : (k, y) ∈ (j, mergeC b (l.getD j .any) (m.getD j .any)) :: mergeAt b l m ps := h
    rcases List.mem_cons.1 h with h | h
    · cases h; rfl
    · exact mergeAt_mem h
theorem mergeAt_fsts {b : Bool} {l m : List SC} : ∀ (ps : List Nat), fsts (mergeAt b l m ps) = ps
  | [] => rfl
  | j :: ps => congrArg (j :: ·) (mergeAt_fsts ps)
/-- What two layers see of one ground, cell by cell. -/
theorem mergeD_ok {b : Bool} {d1 d2 : Option SD} {g0 : Option Seg} {g' : Seg} (h : resD (mergeD b d1 d2 (resV d1 g0) (resV d2 g0)) g0 = some g') :
    (b = true → ∃ g, resV d1 g0 = some g ∧ SegLe g g') ∧ (b = false → ∃ g, resV d2 g0 = some g ∧ SegLe g g') := by
  have full : resD (mergeF b (resV d1 g0) (resV d2 g0)) g0 = some g' → (b = true → ∃ g, resV d1 g0 = some g ∧ SegLe g g') ∧ (b = false → ∃ g, resV d2 g0 = some g ∧ SegLe g g') := by
    intro h
    unfold mergeF at h
    cases hm : mergeSeg b (resV d1 g0) (resV d2 g0) with
    | none => rw [hm] at h; cases h
    | some q =>
      rw [hm] at h
      cases h
      exact ⟨mergeSeg_l hm, mergeSeg_r hm⟩
  unfold mergeD at h
  split at h
  · rename_i p1 p2 hp1 hp2
    split at h
    · rename_i w1 o1 l w2 o2 m h1 h2
      -- the ground
      have view : ∀ {d : Option SD} {p : List Nat}, posD d = some p → ∃ x, fsts x = p ∧ resV d g0 = patchS x g0 := by
        intro d p hd
        cases d with
        | none => cases hd; exact ⟨[], rfl, (patchS_nil g0).symm⟩
        | some v => cases v with
          | gone => cases hd
          | full g => cases hd
          | diff x => cases hd; exact ⟨x, rfl, rfl⟩
      obtain ⟨x1, e1, v1⟩ := view hp1
      obtain ⟨x2, e2, v2⟩ := view hp2
      rw [v1] at h1
      rw [v2] at h2
      cases g0 with
      | none => cases h1
      | some g =>
        obtain ⟨w, o, bd⟩ := g
        cases bd with
        | rows st n row => cases h1
        | cells c =>
          cases h1
          cases h2
          cases h
          have key : ∀ (x : List (Nat × SC)) (k : Nat), (fsts x = p1 ∨ fsts x = p2) → k < c.length → k ∉ onceN (p1 ++ p2) → (patch x c).getD k .any = c.getD k .any := by
            intro x k hx hk hn
            refine patch_out x c k fun hm => hn (mem_onceN ?_)
            rcases hx with hx | hx <;> rw [hx] at hm
            · exact List.mem_append_left _ hm
            · exact List.mem_append_right _ hm
          have at_ : ∀ (x : List (Nat × SC)) (hx : fsts x = p1 ∨ fsts x = p2) (hsel : ∀ (E : EM) k v, RelC E ((patch x c).getD k .any) v → RelC E (mergeC b ((patch x1 c).getD k .any) ((patch x2 c).getD k .any)) v) (E : EM) (k : Nat) (v : Value), k < (patch x c).length → RelC E ((patch x c).getD k .any) v →
              RelC E ((patch (mergeAt b (patch x1 c) (patch x2 c) (onceN (p1 ++ p2))) c).getD k .any) v := by
            intro x hx hsel E k v hk hv
            rw [patch_len] at hk
            by_cases hin : k ∈ onceN (p1 ++ p2)
            · rw [patch_in _ c k _ (by rw [mergeAt_fsts]; exact hin) hk fun y hy => mergeAt_mem hy]
              exact hsel E k v hv
            · rw [patch_out _ c k (by rw [mergeAt_fsts]; exact hin), ← key x k hx hk hin]
              exact hv
          refine ⟨fun hb => ⟨_, v1, id, id, ?_, ?_⟩, fun hb => ⟨_, v2, id, id, ?_, ?_⟩⟩
          · show (patch _ c).length = (patch x1 c).length
            rw [patch_len, patch_len]
          · exact at_ x1 (.inl e1) fun E k v hv => RelC.mergeL' (fun _ => hv) (fun e => by rw [hb] at e; cases e)
          · show (patch _ c).length = (patch x2 c).length
            rw [patch_len, patch_len]
          · exact at_ x2 (.inr e2) fun E k v hv => RelC.mergeL' (fun e => by rw [hb] at e; cases e) (fun _ => hv)
    · cases h
  · exact full h
theorem MemRel.weaken {w0 w : World} {T0 : Nat → Nat → Prop} {E : EM} {sg sg' : Nat → Option Seg} (h : MemRel w0 T0 E sg w) (hs : ∀ i g', sg' i = some g' → ∃ g, sg i = some g ∧ SegLe g g') : MemRel w0 T0 E sg' w where
  segs i g' hg' := by
    obtain ⟨g, hg, l⟩ := hs i g' hg'
    obtain ⟨b, o, z, cs, T, fr, e, s⟩ := h.segs i g hg
    refine ⟨b, o, z, cs, T, fr, e, s.heap, by rw [l.len]; exact s.le, s.fit, fun ho => s.own (l.own ho), fun hr => s.fz (l.rw hr), fun k hk => ?_⟩
    rw [l.len] at hk
    obtain ⟨v, h1, h2⟩ := s.cell k hk
    exact ⟨v, h1, l.at_ E k v hk h2⟩
  disj i j g' k' b o z b' o' z' hij hg' hk' hr := by
    obtain ⟨g, hg, l⟩ := hs i g' hg'
    obtain ⟨k, hk, m⟩ := hs j k' hk'
    exact h.disj i j g k b o z b' o' z' hij hg hk (hr.imp l.rw m.rw)
  tch i g' b o z hg' hr := by
    obtain ⟨g, hg, l⟩ := hs i g' hg'
    exact h.tch i g b o z hg (l.rw hr)
  fr := h.fr
  tab := h.tab

/-- 'T'' says no more than 'tm', 'sg'. -/
structure Le (tm : Nat → SV) (sg : Nat → Option Seg) (tm' : Nat → SV) (sg' : Nat → Option Seg) : Prop where
  tm : ∀ (E : EM) t v, RelV E (tm t) v → RelV E (tm' t) v
  sg : ∀ i g', sg' i = some g' → ∃ g, sg i = some g ∧ SegLe g g'
theorem Le.refl (tm : Nat → SV) (sg : Nat → Option Seg) : Le tm sg tm sg := ⟨fun _ _ _ h => h, fun i g h => ⟨g, h, SegLe.refl g⟩⟩
theorem SegLe.trans {a b c : Seg} (h : SegLe a b) (h' : SegLe b c) : SegLe a c :=
  ⟨fun x => h.rw (h'.rw x), fun x => h.own (h'.own x), h'.len.trans h.len, fun E k v hk hv => h'.at_ E k v (by rw [h.len]; exact hk) (h.at_ E k v hk hv)⟩
theorem Le.trans {tm tm' tm'' : Nat → SV} {sg sg' sg'' : Nat → Option Seg} (h : Le tm sg tm' sg') (h' : Le tm' sg' tm'' sg'') : Le tm sg tm'' sg'' :=
  ⟨fun E t v hv => h'.tm E t v (h.tm E t v hv), fun i g'' hg => by
    obtain ⟨g', h1, h2⟩ := h'.sg i g'' hg
    obtain ⟨g, h3, h4⟩ := h.sg i g' h1
    exact ⟨g, h3, h4.trans h2⟩⟩
theorem mergeTop_le1 (R : List Ly) (o1 o2 : Top) {b : Bool} (hb : b = true) : Le (getT (o1.ly :: R)) (getS (o1.ly :: R)) (getT ((mergeTop b R o1 o2).ly :: R)) (getS ((mergeTop b R o1 o2).ly :: R)) := by
  refine ⟨fun E t v hv => ?_, fun i g' hg' => ?_⟩
  · rcases mergeTop_T b R o1 o2 t with h | ⟨h, _⟩
    · rw [h]; exact RelV.merge (fun _ => hv) (fun e => by rw [hb] at e; cases e)
    · rw [h]; exact hv
  · rcases mergeTop_S b R o1 o2 i with h | ⟨h, _⟩
    · rw [h, getS_cons, getS_cons] at hg'
      rw [getS_cons]
      exact (mergeD_ok hg').1 hb
    · rw [h] at hg'; exact ⟨g', hg', SegLe.refl _⟩
theorem mergeTop_le2 (R : List Ly) (o1 o2 : Top) {b : Bool} (hb : b = false) : Le (getT (o2.ly :: R)) (getS (o2.ly :: R)) (getT ((mergeTop b R o1 o2).ly :: R)) (getS ((mergeTop b R o1 o2).ly :: R)) := by
  refine ⟨fun E t v hv => ?_, fun i g' hg' => ?_⟩
  · rcases mergeTop_T b R o1 o2 t with h | ⟨_, h⟩
    · rw [h]; exact RelV.merge (fun e => by rw [hb] at e; cases e) (fun _ => hv)
    · rw [h]; exact hv
  · rcases mergeTop_S b R o1 o2 i with h | ⟨_, h⟩
    · rw [h, getS_cons, getS_cons] at hg'
      rw [getS_cons]
      exact (mergeD_ok hg').2 hb
    · rw [h] at hg'; exact ⟨g', hg', SegLe.refl _⟩
theorem commit_le (T o : Top) (R : List Ly) : Le (getT (o.ly :: T.ly :: R)) (getS (o.ly :: T.ly :: R)) (getT ((commit T o).ly :: R)) (getS ((commit T o).ly :: R)) := by
  rw [commit_T, commit_S]; exact Le.refl _ _

end Go.Proofs.Ytaoeigofmfpamaa
end

/- A region, in the text's order. Nothing is assumed. -/
section
namespace Go.Proofs.Ytaoeigofmfpamaa
open Go

/-- Where the ids of a run come from: those of 'e0', and those from 'base' on. -/
structure Rg where
  e0 : EM
  base : Nat
  lim : Nat
structure SRel (N : Nat) (Lim : Rg) (w0 : World) (T0 : Nat → Nat → Prop) (E : EM) (tm : Nat → SV) (sg : Nat → Option Seg) (next : Nat) (a : Act) (w : World) : Prop where
  tm : ∀ t, RelV E (tm t) (a.tmps.getD t undef)
  size : a.tmps.size = N
  dfr : a.defers = []
  mem : MemRel w0 T0 E sg w
  news : ∀ i, E i ≠ none → Lim.e0 i ≠ none ∨ (Lim.base ≤ i ∧ i < next)
  old : ∀ i, Lim.base ≤ i → i < Lim.lim → Lim.e0 i = none
  bn : Lim.base ≤ next
  pos : 1 ≤ next
theorem SRel.fresh {N : Nat} {Lim : Rg} {w0 : World} {T0 : Nat → Nat → Prop} {E : EM} {tm : Nat → SV} {sg : Nat → Option Seg} {next : Nat} {a : Act} {w : World} (h : SRel N Lim w0 T0 E tm sg next a w) (i : Nat) (h1 : next ≤ i) (h2 : i < Lim.lim) : E i = none := by
  cases hE : E i with
  | none => rfl
  | some x =>
    rcases h.news i (by rw [hE]; simp) with h3 | h3
    · exact absurd (h.old i (Nat.le_trans h.bn h1) h2) h3
    · omega
theorem SRel.le {N : Nat} {Lim : Rg} {w0 : World} {T0 : Nat → Nat → Prop} {E : EM} {tm tm' : Nat → SV} {sg sg' : Nat → Option Seg} {next next' : Nat} {a : Act} {w : World} (h : SRel N Lim w0 T0 E tm sg next a w) (l : Le tm sg tm' sg') (hn : next ≤ next') : SRel N Lim w0 T0 E tm' sg' next' a w :=
  ⟨fun t => l.tm E t _ (h.tm t), h.size, h.dfr, h.mem.weaken l.sg, fun i h1 => (h.news i h1).imp id fun h2 => ⟨h2.1, Nat.lt_of_lt_of_le h2.2 hn⟩, h.old, Nat.le_trans h.bn hn, Nat.le_trans h.pos hn⟩

/-! ### free ids only grow -/
theorem appOwn_next {gs : Nat → Option Seg} {next i1 i2 n m es : Nat} {new : List SC} {e : Eff} (h : appOwn gs next i1 i2 n m es new = some e) : next ≤ e.next := by
  unfold appOwn at h
  split at h <;> try (cases h; done)
  split at h
  · split at h <;> cases h; exact Nat.le_refl _
  · split at h <;> try (cases h; done)
    split at h <;> cases h; exact Nat.le_succ _
theorem sApp_next {P : Program} {el : TypeId} {gs : Nat → Option Seg} {next i1 o1 e1 n : Nat} {f1 : Bool} {i2 o2 e2 m es by' : Nat} {z : List SC} {e : Eff} (h : sApp P el gs next i1 o1 e1 n f1 i2 o2 e2 m es by' z = some e) : next ≤ e.next := by
  unfold sApp at h
  split at h <;> try (cases h; done)
  obtain ⟨new, _, h⟩ := bindO_some h
  split at h
  · split at h <;> try (cases h; done)
    split at h <;> cases h
    · exact Nat.le_refl _
    · exact Nat.le_succ _
  · split at h <;> try (cases h; done)
    exact appOwn_next h
theorem sAppR_next {gs : Nat → Option Seg} {next i1 o1 e1 : Nat} {n : SI} {f1 : Bool} {i2 o2 e2 : Nat} {m : SI} {es by' : Nat} {z : List SC} {e : Eff} (h : sAppR gs next i1 o1 e1 n f1 i2 o2 e2 m es by' z = some e) : next ≤ e.next := by
  unfold sAppR at h
  split at h <;> try (cases h; done)
  split at h <;> try (cases h; done)
  obtain ⟨g2, _, h⟩ := bindO_some h
  unfold appR at h
  split at h <;> try (cases h; done)
  · split at h <;> try (cases h; done)
    split at h <;> try (cases h; done)
    split at h <;> try (cases h; done)
    split at h <;> cases h; exact Nat.le_succ _
  · split at h <;> try (cases h; done)
    split at h <;> try (cases h; done)
    split at h <;> try (cases h; done)
    split at h
    · split at h <;> cases h; exact Nat.le_succ _
    · split at h <;> try (cases h; done)
      split at h <;> try (cases h; done)
      split at h <;> cases h; exact Nat.le_succ _
theorem sAppRR_next {gs : Nat → Option Seg} {next i1 o1 e1 : Nat} {n : SI} {f1 : Bool} {i2 e2 : Nat} {idx m : Int} {es by' : Nat} {z : List SC} {e : Eff} (h : sAppRR gs next i1 o1 e1 n f1 i2 e2 idx m es by' z = some e) : next ≤ e.next := by
  unfold sAppRR at h
  split at h <;> try (cases h; done)
  split at h <;> try (cases h; done)
  split at h <;> try (cases h; done)
  split at h <;> try (cases h; done)
  split at h <;> cases h; exact Nat.le_succ _
theorem oLoadH_next {P : Program} {gs : Nat → Option Seg} {next : Nat} {t : TypeId} {hint : Option (List SC)} {p : SC} {e : Eff} (h : oLoadH P gs next t hint p = some e) : next ≤ e.next := by
  unfold oLoadH at h
  split at h
  · unfold oLoad at h
    obtain ⟨_, _, h⟩ := bindO_some h
    obtain ⟨_, _, h⟩ := bindO_some h
    obtain ⟨_, _, h⟩ := bindO_some h
    obtain ⟨_, _, h⟩ := bindO_some h
    obtain ⟨_, _, h⟩ := bindO_some h
    obtain ⟨_, _, h⟩ := bindO_some h
    cases h; exact Nat.le_refl _
  · split at h <;> try (cases h; done)
    obtain ⟨_, _, h⟩ := bindO_some h
    obtain ⟨_, _, h⟩ := bindO_some h
    obtain ⟨_, _, h⟩ := bindO_some h
    obtain ⟨_, _, h⟩ := bindO_some h
    split at h <;> try (cases h; done)
    obtain ⟨_, _, h⟩ := bindO_some h
    cases h; exact Nat.le_refl _
theorem oStoreH_next {P : Program} {gs : Nat → Option Seg} {next : Nat} {t : TypeId} {hint : Option (List SC)} {p : SC} {x : Option (List SC)} {e : Eff} (h : oStoreH P gs next t hint p x = some e) : next ≤ e.next := by
  unfold oStoreH at h
  split at h
  · unfold oStore at h
    obtain ⟨_, _, h⟩ := bindO_some h
    obtain ⟨_, _, h⟩ := bindO_some h
    obtain ⟨_, _, h⟩ := bindO_some h
    obtain ⟨_, _, h⟩ := bindO_some h
    split at h <;> try (cases h; done)
    unfold oStore2 at h
    split at h <;> try (cases h; done)
    obtain ⟨_, _, h⟩ := bindO_some h
    cases h; exact Nat.le_refl _
  · split at h <;> try (cases h; done)
    obtain ⟨_, _, h⟩ := bindO_some h
    obtain ⟨_, _, h⟩ := bindO_some h
    obtain ⟨_, _, h⟩ := bindO_some h
    split at h <;> try (cases h; done)
    obtain ⟨_, _, h⟩ := bindO_some h
    split at h <;> try (cases h; done)
    cases h; exact Nat.le_refl _
theorem sop_next {cx : Cx} {gt : Nat → SV} {gs : Nat → Option Seg} {next : Nat} {op : Op} {e : Eff} (h : sop cx gt gs next op = some e) : next ≤ e.next := by
  have ret : ∀ {x : Option SV}, bindO x (retV next) = some e → next ≤ e.next := by
    intro x hx
    obtain ⟨s, _, h⟩ := bindO_some hx
    cases h; exact Nat.le_refl _
  have retO' : ∀ {x : Option (SC × List Bool)}, retO next x = some e → next ≤ e.next := by
    intro x hx
    obtain ⟨_, _, _, rfl⟩ := retO_some hx
    exact Nat.le_refl _
  cases op with
  | move x => exact ret h
  | assign x => exact ret h
  | pick c x y =>
    obtain ⟨q, _, h⟩ := bindC_some (show bindC (ev gt c) (fun c => oPick next c (ev gt x) (ev gt y)) = some e from h)
    unfold oPick at h
    split at h
    · exact ret h
    · exact ret h
    · obtain ⟨_, _, h⟩ := bindO_some h
      obtain ⟨_, _, h⟩ := bindO_some h
      cases h; exact Nat.le_refl _
    · cases h
  | alloc t =>
    have h' : oAlloc next (tzero cx.P t) (tsize cx.P t) = some e := h
    unfold oAlloc at h'
    obtain ⟨_, _, h'⟩ := bindO_some h'
    obtain ⟨_, _, h'⟩ := bindO_some h'
    split at h' <;> cases h'; exact Nat.le_succ _
  | box t x =>
    obtain ⟨_, _, h⟩ := bindO_some (show bindO (evL gt x) (fun l => newE next (.ptr next 0) l) = some e from h)
    cases h; exact Nat.le_succ _
  | build t parts =>
    obtain ⟨z, hz, h⟩ := bindO_some (show bindO (tzero cx.P t) (fun z => oBuild cx.P gt next z (cx.P.underlying t) parts.toList) = some e from h)
    unfold oBuild at h
    split at h
    · obtain ⟨_, _, h⟩ := bindO_some h
      obtain ⟨_, _, h⟩ := bindO_some h
      cases h; exact Nat.le_refl _
    · obtain ⟨_, _, h⟩ := bindO_some h
      obtain ⟨_, _, h⟩ := bindO_some h
      cases h; exact Nat.le_refl _
    · cases h
  | buildSlice t len parts =>
    obtain ⟨el, _, h⟩ := bindO_some (show bindO (telem cx.P t) (fun el => oBuildSlice cx.P gt next el len parts.toList) = some e from h)
    unfold oBuildSlice at h
    obtain ⟨_, _, h⟩ := bindO_some h
    obtain ⟨_, _, h⟩ := bindO_some h
    split at h <;> try (cases h; done)
    obtain ⟨_, _, h⟩ := bindO_some h
    cases h; exact Nat.le_succ _
  | load t x =>
    obtain ⟨p, _, h⟩ := bindC_some (show bindC (ev gt x) (fun p => oLoadH cx.P gs next t (hkey cx x) p) = some e from h)
    exact oLoadH_next h
  | store t x y =>
    obtain ⟨p, _, h⟩ := bindC_some (show bindC (ev gt x) (fun p => oStoreH cx.P gs next t (hkey cx x) p (evL gt y)) = some e from h)
    exact oStoreH_next h
  | nilCheck x =>
    obtain ⟨p, _, h⟩ := bindC_some (show bindC (ev gt x) (fun p => oNil next p) = some e from h)
    unfold oNil at h
    obtain ⟨_, _, h⟩ := bindO_some h
    cases h; exact Nat.le_refl _
  | binOp op t x y ty =>
    obtain ⟨p, _, h⟩ := bindC_some (show bindC (ev gt x) (fun p => bindC (ev gt y) fun q => retO next (sBin cx.O (tbool cx.P t) op p q)) = some e from h)
    obtain ⟨q, _, h⟩ := bindC_some h
    exact retO' h
  | unOp op t x =>
    obtain ⟨p, _, h⟩ := bindC_some (show bindC (ev gt x) (fun p => oUn cx.O next op p) = some e from h)
    unfold oUn at h
    obtain ⟨_, _, h⟩ := bindO_some h
    cases h; exact Nat.le_refl _
  | convert s d x =>
    obtain ⟨p, _, h⟩ := bindC_some (show bindC (ev gt x) (fun p => oConvB cx.P cx.O gs next s d p) = some e from h)
    unfold oConvB at h
    split at h
    · unfold oBytes at h
      split at h <;> try (cases h; done)
      split at h <;> try (cases h; done)
      split at h <;> try (cases h; done)
      obtain ⟨_, _, h⟩ := bindO_some h
      obtain ⟨_, _, h⟩ := bindO_some h
      obtain ⟨_, _, h⟩ := bindO_some h
      cases h; exact Nat.le_refl _
    unfold oConv at h
    obtain ⟨_, _, h⟩ := bindO_some h
    obtain ⟨_, _, h⟩ := bindO_some h
    exact retO' h
  | makeSlice t l c =>
    obtain ⟨p, _, h⟩ := bindC_some (show bindC (ev gt l) (fun p => bindC (ev gt c) fun q => sMake cx.P t next p q) = some e from h)
    obtain ⟨q, _, h⟩ := bindC_some h
    cases p <;> cases q <;> simp only [sMake] at h <;> try (cases h; done)
    split at h <;> try (cases h; done)
    split at h <;> try (cases h; done)
    unfold sMake2 at h
    split at h <;> try (cases h; done)
    split at h
    · split at h <;> cases h; exact Nat.le_succ _
    · cases h; exact Nat.le_succ _
    · cases h
  | slice t x lo hi mx =>
    obtain ⟨p, _, h⟩ := bindC_some (show bindC (ev gt x) (fun p => oSlice cx.P gt gs next t p lo hi mx) = some e from h)
    unfold oSlice at h
    split at h <;> try (cases h; done)
    split at h
    · unfold oSliceS at h
      split at h <;> try (cases h; done)
      obtain ⟨_, _, h⟩ := bindO_some h
      split at h <;> try (cases h; done)
      split at h
      · split at h <;> try (cases h; done)
        split at h <;> cases h; exact Nat.le_refl _
      · split at h
        · split at h <;> cases h; exact Nat.le_refl _
        · obtain ⟨_, _, h⟩ := bindO_some h
          cases h; exact Nat.le_refl _
    · unfold oSliceV at h
      split at h <;> try (cases h; done)
      split at h <;> try (cases h; done)
      obtain ⟨_, _, h⟩ := bindO_some h
      obtain ⟨_, _, h⟩ := bindO_some h
      split at h <;> try (cases h; done)
      obtain ⟨_, _, h⟩ := bindO_some h
      split at h <;> cases h; exact Nat.le_succ _
    · obtain ⟨_, _, h⟩ := bindO_some h
      cases h; exact Nat.le_refl _
  | fieldAddr s x f =>
    obtain ⟨p, _, h⟩ := bindC_some (show bindC (ev gt x) (fun p => oFieldAddr cx.P next (cx.P.underlying s) p f) = some e from h)
    unfold oFieldAddr at h
    split at h <;> try (cases h; done)
    obtain ⟨_, _, h⟩ := bindO_some h
    split at h <;> try (cases h; done)
    obtain ⟨_, _, h⟩ := bindO_some h
    cases h; exact Nat.le_refl _
  | field s x f =>
    obtain ⟨p, _, h⟩ := bindO_some (show bindO (ev gt x) (fun p => oField cx.P next (cx.P.underlying s) p f) = some e from h)
    unfold oField at h
    split at h <;> try (cases h; done)
    split at h <;> try (cases h; done)
    obtain ⟨_, _, h⟩ := bindO_some h
    obtain ⟨_, _, h⟩ := bindO_some h
    obtain ⟨_, _, h⟩ := bindO_some h
    obtain ⟨_, _, h⟩ := bindO_some h
    exact ret h
  | indexAddr t x i =>
    obtain ⟨p, _, h⟩ := bindC_some (show bindC (ev gt x) (fun p => bindC (ev gt i) fun n => oIndexAddr cx.P gs next (cx.P.underlying t) p n) = some e from h)
    obtain ⟨q, _, h⟩ := bindC_some h
    unfold oIndexAddr at h
    split at h <;> try (cases h; done)
    split at h
    · split at h <;> try (cases h; done)
      obtain ⟨_, _, h⟩ := bindO_some h
      exact retO' h
    · unfold oIndexAddr2 at h
      split at h <;> try (cases h; done)
      obtain ⟨_, _, h⟩ := bindO_some h
      obtain ⟨_, _, h⟩ := bindO_some h
      cases h; exact Nat.le_refl _
    · cases h
  | index t x i =>
    obtain ⟨p, _, h⟩ := bindO_some (show bindO (ev gt x) (fun p => bindC (ev gt i) fun n => oIndex cx.P next (cx.P.underlying t) p n) = some e from h)
    obtain ⟨q, _, h⟩ := bindC_some h
    unfold oIndex at h
    split at h <;> try (cases h; done)
    split at h <;> try (cases h; done)
    rotate_left
    · unfold oIndexStr at h
      split at h <;> cases h; exact Nat.le_refl _
    split at h <;> try (cases h; done)
    obtain ⟨_, _, h⟩ := bindO_some h
    obtain ⟨_, _, h⟩ := bindO_some h
    unfold oIndex2 at h
    split at h
    · split at h <;> try (cases h; done)
      obtain ⟨_, _, h⟩ := bindO_some h
      exact ret h
    · obtain ⟨_, _, h⟩ := bindO_some h
      obtain ⟨_, _, h⟩ := bindO_some h
      cases h; exact Nat.le_refl _
    · cases h
  | extract x i =>
    obtain ⟨p, _, h⟩ := bindO_some (show bindO (ev gt x) (fun p => oExtract next p i) = some e from h)
    unfold oExtract at h
    split at h <;> try (cases h; done)
    split at h <;> cases h <;> exact Nat.le_refl _
  | call c =>
    have h' : oCall cx gt gs next c = some e := h
    unfold oCall at h'
    split at h'
    · split at h'
      · unfold oLen at h'
        split at h' <;> try (cases h'; done)
        obtain ⟨_, _, h'⟩ := bindC_some h'
        obtain ⟨_, _, h'⟩ := bindO_some h'
        cases h'; exact Nat.le_refl _
      · unfold oAppend at h'
        split at h' <;> try (cases h'; done)
        obtain ⟨_, _, h'⟩ := bindO_some h'
        obtain ⟨_, _, h'⟩ := bindC_some h'
        obtain ⟨_, _, h'⟩ := bindC_some h'
        unfold sAppend at h'
        split at h' <;> try (cases h'; done)
        · obtain ⟨_, _, h'⟩ := bindO_some h'
          obtain ⟨_, _, h'⟩ := bindO_some h'
          obtain ⟨_, _, h'⟩ := bindO_some h'
          obtain ⟨_, _, h'⟩ := bindO_some h'
          exact sApp_next h'
        · obtain ⟨_, _, h'⟩ := bindO_some h'
          obtain ⟨_, _, h'⟩ := bindO_some h'
          obtain ⟨_, _, h'⟩ := bindO_some h'
          obtain ⟨_, _, h'⟩ := bindO_some h'
          exact sAppR_next h'
        · obtain ⟨_, _, h'⟩ := bindO_some h'
          obtain ⟨_, _, h'⟩ := bindO_some h'
          obtain ⟨_, _, h'⟩ := bindO_some h'
          obtain ⟨_, _, h'⟩ := bindO_some h'
          exact sAppRR_next h'
      · cases h'
    · split at h' <;> try (cases h'; done)
      obtain ⟨_, _, h'⟩ := bindO_some h'
      obtain ⟨_, _, h'⟩ := bindO_some h'
      unfold oFn at h'
      obtain ⟨c', _, h'⟩ := bindO_some h'
      cases hb : (wsOk next c'.next (reach gs _) c'.ws && Nat.ble 1 next && Nat.ble next c'.next) with
      | false => rw [hb] at h'; cases h'
      | true =>
        rw [hb] at h'; cases h'
        simp only [Bool.and_eq_true, Nat.ble_eq] at hb
        exact hb.2
    · cases h'
  | _ => cases h

/-! ### the way through a region that a run takes -/
def conc (e0 e : Eff) : Prop := e = e0 ∨ ∃ b, e0.val = .c (.bool (.s b)) ∧ e = withVal e0 (.c (.bool (sbOf b)))
theorem sbOf_val (b : Bool) : (sbOf b).val = b := by cases b <;> rfl
theorem conc_val {e0 e : Eff} (h : conc e0 e) {E : EM} {v : Value} (hv : RelV E e0.val v) : RelV E e.val v := by
  rcases h with rfl | ⟨b, h1, rfl⟩
  · exact hv
  · rw [h1] at hv
    have hv' : v = .bool b := hv
    show v = .bool (sbOf b).val
    rw [sbOf_val]; exact hv'
theorem conc_ws {e0 e : Eff} (h : conc e0 e) : e.ws = e0.ws ∧ e.next = e0.next ∧ e.rd = e0.rd := by
  rcases h with rfl | ⟨b, _, rfl⟩ <;> exact ⟨rfl, rfl, rfl⟩
def skipE (next : Nat) : Eff := ⟨.undef, [], next, [], []⟩
inductive Steps (cx : Cx) (N : Nat) (ops : List Oper) : List Oper → (Nat → SV) → (Nat → Option Seg) → Nat → List Eff → Prop where
  | nil {tm : Nat → SV} {sg : Nat → Option Seg} {next : Nat} : Steps cx N ops [] tm sg next []
  | skip {o : Oper} {rest : List Oper} {tm : Nat → SV} {sg : Nat → Option Seg} {next : Nat} {es : List Eff} : dstOk N o.dst = true → wantedS ops tm o = some false → Steps cx N ops rest (appT o.dst (skipE next) tm) sg next es → Steps cx N ops (o :: rest) tm sg next (skipE next :: es)
  | step {o : Oper} {rest : List Oper} {tm : Nat → SV} {sg : Nat → Option Seg} {next : Nat} {e0 e : Eff} {es : List Eff} : dstOk N o.dst = true → wantedS ops tm o = some true → sop cx tm sg next o.op = some e0 → AllT e0.obs → conc e0 e → Steps cx N ops rest (appT o.dst e tm) (updSs sg e.ws) e.next es → Steps cx N ops (o :: rest) tm sg next (e :: es)
def stT : List Oper → List Eff → (Nat → SV) → Nat → SV
  | o :: l, e :: es, tm => stT l es (appT o.dst e tm)
  | _, _, tm => tm
def stS : List Eff → (Nat → Option Seg) → Nat → Option Seg
  | e :: es, sg => stS es (updSs sg e.ws)
  | [], sg => sg
def stN : List Eff → Nat → Nat
  | e :: es, _ => stN es e.next
  | [], n => n
theorem Steps.mono {cx : Cx} {N : Nat} {ops : List Oper} {l : List Oper} {tm : Nat → SV} {sg : Nat → Option Seg} {next : Nat} {es : List Eff} (h : Steps cx N ops l tm sg next es) : next ≤ stN es next := by
  induction h with
  | nil => exact Nat.le_refl _
  | skip _ _ _ ih => exact ih
  | step _ _ h3 _ h5 _ ih => exact Nat.le_trans (by rw [(conc_ws h5).2.1]; exact sop_next h3) ih

theorem revE_eq : ∀ (l acc : List Eff), revE l acc = l.reverse ++ acc
  | [], _ => rfl
  | x :: l, acc => by
    change revE l (x :: acc) = _
    rw [revE_eq l]; simp
theorem AllT.map_or {l : List Bool} {b : Bool} (h : AllT (l.map (b || ·))) (hb : b = false) : AllT l := fun c hc => by
  have := h (b || c) (List.mem_map.2 ⟨c, hc, rfl⟩)
  rw [hb] at this; exact this
theorem srg_path {cx : Cx} {N : Nat} {draw : Bool} {ops : List Oper} : ∀ {l : List Oper} {R : List Ly} {i : Nat} {T T' : Top} {acc : List Eff} {obs : List Bool}, srg cx N draw ops l R i T acc = some (T', obs) → AllT obs →
    ∃ es, Steps cx N ops l (getT (T.ly :: R)) (getS (T.ly :: R)) T.next es ∧ (draw = true → okAllE (acc.reverse ++ es) 0 (ancs ops []) = true) ∧
      Le (stT l es (getT (T.ly :: R))) (stS es (getS (T.ly :: R))) (getT (T'.ly :: R)) (getS (T'.ly :: R)) ∧ stN es T.next ≤ T'.next
  | [], R, i, T, T', acc, obs, h, hob => by
    have h' : srgEnd draw ops T acc = some (T', obs) := h
    unfold srgEnd at h'
    split at h'
    · cases h'; exact ⟨[], .nil, (fun e => by cases e), Le.refl _ _, Nat.le_refl _⟩
    · split at h' <;> cases h'
      rename_i hok
      refine ⟨[], .nil, fun _ => ?_, Le.refl _ _, Nat.le_refl _⟩
      rw [revE_eq] at hok
      exact hok
  | o :: rest, R, i, T, T', acc, obs, h, hob => by
    have h' : srg1 cx N ops rest o (fun R i T acc => srg cx N draw ops rest R i T acc) R i T acc = some (T', obs) := h
    unfold srg1 at h'
    split at h' <;> try (cases h'; done)
    rename_i hd
    split at h' <;> try (cases h'; done)
    · rename_i hw
      rw [applyK_eq] at h'
      obtain ⟨es, h1, h2, h3, h4⟩ := srg_path h' hob
      rw [getT_applyE, getS_applyE] at h1 h3
      refine ⟨skipE T.next :: es, .skip hd hw h1, fun hdr => ?_, h3, h4⟩
      have := h2 hdr
      rw [List.reverse_cons, List.append_assoc] at this
      exact this
    · rename_i hw
      obtain ⟨e0, he0, h'⟩ := bindO_some h'
      unfold srgOp at h'
      split at h'
      · rename_i hf
        rw [applyHK_eq] at h'
        unfold addObs at h'
        split at h' <;> cases h'
        rename_i ob hr
        obtain ⟨hob1, hob2⟩ := hob.append
        obtain ⟨es, h1, h2, h3, h4⟩ := srg_path hr hob2
        rw [getT_applyH, getS_applyH T o.dst e0 R he0] at h1 h3
        rw [applyH_next] at h1 h4
        refine ⟨e0 :: es, .step hd hw he0 hob1 (.inl rfl) h1, fun hdr => ?_, h3, h4⟩
        have := h2 hdr
        simpa using this
      · rename_i b hf
        rw [applyK_eq, applyK_eq] at h'
        unfold forkEnd at h'
        split at h' <;> cases h'
        rename_i V1 ob1 V2 ob2 hr1 hr2
        obtain ⟨hob12, hob3⟩ := hob.append
        obtain ⟨hob1, hob2⟩ := hob12.append
        have hval : e0.val = .c (.bool (.s b)) := by
          unfold forkOf at hf
          split at hf <;> try (cases hf; done)
          split at hf <;> cases hf
          assumption
        cases b with
        | true =>
          obtain ⟨es, h1, h2, h3, h4⟩ := srg_path hr1 (hob2.map_or rfl)
          rw [getT_applyE, getS_applyE, getT_empty, getS_empty] at h1 h3
          refine ⟨withVal e0 (.c (.bool .t)) :: es, .step hd hw he0 hob1 (.inr ⟨true, hval, rfl⟩) h1, fun hdr => ?_, (h3.trans (mergeTop_le1 _ V1 V2 rfl)).trans (commit_le T _ R), ?_⟩
          · have := h2 hdr; simpa using this
          · rw [commit_next, mergeTop_next]
            exact Nat.le_trans h4 (Nat.le_max_left _ _)
        | false =>
          obtain ⟨es, h1, h2, h3, h4⟩ := srg_path hr2 (hob3.map_or rfl)
          rw [getT_applyE, getS_applyE, getT_empty, getS_empty] at h1 h3
          refine ⟨withVal e0 (.c (.bool .f)) :: es, .step hd hw he0 hob1 (.inr ⟨false, hval, rfl⟩) h1, fun hdr => ?_, (h3.trans (mergeTop_le2 _ V1 V2 rfl)).trans (commit_le T _ R), ?_⟩
          · have := h2 hdr; simpa using this
          · rw [commit_next, mergeTop_next]
            exact Nat.le_trans h4 (Nat.le_max_right _ _)

/-! ### one operation of a region -/
theorem put_getD (a : Act) (d : Option Tmp) (v : Value) {N : Nat} (hs : a.tmps.size = N) (hd : dstOk N d = true) (t : Nat) : (a.put d v).tmps.getD t undef = if d = some t then v else a.tmps.getD t undef := by
  cases d with
  | none => simp [Act.put]
  | some d =>
    simp only [dstOk, Nat.ble_eq] at hd
    simp only [Act.put, Option.some.injEq]
    by_cases e : d = t
    · subst e
      rw [if_pos rfl]
      have hlt : d < a.tmps.size := by rw [hs]; exact Nat.lt_of_succ_le hd
      simp [Array.getD, hlt]
    · rw [if_neg e]
      simp [Array.getD_eq_getD_getElem?, Array.getElem?_setIfInBounds_ne e]
theorem appT_rel {E E' : EM} (he : Ext E E') {N : Nat} {tm : Nat → SV} {a : Act} (hT : ∀ t, RelV E (tm t) (a.tmps.getD t undef)) (hs : a.tmps.size = N) {d : Option Tmp} (hd : dstOk N d = true) {e : Eff} {v : Value} (hv : RelV E' e.val v) (t : Nat) :
    RelV E' (appT d e tm t) ((a.put d v).tmps.getD t undef) := by
  rw [put_getD a d v hs hd]
  cases d with
  | none => simpa [appT] using (hT t).mono he
  | some d =>
    simp only [appT]
    by_cases h : t = d
    · subst h; rw [upd_same, if_pos rfl]; exact hv
    · rw [upd_other _ _ h, if_neg (by simp; exact fun h' => h h'.symm)]; exact (hT t).mono he
theorem put_size (a : Act) (d : Option Tmp) (v : Value) : (a.put d v).tmps.size = a.tmps.size := by cases d <;> simp [Act.put]
theorem put_defers (a : Act) (d : Option Tmp) (v : Value) : (a.put d v).defers = a.defers := by cases d <;> rfl
theorem yielded_of {ops : Array Oper} {tmps : Array Value} {j d : Nat} {q : Oper} (hq : ops[j]? = some q) (hd : q.dst = some d) : (∀ b, tmps.getD d undef = .bool b → yielded ops tmps j = some b) ∧ (tmps.getD d undef = undef → yielded ops tmps j = none) := by
  unfold yielded
  simp only [hq, Option.bind_some, hd]
  cases ht : tmps[d]? with
  | none => simp [Array.getD_eq_getD_getElem?, ht, undef]
  | some v => simp only [Array.getD_eq_getD_getElem?, ht, Option.getD_some]; exact ⟨fun b hb => by rw [hb], fun hb => by rw [hb]; rfl⟩
theorem wanted_ok {ops : Array Oper} {E : EM} {tm : Nat → SV} {a : Act} (hT : ∀ t, RelV E (tm t) (a.tmps.getD t undef)) {o : Oper} {b : Bool} (h : wantedS ops.toList tm o = some b) : Region.wanted o (yielded ops a.tmps) = b := by
  unfold wantedS at h
  unfold Region.wanted
  split at h
  · rename_i hg; rw [hg]; cases h; rfl
  · rename_i j want hg
    rw [hg]
    split at h <;> try (cases h; done)
    rename_i q hq
    rw [Array.getElem?_toList] at hq
    split at h <;> try (cases h; done)
    rename_i d hd
    have hy := yielded_of (tmps := a.tmps) hq hd
    have hr := hT d
    split at h <;> try (cases h; done)
    · rename_i hv
      rw [hv] at hr
      cases h
      simp [hy.2 hr]
    · rename_i hv
      rw [hv] at hr
      cases h
      simp only [hy.1 true hr]
      cases b <;> rfl
    · rename_i hv
      rw [hv] at hr
      cases h
      simp only [hy.1 false hr]
      cases want <;> rfl

section
variable {cx : Cx} (hO : cx.O = fops) (hC : ∀ f S, cx.orc f = some S → CallOK cx.P f S)
include hO hC
/-- What one operation of a region leaves, wherever it comes up. -/
theorem op_ok {N : Nat} {ops : Array Oper} {w0 w : World} {T0 : Nat → Nat → Prop} {E : EM} {tm : Nat → SV} {sg : Nat → Option Seg} {next : Nat} {a : Act} {Q : Exit → Act → World → Prop} {i : Nat} {o : Oper} (hi : ops[i]? = some o)
    (hT : ∀ t, RelV E (tm t) (a.tmps.getD t undef)) (hm : MemRel w0 T0 E sg w) (h1 : 1 ≤ next) (hw : wantedS ops.toList tm o = some true) {e0 e : Eff} (h : sop cx tm sg next o.op = some e0) (hob : AllT e0.obs) (hc : conc e0 e) (hfr : ∀ i, next ≤ i → i < e.next → E i = none) {K : Act → World → Prop}
    (hK : ∀ E' v w', Ext E E' → (∀ i, E' i ≠ none → E i ≠ none ∨ (next ≤ i ∧ i < e.next)) → RelV E' e.val v → MemRel w0 T0 E' (updSs sg e.ws) w' → K (a.put o.dst v) w') : wpOp cx.P ops Q i K a w := by
  unfold wpOp
  rw [hi]
  simp only [wanted_ok hT hw, if_true]
  left
  obtain ⟨c1, c2, c3⟩ := conc_ws hc
  refine wp_of_next (sop_ok hO hC hm hT h h1 (by rw [← c2]; exact hfr) hob) fun v w' ⟨E', p1, p2, p3, p4⟩ => hK E' v w' p1 (by rw [c2]; exact p2) (conc_val hc p3) (by rw [c1]; exact p4)
omit hO hC in
theorem skip_ok {ops : Array Oper} {E : EM} {tm : Nat → SV} {a : Act} {w : World} {P : Program} {Q : Exit → Act → World → Prop} {i : Nat} {o : Oper} (hi : ops[i]? = some o) (hT : ∀ t, RelV E (tm t) (a.tmps.getD t undef)) (hw : wantedS ops.toList tm o = some false) {K : Act → World → Prop} (hK : K (a.put o.dst undef) w) : wpOp P ops Q i K a w := by
  unfold wpOp
  rw [hi]
  simp only [wanted_ok hT hw, Bool.false_eq_true, if_false]
  exact hK

theorem steps_seq {N : Nat} {Lim : Rg} {ops : Array Oper} {w0 : World} {T0 : Nat → Nat → Prop} {Q : Exit → Act → World → Prop} {l : List Oper} {tm : Nat → SV} {sg : Nat → Option Seg} {next : Nat} {es : List Eff} (hst : Steps cx N ops.toList l tm sg next es) :
    ∀ {k : Nat}, (∀ j, l[j]? = ops[k + j]?) → ∀ {E : EM} {a : Act} {w : World}, SRel N Lim w0 T0 E tm sg next a w → stN es next ≤ Lim.lim → (∀ E' a' w', Ext E E' → SRel N Lim w0 T0 E' (stT l es tm) (stS es sg) (stN es next) a' w' → Q .normal a' w') →
      wpOps cx.P ops Q (List.range' k l.length) a w := by
  induction hst with
  | nil => intro k _ E a w hr _ hQ; exact hQ E a w (Ext.refl E) hr
  | @skip o rest tm sg next es hd hw hs ih =>
    intro k hl E a w hr hlim hQ
    have hi : ops[k]? = some o := by simpa using (hl 0).symm
    rw [List.length_cons, List.range'_succ, wpOps_cons]
    refine skip_ok hi hr.tm hw ?_
    refine ih (k := k + 1) (fun j => by have := hl (j + 1); rw [show k + 1 + j = k + (j + 1) by omega, ← this]; simp) (E := E) ?_ hlim hQ
    exact ⟨appT_rel (Ext.refl E) hr.tm hr.size hd rfl, by rw [put_size]; exact hr.size, by rw [put_defers]; exact hr.dfr, hr.mem, hr.news, hr.old, hr.bn, hr.pos⟩
  | @step o rest tm sg next e0 e es hd hw hsop hob hc hs ih =>
    intro k hl E a w hr hlim hQ
    have hi : ops[k]? = some o := by simpa using (hl 0).symm
    rw [List.length_cons, List.range'_succ, wpOps_cons]
    have hmono := hs.mono
    have hn : next ≤ e.next := by rw [(conc_ws hc).2.1]; exact sop_next hsop
    have hlim' : stN es e.next ≤ Lim.lim := hlim
    refine op_ok hO hC (N := N) hi hr.tm hr.mem hr.pos hw hsop hob hc (fun i h1 h2 => hr.fresh i h1 (by omega)) fun E' v w' p1 p2 p3 p4 => ?_
    refine ih (k := k + 1) (fun j => by have := hl (j + 1); rw [show k + 1 + j = k + (j + 1) by omega, ← this]; simp) (E := E') ?_ hlim' (fun E'' a' w' q1 q2 => hQ E'' a' w' (p1.trans q1) q2)
    refine ⟨appT_rel p1 hr.tm hr.size hd p3, by rw [put_size]; exact hr.size, by rw [put_defers]; exact hr.dfr, p4, fun i h1 => ?_, hr.old, Nat.le_trans hr.bn hn, Nat.le_trans hr.pos hn⟩
    rcases p2 i h1 with h3 | h3
    · exact (hr.news i h3).imp id fun h4 => ⟨h4.1, Nat.lt_of_lt_of_le h4.2 hn⟩
    · exact .inr ⟨Nat.le_trans hr.bn h3.1, h3.2⟩
end

end Go.Proofs.Ytaoeigofmfpamaa
end

/- A region that draws its order: every order comes to what the text's order comes to. Nothing is assumed. -/
section
namespace Go.Proofs.Ytaoeigofmfpamaa
open Go

/-! ### an operation looks at no more than it names -/
theorem mem_tmpsOf {t : Nat} : ∀ {l : List Operand} {acc : List Nat}, t ∈ acc ∨ Operand.tmp t ∈ l → t ∈ tmpsOf l acc
  | [], acc, h => by simpa [tmpsOf] using h
  | x :: l, acc, h => by
    have ih : t ∈ acc ∨ Operand.tmp t ∈ l → t ∈ tmpsOf l acc := mem_tmpsOf
    cases x with
    | tmp s =>
      simp only [tmpsOf, List.mem_cons]
      rcases h with h | h
      · exact .inr (ih (.inl h))
      · rcases List.mem_cons.1 h with h | h
        · cases h; exact .inl rfl
        · exact .inr (ih (.inr h))
    | _ =>
      simp only [tmpsOf]
      rcases h with h | h
      · exact ih (.inl h)
      · rcases List.mem_cons.1 h with h | h
        · cases h
        · exact ih (.inr h)
theorem mem_looks {ops : List Oper} {o : Oper} {t : Nat} (h : Operand.tmp t ∈ o.op.operands.toList) : t ∈ looksN ops o := mem_tmpsOf (.inr h)
theorem guard_looks {ops : List Oper} {o q : Oper} {g d : Nat} {want : Bool} (h : o.guard = some (g, want)) (hq : ops[g]? = some q) (hd : q.dst = some d) : d ∈ looksN ops o := by
  unfold looksN
  refine mem_tmpsOf (.inl ?_)
  rw [h]
  simp only [hq, hd, List.mem_singleton]
theorem memN_iff {n : Nat} : ∀ {l : List Nat}, memN n l = true ↔ n ∈ l
  | [] => by simp [memN]
  | m :: l => by
    change (Bool.rec (memN n l) true (Nat.beq n m) : Bool) = true ↔ _
    cases hb : Nat.beq n m
    · rw [List.mem_cons]
      have : n ≠ m := by intro e; rw [beqN.2 e] at hb; cases hb
      exact (memN_iff (l := l)).trans (by simp [this])
    · rw [beqN] at hb; subst hb; simp
theorem meets_iff {m : List Nat} : ∀ {l : List Nat}, meets l m = true ↔ ∃ x, x ∈ l ∧ x ∈ m
  | [] => by simp [meets]
  | x :: l => by
    change (Bool.rec (meets l m) true (memN x m) : Bool) = true ↔ _
    cases hb : memN x m
    · have hx : x ∉ m := fun h => by rw [memN_iff.2 h] at hb; cases hb
      refine (meets_iff (l := l)).trans ⟨fun ⟨y, h1, h2⟩ => ⟨y, List.mem_cons_of_mem _ h1, h2⟩, fun ⟨y, h1, h2⟩ => ?_⟩
      rcases List.mem_cons.1 h1 with h | h
      · subst h; exact absurd h2 hx
      · exact ⟨y, h, h2⟩
    · exact ⟨fun _ => ⟨x, List.mem_cons_self, memN_iff.1 hb⟩, fun _ => rfl⟩

theorem ev_congr {gt gt' : Nat → SV} {x : Operand} (h : ∀ t, x = .tmp t → gt' t = gt t) : ev gt' x = ev gt x := by
  cases x with
  | tmp t => show some (gt' t) = some (gt t); rw [h t rfl]
  | _ => rfl
theorem evC_congr {gt gt' : Nat → SV} {x : Operand} (h : ev gt' x = ev gt x) : evC gt' x = evC gt x := by unfold evC; rw [h]
theorem evL_congr {gt gt' : Nat → SV} {x : Operand} (h : ev gt' x = ev gt x) : evL gt' x = evL gt x := by unfold evL; rw [h]
theorem evs_congr {gt gt' : Nat → SV} : ∀ {l : List Operand}, (∀ x ∈ l, ev gt' x = ev gt x) → evs gt' l = evs gt l
  | [], _ => rfl
  | x :: l, h => by simp only [evs]; rw [h x (by simp), evs_congr fun y hy => h y (by simp [hy])]
theorem fillC_congr {gt gt' : Nat → SV} {pl : Nat → Option (Nat × Nat)} : ∀ {ps : List (Nat × Operand)} {l : List SC}, (∀ p ∈ ps, ev gt' p.2 = ev gt p.2) → fillC pl gt' l ps = fillC pl gt l ps
  | [], _, _ => rfl
  | (i, x) :: ps, l, h => by
    simp only [fillC]
    have e : evL gt' x = evL gt x := evL_congr (h (i, x) (by simp))
    rw [e]
    split <;> try rfl
    split <;> try rfl
    split <;> try rfl
    split <;> try rfl
    exact fillC_congr (ps := ps) fun p hp => h p (by simp [hp])
theorem grab_congr {gs gs' : Nat → Option Seg} : ∀ {l : List Nat} {acc : List (Nat × Seg)}, (∀ i ∈ l, gs' i = gs i) → grab gs' l acc = grab gs l acc
  | [], _, _ => rfl
  | i :: l, acc, h => by
    have h' : ∀ j ∈ l, gs' j = gs j := fun j hj => h j (by simp [hj])
    simp only [grab]
    rw [h i (by simp)]
    split
    · exact grab_congr h'
    · split
      · exact grab_congr h'
      · exact grab_congr h'
theorem reach_congr {gs gs' : Nat → Option Seg} {vs : List SV} (h : ∀ i ∈ reachI gs vs, gs' i = gs i) : reach gs' vs = reach gs vs ∧ reachI gs' vs = reachI gs vs := by
  have h1 : reach1 gs' vs = reach1 gs vs := grab_congr fun i hi => h i (by simp [reachI, hi])
  refine ⟨?_, by unfold reachI; rw [h1]⟩
  unfold reach
  rw [h1]
  exact grab_congr fun i hi => h i (by simp [reachI, hi])
theorem siOf_congr {gt gt' : Nat → SV} {x : Option Operand} (h : ∀ y, x = some y → ev gt' y = ev gt y) : siOf gt' x = siOf gt x := by
  cases x with
  | none => rfl
  | some y => simp only [siOf]; rw [evC_congr (h y rfl)]
theorem natOf_congr {gt gt' : Nat → SV} {x : Option Operand} {d : Nat} (h : ∀ y, x = some y → ev gt' y = ev gt y) : natOf gt' x d = natOf gt x d := by
  cases x with
  | none => rfl
  | some y => simp only [natOf]; rw [evC_congr (h y rfl)]

theorem oLoadH_congr {P : Program} {gs gs' : Nat → Option Seg} {next : Nat} {t : TypeId} {hint : Option (List SC)} {p : SC} {e : Eff} (h : oLoadH P gs next t hint p = some e) (hs : ∀ i, i ∈ e.rd → gs' i = gs i) : oLoadH P gs' next t hint p = some e := by
  unfold oLoadH at h ⊢
  split at h
  · unfold oLoad at h ⊢
    obtain ⟨i, hi, h⟩ := bindO_some h
    obtain ⟨g, hg, h⟩ := bindO_some h
    have hgs : gs' i = gs i := by
      refine hs i ?_
      obtain ⟨_, _, h⟩ := bindO_some h
      obtain ⟨_, _, h⟩ := bindO_some h
      obtain ⟨_, _, h⟩ := bindO_some h
      obtain ⟨_, _, h⟩ := bindO_some h
      cases h; simp
    rw [hi]
    show bindO (gs' i) _ = _
    rw [hgs, hg]; exact h
  · split at h <;> try (cases h; done)
    rename_i id st idx
    obtain ⟨g, hg, h⟩ := bindO_some h
    have hgs : gs' id = gs id := by
      refine hs id ?_
      obtain ⟨_, _, h⟩ := bindO_some h
      obtain ⟨_, _, h⟩ := bindO_some h
      obtain ⟨_, _, h⟩ := bindO_some h
      split at h <;> try (cases h; done)
      obtain ⟨_, _, h⟩ := bindO_some h
      cases h; simp
    show bindO (gs' id) _ = _
    rw [hgs, hg]; exact h
theorem oStoreH_congr {P : Program} {gs gs' : Nat → Option Seg} {next : Nat} {t : TypeId} {hint : Option (List SC)} {p : SC} {x : Option (List SC)} {e : Eff} (h : oStoreH P gs next t hint p x = some e) (hs : ∀ i, i ∈ e.rd → gs' i = gs i) : oStoreH P gs' next t hint p x = some e := by
  unfold oStoreH at h ⊢
  split at h
  · unfold oStore at h ⊢
    obtain ⟨i, hi, h⟩ := bindO_some h
    obtain ⟨g, hg, h⟩ := bindO_some h
    have hgs : gs' i = gs i := by
      refine hs i ?_
      obtain ⟨_, _, h⟩ := bindO_some h
      obtain ⟨_, _, h⟩ := bindO_some h
      split at h <;> try (cases h; done)
      unfold oStore2 at h
      split at h <;> try (cases h; done)
      obtain ⟨_, _, h⟩ := bindO_some h
      cases h; simp
    rw [hi]
    show bindO (gs' i) _ = _
    rw [hgs, hg]; exact h
  · split at h <;> try (cases h; done)
    rename_i id st idx
    obtain ⟨g, hg, h⟩ := bindO_some h
    have hgs : gs' id = gs id := by
      refine hs id ?_
      obtain ⟨_, _, h⟩ := bindO_some h
      obtain ⟨_, _, h⟩ := bindO_some h
      split at h <;> try (cases h; done)
      obtain ⟨_, _, h⟩ := bindO_some h
      split at h <;> try (cases h; done)
      cases h; simp
    show bindO (gs' id) _ = _
    rw [hgs, hg]; exact h
theorem sop_congr {cx : Cx} {gt gt' : Nat → SV} {gs gs' : Nat → Option Seg} {next : Nat} {op : Op} {e : Eff} (h : sop cx gt gs next op = some e) (ht : ∀ t, Operand.tmp t ∈ op.operands.toList → gt' t = gt t) (hs : ∀ i ∈ e.rd, gs' i = gs i) : sop cx gt' gs' next op = some e := by
  have hev : ∀ x, x ∈ op.operands.toList → ev gt' x = ev gt x := fun x hx => ev_congr fun t e => ht t (by rw [← e]; exact hx)
  cases op with
  | move x => rw [← h]; show bindO (ev gt' x) _ = bindO (ev gt x) _; rw [hev x (by simp [Op.operands])]
  | assign x => rw [← h]; show bindO (ev gt' x) _ = bindO (ev gt x) _; rw [hev x (by simp [Op.operands])]
  | pick c x y =>
    rw [← h]
    show bindC (ev gt' c) (fun c => oPick next c (ev gt' x) (ev gt' y)) = bindC (ev gt c) (fun c => oPick next c (ev gt x) (ev gt y))
    rw [hev c (by simp [Op.operands]), hev x (by simp [Op.operands]), hev y (by simp [Op.operands])]
  | alloc t => exact h
  | box t x => rw [← h]; show bindO (evL gt' x) _ = bindO (evL gt x) _; rw [evL_congr (hev x (by simp [Op.operands]))]
  | build t parts =>
    rw [← h]
    show bindO (tzero cx.P t) (fun z => oBuild cx.P gt' next z (cx.P.underlying t) parts.toList) = bindO (tzero cx.P t) (fun z => oBuild cx.P gt next z (cx.P.underlying t) parts.toList)
    have hf : ∀ pl l, fillC pl gt' l parts.toList = fillC pl gt l parts.toList := fun pl l => fillC_congr fun p hp => hev p.2 (by simp [Op.operands]; exact ⟨p.1, by simpa using hp⟩)
    congr 1
    funext z
    unfold oBuild
    split <;> simp only [hf]
  | buildSlice t len parts =>
    rw [← h]
    show bindO (telem cx.P t) (fun el => oBuildSlice cx.P gt' next el len parts.toList) = bindO (telem cx.P t) (fun el => oBuildSlice cx.P gt next el len parts.toList)
    have hf : ∀ pl l, fillC pl gt' l parts.toList = fillC pl gt l parts.toList := fun pl l => fillC_congr fun p hp => hev p.2 (by simp [Op.operands]; exact ⟨p.1, by simpa using hp⟩)
    congr 1
    funext z
    unfold oBuildSlice
    simp only [hf]
  | load t x =>
    obtain ⟨p, hp, h⟩ := bindC_some (show bindC (ev gt x) (fun p => oLoadH cx.P gs next t (hkey cx x) p) = some e from h)
    show bindC (ev gt' x) (fun p => oLoadH cx.P gs' next t (hkey cx x) p) = some e
    rw [hev x (by simp [Op.operands]), hp]
    exact oLoadH_congr h hs
  | store t x y =>
    obtain ⟨p, hp, h⟩ := bindC_some (show bindC (ev gt x) (fun p => oStoreH cx.P gs next t (hkey cx x) p (evL gt y)) = some e from h)
    show bindC (ev gt' x) (fun p => oStoreH cx.P gs' next t (hkey cx x) p (evL gt' y)) = some e
    rw [hev x (by simp [Op.operands]), hp, evL_congr (hev y (by simp [Op.operands]))]
    exact oStoreH_congr h hs
  | nilCheck x => rw [← h]; show bindC (ev gt' x) _ = bindC (ev gt x) _; rw [hev x (by simp [Op.operands])]
  | binOp op t x y ty =>
    rw [← h]
    show bindC (ev gt' x) (fun p => bindC (ev gt' y) fun q => retO next (sBin cx.O (tbool cx.P t) op p q)) = bindC (ev gt x) (fun p => bindC (ev gt y) fun q => retO next (sBin cx.O (tbool cx.P t) op p q))
    rw [hev x (by simp [Op.operands]), hev y (by simp [Op.operands])]
  | unOp op t x => rw [← h]; show bindC (ev gt' x) _ = bindC (ev gt x) _; rw [hev x (by simp [Op.operands])]
  | convert s d x =>
    obtain ⟨p, hp, h⟩ := bindC_some (show bindC (ev gt x) (fun p => oConvB cx.P cx.O gs next s d p) = some e from h)
    show bindC (ev gt' x) (fun p => oConvB cx.P cx.O gs' next s d p) = some e
    rw [hev x (by simp [Op.operands]), hp]
    show oConvB cx.P cx.O gs' next s d p = some e
    unfold oConvB at h ⊢
    split at h
    · rename_i i o es n _
      show oBytes cx.P gs' next s d i o es n = some e
      have h' : oBytes cx.P gs next s d i o es n = some e := h
      unfold oBytes at h' ⊢
      split at h' <;> try (cases h'; done)
      split at h' <;> try (cases h'; done)
      split at h' <;> try (cases h'; done)
      obtain ⟨g, hg, h'⟩ := bindO_some h'
      have hgs : gs' i = gs i := by
        refine hs i ?_
        obtain ⟨_, _, h'⟩ := bindO_some h'
        obtain ⟨_, _, h'⟩ := bindO_some h'
        cases h'
        simp
      simp only [*]
      exact h'
    · exact h
  | makeSlice t l c =>
    rw [← h]
    show bindC (ev gt' l) (fun p => bindC (ev gt' c) fun q => sMake cx.P t next p q) = bindC (ev gt l) (fun p => bindC (ev gt c) fun q => sMake cx.P t next p q)
    rw [hev l (by simp [Op.operands]), hev c (by simp [Op.operands])]
  | slice t x lo hi mx =>
    obtain ⟨p, hp, h⟩ := bindC_some (show bindC (ev gt x) (fun p => oSlice cx.P gt gs next t p lo hi mx) = some e from h)
    show bindC (ev gt' x) (fun p => oSlice cx.P gt' gs' next t p lo hi mx) = some e
    rw [hev x (by simp [Op.operands]), hp]
    show oSlice cx.P gt' gs' next t p lo hi mx = some e
    have h1 : ∀ d, natOf gt' lo d = natOf gt lo d := fun d => natOf_congr fun y hy => hev y (by subst hy; simp [Op.operands])
    have h2 : ∀ d, natOf gt' hi d = natOf gt hi d := fun d => natOf_congr fun y hy => hev y (by subst hy; simp [Op.operands])
    have hS : ∀ p, sSlice cx.P t gt' p lo hi = sSlice cx.P t gt p lo hi := fun p => by unfold sSlice; simp only [h1, h2]
    have h3 : siOf gt' lo = siOf gt lo := siOf_congr fun y hy => hev y (by subst hy; simp [Op.operands])
    have h4 : siOf gt' hi = siOf gt hi := siOf_congr fun y hy => hev y (by subst hy; simp [Op.operands])
    have hSS : ∀ i o es n f, oSliceS cx.P gt' next t i o es n f lo hi = oSliceS cx.P gt next t i o es n f lo hi := fun i o es n f => by unfold oSliceS; simp only [h1, h3, h4]
    unfold oSlice at h ⊢
    simp only [hS, hSS]
    split at h <;> try (cases h; done)
    split at h
    · exact h
    · rename_i i o st idx
      show oSliceV cx.P gs' next t i o st idx lo hi = some e
      have h' : oSliceV cx.P gs next t i o st idx lo hi = some e := h
      unfold oSliceV at h' ⊢
      split at h' <;> try (cases h'; done)
      split at h' <;> try (cases h'; done)
      rename_i hund
      obtain ⟨es, hes, h'⟩ := bindO_some h'
      obtain ⟨g, hg, h'⟩ := bindO_some h'
      have hgs : gs' i = gs i := by
        refine hs i ?_
        split at h' <;> try (cases h'; done)
        obtain ⟨_, _, h'⟩ := bindO_some h'
        split at h' <;> cases h'
        simp
      rw [hes]
      show bindO (gs' i) _ = _
      rw [hgs, hg]
      exact h'
    · exact h
  | fieldAddr s x f => rw [← h]; show bindC (ev gt' x) _ = bindC (ev gt x) _; rw [hev x (by simp [Op.operands])]
  | field s x f => rw [← h]; show bindO (ev gt' x) _ = bindO (ev gt x) _; rw [hev x (by simp [Op.operands])]
  | indexAddr t x i =>
    obtain ⟨p, hp, h⟩ := bindC_some (show bindC (ev gt x) (fun p => bindC (ev gt i) fun n => oIndexAddr cx.P gs next (cx.P.underlying t) p n) = some e from h)
    obtain ⟨q, hq, h⟩ := bindC_some h
    show bindC (ev gt' x) (fun p => bindC (ev gt' i) fun n => oIndexAddr cx.P gs' next (cx.P.underlying t) p n) = some e
    rw [hev x (by simp [Op.operands]), hp]
    show bindC (ev gt' i) (fun n => oIndexAddr cx.P gs' next (cx.P.underlying t) p n) = some e
    rw [hev i (by simp [Op.operands]), hq]
    show oIndexAddr cx.P gs' next (cx.P.underlying t) p q = some e
    unfold oIndexAddr at h ⊢
    split at h <;> try (cases h; done)
    try simp only
    split at h
    · exact h
    · unfold oIndexAddr2 at h ⊢
      split at h <;> try (cases h; done)
      rename_i id o es m full _
      try simp only
      obtain ⟨es', hes, h⟩ := bindO_some h
      obtain ⟨r, hr, h⟩ := bindO_some h
      cases h
      rw [hes]
      show bindO (sIndexS cx.P id o es es' m (gs' id) _) _ = _
      rw [hs id (by simp), hr]; rfl
    · cases h
  | index t x i =>
    rw [← h]
    show bindO (ev gt' x) (fun p => bindC (ev gt' i) fun n => oIndex cx.P next (cx.P.underlying t) p n) = bindO (ev gt x) (fun p => bindC (ev gt i) fun n => oIndex cx.P next (cx.P.underlying t) p n)
    rw [hev x (by simp [Op.operands]), hev i (by simp [Op.operands])]
  | extract x i => rw [← h]; show bindO (ev gt' x) _ = bindO (ev gt x) _; rw [hev x (by simp [Op.operands])]
  | call c =>
    have h' : oCall cx gt gs next c = some e := h
    show oCall cx gt' gs' next c = some e
    have hargs : ∀ x ∈ c.args.toList, ev gt' x = ev gt x := fun x hx => hev x (by simp only [Op.operands, Call.operands, Array.toList_append, List.mem_append]; exact .inr hx)
    unfold oCall at h' ⊢
    split at h'
    · split at h'
      · unfold oLen at h' ⊢
        split at h' <;> try (cases h'; done)
        rename_i x t rest h1 h2
        try simp only [h1, h2]
        rw [hargs x (by rw [h1]; simp)]; exact h'
      · unfold oAppend at h' ⊢
        split at h' <;> try (cases h'; done)
        rename_i x y t t' rest h1 h2
        try simp only [h1, h2]
        rw [hargs x (by rw [h1]; simp), hargs y (by rw [h1]; simp)]
        obtain ⟨el', hel', h'⟩ := bindO_some h'
        obtain ⟨p, hp, h'⟩ := bindC_some h'
        obtain ⟨q, hq, h'⟩ := bindC_some h'
        rw [hel', hp, hq]
        show sAppend cx.P t gs' next p q = some e
        unfold sAppend at h' ⊢
        split at h' <;> try (cases h'; done)
        · rename_i i1 o1 e1 n f1 i2 o2 e2 m f2 _
          try simp only
          obtain ⟨el, hel, h'⟩ := bindO_some h'
          obtain ⟨es, hes, h'⟩ := bindO_some h'
          obtain ⟨by', hby, h'⟩ := bindO_some h'
          obtain ⟨z, hz, h'⟩ := bindO_some h'
          simp only [bindO, hel, hes, hby, hz]
          show sApp cx.P el gs' next i1 o1 e1 n f1 i2 o2 e2 m es by' z = some e
          unfold sApp at h' ⊢
          split at h' <;> try (cases h'; done)
          try simp only [*]
          obtain ⟨new, hnew, h'⟩ := bindO_some h'
          have hn2 : (Nat.beq m 0 = false → gs' i2 = gs i2) → appNew gs' i2 o2 e2 es m = some new := by
            intro hg
            unfold appNew at hnew ⊢
            cases hm : Nat.beq m 0
            · rw [hm] at hnew
              simp only at hnew ⊢
              rw [hg hm]; exact hnew
            · rw [hm] at hnew; exact hnew
          split at h'
          · rename_i h0
            split at h' <;> try (cases h'; done)
            rename_i hn0
            split at h'
            · rename_i hm0
              rw [hn2 (fun e => by rw [hm0] at e; cases e)]
              simp only [bindO, h0, hn0, hm0]; exact h'
            · rename_i hm0
              have : appNew gs' i2 o2 e2 es m = some new := hn2 fun _ => hs i2 (by cases h'; simp)
              rw [this]
              simp only [bindO, h0, hn0, hm0]; exact h'
          · rename_i h0
            split at h' <;> try (cases h'; done)
            rename_i ho
            have hrd : ∀ i, i = i1 ∨ i = i2 → i ∈ e.rd := by
              intro i hi
              unfold appOwn at h'
              split at h' <;> try (cases h'; done)
              split at h'
              · split at h' <;> cases h'; simpa using hi
              · split at h' <;> try (cases h'; done)
                split at h' <;> cases h'; simpa using hi
            rw [hn2 fun _ => hs i2 (hrd i2 (.inr rfl))]
            simp only [bindO, h0, ho]
            unfold appOwn at h' ⊢
            rw [hs i1 (hrd i1 (.inl rfl))]; exact h'
        · rename_i i1 o1 e1 n f1 i2 o2 e2 m f2 hne _
          obtain ⟨el, hel, h'⟩ := bindO_some h'
          obtain ⟨es, hes, h'⟩ := bindO_some h'
          obtain ⟨by', hby, h'⟩ := bindO_some h'
          obtain ⟨z, hz, h'⟩ := bindO_some h'
          have hrd : ∀ i, i = i1 ∨ i = i2 → i ∈ e.rd := by
            intro i hi
            have h := h'
            unfold sAppR at h
            split at h <;> try (cases h; done)
            split at h <;> try (cases h; done)
            obtain ⟨g2, _, h⟩ := bindO_some h
            unfold appR at h
            split at h <;> try (cases h; done)
            · split at h <;> try (cases h; done)
              split at h <;> try (cases h; done)
              split at h <;> try (cases h; done)
              split at h <;> cases h; simpa using hi
            · split at h <;> try (cases h; done)
              split at h <;> try (cases h; done)
              split at h <;> try (cases h; done)
              split at h
              · split at h <;> cases h; simpa using hi
              · split at h <;> try (cases h; done)
                split at h <;> try (cases h; done)
                split at h <;> cases h; simpa using hi
          have h2 : sAppR gs' next i1 o1 e1 n f1 i2 o2 e2 m es by' z = some e := by
            unfold sAppR at h' ⊢
            rw [hs i1 (hrd i1 (.inl rfl)), hs i2 (hrd i2 (.inr rfl))]; exact h'
          simp only [bindO, hel, hes, hby, hz]; exact h2
        · rename_i i1 o1 e1 n f1 i2 e2 idx m _
          obtain ⟨el, hel, h'⟩ := bindO_some h'
          obtain ⟨es, hes, h'⟩ := bindO_some h'
          obtain ⟨by', hby, h'⟩ := bindO_some h'
          obtain ⟨z, hz, h'⟩ := bindO_some h'
          have hrd : ∀ i, i = i1 ∨ i = i2 → i ∈ e.rd := by
            intro i hi
            have h := h'
            unfold sAppRR at h
            split at h <;> try (cases h; done)
            split at h <;> try (cases h; done)
            split at h <;> try (cases h; done)
            split at h <;> try (cases h; done)
            split at h <;> cases h; simpa using hi
          have h2 : sAppRR gs' next i1 o1 e1 n f1 i2 e2 idx m es by' z = some e := by
            unfold sAppRR at h' ⊢
            rw [hs i1 (hrd i1 (.inl rfl)), hs i2 (hrd i2 (.inr rfl))]; exact h'
          simp only [bindO, hel, hes, hby, hz]; exact h2
      · cases h'
    · split at h' <;> try (cases h'; done)
      rename_i f
      obtain ⟨S, hS, h'⟩ := bindO_some h'
      obtain ⟨vs, hvs, h'⟩ := bindO_some h'
      simp only [hS, evs_congr hargs, hvs]
      show oFn gs' next S vs (reach gs' vs) = some e
      have hrd : e.rd = reachI gs vs := by
        unfold oFn at h'
        obtain ⟨c', _, h'⟩ := bindO_some h'
        cases hb : (wsOk next c'.next (reach gs vs) c'.ws && Nat.ble 1 next && Nat.ble next c'.next) with
        | false => rw [hb] at h'; cases h'
        | true => rw [hb] at h'; cases h'; rfl
      obtain ⟨r1, r2⟩ := reach_congr (gs := gs) (gs' := gs') (vs := vs) (fun i hi => hs i (by rw [hrd]; exact hi))
      rw [r1]
      unfold oFn at h' ⊢
      rw [r2]; exact h'
    · cases h'
  | _ => cases h
theorem wanted_congr {ops : List Oper} {gt gt' : Nat → SV} {o : Oper} (h : ∀ t ∈ looksN ops o, gt' t = gt t) : wantedS ops gt' o = wantedS ops gt o := by
  unfold wantedS
  split
  · rfl
  · rename_i j want hg
    split
    · rename_i q hq
      split
      · rename_i d hd
        rw [h d (guard_looks hg hq hd)]
      · rfl
    · rfl

end Go.Proofs.Ytaoeigofmfpamaa
end

/- A region that draws its order, second part. Nothing is assumed. -/
section
namespace Go.Proofs.Ytaoeigofmfpamaa
open Go

def fl (D : Nat → Bool) : List Oper → List Eff → (Nat → SV) → Nat → SV
  | o :: l, e :: es, tm => fl (fun j => D (j + 1)) l es (if D 0 then appT o.dst e tm else tm)
  | _, _, tm => tm
def gl (D : Nat → Bool) : List Eff → (Nat → Option Seg) → Nat → Option Seg
  | e :: es, sg => gl (fun j => D (j + 1)) es (if D 0 then updSs sg e.ws else sg)
  | [], sg => sg
def nx : List Eff → Nat → Nat → Nat
  | _, n, 0 => n
  | e :: es, _, k + 1 => nx es e.next k
  | [], n, _ + 1 => n
theorem fl_none : ∀ (l : List Oper) (es : List Eff) (D : Nat → Bool) (tm : Nat → SV), (∀ k, D k = false) → fl D l es tm = tm
  | [], _, _, _, _ => rfl
  | _ :: _, [], _, _, _ => rfl
  | o :: l, e :: es, D, tm, h => by simp only [fl, h 0, Bool.false_eq_true, if_false]; exact fl_none l es _ _ fun k => h (k + 1)
theorem gl_none : ∀ (es : List Eff) (D : Nat → Bool) (sg : Nat → Option Seg), (∀ k, D k = false) → gl D es sg = sg
  | [], _, _, _ => rfl
  | e :: es, D, sg, h => by simp only [gl, h 0, Bool.false_eq_true, if_false]; exact gl_none es _ _ fun k => h (k + 1)
theorem fl_all : ∀ (l : List Oper) (es : List Eff) (D : Nat → Bool) (tm : Nat → SV), (∀ k, k < l.length → D k = true) → fl D l es tm = stT l es tm
  | [], _, _, _, _ => by simp [fl, stT]
  | _ :: _, [], _, _, _ => rfl
  | o :: l, e :: es, D, tm, h => by
    simp only [fl, stT, h 0 (by simp), if_true]
    exact fl_all l es _ _ fun k hk => h (k + 1) (by simpa using hk)
theorem gl_all : ∀ (es : List Eff) (D : Nat → Bool) (sg : Nat → Option Seg), (∀ k, k < es.length → D k = true) → gl D es sg = stS es sg
  | [], _, _, _ => rfl
  | e :: es, D, sg, h => by
    simp only [gl, stS, h 0 (by simp), if_true]
    exact gl_all es _ _ fun k hk => h (k + 1) (by simpa using hk)
theorem nx_all : ∀ (es : List Eff) (n : Nat), nx es n es.length = stN es n
  | [], _ => rfl
  | e :: es, n => by simp only [List.length_cons, nx, stN]; exact nx_all es e.next
theorem nx_succ : ∀ (es : List Eff) (n k : Nat) (e : Eff), es[k]? = some e → nx es n (k + 1) = e.next
  | [], _, _, _, h => by simp at h
  | x :: es, n, 0, e, h => by simp at h; subst h; cases es <;> rfl
  | x :: es, n, k + 1, e, h => by
    show nx es x.next (k + 1) = _
    exact nx_succ es x.next k e (by simpa using h)
theorem mem_fsts {α : Type} {i : Nat} : ∀ {l : List (Nat × α)}, i ∈ fstsN l ↔ ∃ v, (i, v) ∈ l
  | [] => by simp [fstsN]
  | (j, v) :: l => by
    simp only [fstsN, List.mem_cons, mem_fsts (l := l)]
    constructor
    · rintro (rfl | ⟨u, h⟩)
      · exact ⟨v, .inl rfl⟩
      · exact ⟨u, .inr h⟩
    · rintro ⟨u, h | h⟩
      · cases h; exact .inl rfl
      · exact .inr ⟨u, h⟩
theorem updSs_not {sg : Nat → Option Seg} {ws : List (Nat × Option Seg)} {i : Nat} (h : i ∉ fstsN ws) : updSs sg ws i = sg i := by
  rcases updSs_cases sg sg ws i with ⟨v, _, _, h3⟩ | ⟨h1, _, _⟩
  · exact absurd (mem_fsts.2 ⟨v, h3⟩) h
  · exact h1
theorem updSs_agree {sg sg' : Nat → Option Seg} (ws : List (Nat × Option Seg)) {i : Nat} (h : sg i = sg' i) : updSs sg ws i = updSs sg' ws i := by
  rcases updSs_cases sg sg' ws i with ⟨v, h1, h2, _⟩ | ⟨h1, h2, _⟩
  · rw [h1, h2]
  · rw [h1, h2, h]
theorem updSs_mem {sg sg' : Nat → Option Seg} {ws : List (Nat × Option Seg)} {i : Nat} (h : i ∈ fstsN ws) : updSs sg ws i = updSs sg' ws i := by
  rcases updSs_cases sg sg' ws i with ⟨v, h1, h2, _⟩ | ⟨_, _, h3⟩
  · rw [h1, h2]
  · obtain ⟨v, hv⟩ := mem_fsts.1 h
    exact absurd hv (h3 v)
theorem appT_agree {tm tm' : Nat → SV} (d : Option Tmp) (e : Eff) {t : Nat} (h : tm t = tm' t) : appT d e tm t = appT d e tm' t := by
  cases d with
  | none => exact h
  | some d =>
    simp only [appT]
    by_cases e : t = d
    · subst e; rw [upd_same, upd_same]
    · rw [upd_other _ _ e, upd_other _ _ e, h]
theorem appT_not {tm : Nat → SV} {d : Option Tmp} {e : Eff} {t : Nat} (h : d ≠ some t) : appT d e tm t = tm t := by
  cases d with
  | none => rfl
  | some d => simp only [appT]; exact upd_other _ _ fun e => h (by rw [e])
theorem fl_agree : ∀ (l : List Oper) (es : List Eff) (D D' : Nat → Bool) (tm tm' : Nat → SV) (t : Nat), tm t = tm' t → (∀ k o, l[k]? = some o → o.dst = some t → D k = D' k) → fl D l es tm t = fl D' l es tm' t
  | [], es, _, _, _, _, _, h, _ => by cases es <;> exact h
  | _ :: _, [], _, _, _, _, _, h, _ => h
  | o :: l, e :: es, D, D', tm, tm', t, h, hD => by
    simp only [fl]
    refine fl_agree l es _ _ _ _ t ?_ fun k o' h1 h2 => hD (k + 1) o' (by simpa using h1) h2
    by_cases hd : o.dst = some t
    · rw [hD 0 o rfl hd]
      split
      · exact appT_agree _ _ h
      · exact h
    · have h1 : (if D 0 = true then appT o.dst e tm else tm) t = tm t := by split <;> first | rfl | exact appT_not hd
      have h2 : (if D' 0 = true then appT o.dst e tm' else tm') t = tm' t := by split <;> first | rfl | exact appT_not hd
      rw [h1, h2, h]
theorem gl_agree : ∀ (es : List Eff) (D D' : Nat → Bool) (sg sg' : Nat → Option Seg) (i : Nat), sg i = sg' i → (∀ k e, es[k]? = some e → i ∈ fstsN e.ws → D k = D' k) → gl D es sg i = gl D' es sg' i
  | [], _, _, _, _, _, h, _ => h
  | e :: es, D, D', sg, sg', i, h, hD => by
    simp only [gl]
    refine gl_agree es _ _ _ _ i ?_ fun k e' h1 h2 => hD (k + 1) e' (by simpa using h1) h2
    by_cases hi : i ∈ fstsN e.ws
    · rw [hD 0 e rfl hi]
      split
      · exact updSs_agree _ h
      · exact h
    · have h1 : (if D 0 = true then updSs sg e.ws else sg) i = sg i := by split <;> first | rfl | exact updSs_not hi
      have h2 : (if D' 0 = true then updSs sg' e.ws else sg') i = sg' i := by split <;> first | rfl | exact updSs_not hi
      rw [h1, h2, h]
theorem appT_comm {tm : Nat → SV} {d d' : Option Tmp} {e e' : Eff} (h : ∀ x, d = some x → d' ≠ some x) : appT d' e' (appT d e tm) = appT d e (appT d' e' tm) := by
  cases d with
  | none => rfl
  | some x => cases d' with
    | none => rfl
    | some y =>
      have hxy : y ≠ x := fun e => h x rfl (by rw [e])
      funext t
      simp only [appT]
      by_cases h1 : t = x
      · subst h1; rw [upd_same, upd_other _ _ (Ne.symm hxy), upd_same]
      · by_cases h2 : t = y
        · subst h2; rw [upd_same, upd_other _ _ h1, upd_same]
        · rw [upd_other _ _ h2, upd_other _ _ h1, upd_other _ _ h1, upd_other _ _ h2]
theorem fl_comm : ∀ (l : List Oper) (es : List Eff) (D : Nat → Bool) (d : Option Tmp) (e : Eff) (tm : Nat → SV), (∀ k o, l[k]? = some o → D k = true → ∀ x, d = some x → o.dst ≠ some x) → fl D l es (appT d e tm) = appT d e (fl D l es tm)
  | [], es, _, _, _, _, _ => by cases es <;> rfl
  | _ :: _, [], _, _, _, _, _ => rfl
  | o :: l, e' :: es, D, d, e, tm, h => by
    simp only [fl]
    have ih := fun tm => fl_comm l es (fun j => D (j + 1)) d e tm fun k o' h1 h2 => h (k + 1) o' (by simpa using h1) h2
    by_cases h0 : D 0 = true
    · rw [if_pos h0, if_pos h0, appT_comm (h 0 o rfl h0), ih]
    · rw [if_neg h0, if_neg h0, ih]
theorem updSs_comm {sg : Nat → Option Seg} {a b : List (Nat × Option Seg)} (h : ∀ i, i ∈ fstsN a → i ∉ fstsN b) : updSs (updSs sg a) b = updSs (updSs sg b) a := by
  funext i
  by_cases ha : i ∈ fstsN a
  · rw [updSs_not (h i ha)]
    exact updSs_mem ha
  · rw [updSs_not (ws := a) ha]
    exact updSs_agree b (updSs_not ha)
theorem gl_comm : ∀ (es : List Eff) (D : Nat → Bool) (a : List (Nat × Option Seg)) (sg : Nat → Option Seg), (∀ k e, es[k]? = some e → D k = true → ∀ i, i ∈ fstsN a → i ∉ fstsN e.ws) → gl D es (updSs sg a) = updSs (gl D es sg) a
  | [], _, _, _, _ => rfl
  | e :: es, D, a, sg, h => by
    simp only [gl]
    have ih := fun sg => gl_comm es (fun j => D (j + 1)) a sg fun k e' h1 h2 => h (k + 1) e' (by simpa using h1) h2
    by_cases h0 : D 0 = true
    · rw [if_pos h0, if_pos h0, updSs_comm (h 0 e rfl h0), ih]
    · rw [if_neg h0, if_neg h0, ih]
theorem fl_add : ∀ (l : List Oper) (es : List Eff) (D D' : Nat → Bool) (i : Nat) (o : Oper) (e : Eff) (tm : Nat → SV), l[i]? = some o → es[i]? = some e → D i = false → (∀ k, D' k = if k = i then true else D k) →
    (∀ k o', i < k → l[k]? = some o' → D k = true → ∀ x, o.dst = some x → o'.dst ≠ some x) → fl D' l es tm = appT o.dst e (fl D l es tm)
  | [], _, _, _, _, _, _, _, h, _, _, _, _ => by simp at h
  | _ :: _, [], _, _, _, _, _, _, _, h, _, _, _ => by simp at h
  | x :: l, y :: es, D, D', 0, o, e, tm, h1, h2, h3, h4, h5 => by
    simp at h1 h2
    subst h1; subst h2
    simp only [fl, h4 0, if_true, h3, Bool.false_eq_true, if_false]
    have : (fun j => D' (j + 1)) = fun j => D (j + 1) := by funext j; rw [h4]; simp
    rw [this]
    exact fl_comm l es _ _ _ _ fun k o' hk hd => h5 (k + 1) o' (by omega) (by simpa using hk) hd
  | x :: l, y :: es, D, D', i + 1, o, e, tm, h1, h2, h3, h4, h5 => by
    simp only [fl]
    have h0 : D' 0 = D 0 := by rw [h4, if_neg (by omega)]
    rw [h0]
    exact fl_add l es (fun j => D (j + 1)) (fun j => D' (j + 1)) i o e _ (by simpa using h1) (by simpa using h2) h3 (fun k => by rw [h4]; simp) fun k o' hk hl hd => h5 (k + 1) o' (by omega) (by simpa using hl) hd
theorem gl_add : ∀ (es : List Eff) (D D' : Nat → Bool) (i : Nat) (e : Eff) (sg : Nat → Option Seg), es[i]? = some e → D i = false → (∀ k, D' k = if k = i then true else D k) →
    (∀ k e', i < k → es[k]? = some e' → D k = true → ∀ x, x ∈ fstsN e.ws → x ∉ fstsN e'.ws) → gl D' es sg = updSs (gl D es sg) e.ws
  | [], _, _, _, _, _, h, _, _, _ => by simp at h
  | y :: es, D, D', 0, e, sg, h2, h3, h4, h5 => by
    simp at h2
    subst h2
    simp only [gl, h4 0, if_true, h3, Bool.false_eq_true, if_false]
    have : (fun j => D' (j + 1)) = fun j => D (j + 1) := by funext j; rw [h4]; simp
    rw [this]
    exact gl_comm es _ _ _ fun k o' hk hd => h5 (k + 1) o' (by omega) (by simpa using hk) hd
  | y :: es, D, D', i + 1, e, sg, h2, h3, h4, h5 => by
    simp only [gl]
    have h0 : D' 0 = D 0 := by rw [h4, if_neg (by omega)]
    rw [h0]
    exact gl_add es (fun j => D (j + 1)) (fun j => D' (j + 1)) i e _ (by simpa using h2) h3 (fun k => by rw [h4]; simp) fun k o' hk hl hd => h5 (k + 1) o' (by omega) (by simpa using hl) hd

theorem steps_at {cx : Cx} {N : Nat} {ops l : List Oper} {tm : Nat → SV} {sg : Nat → Option Seg} {next : Nat} {es : List Eff} (h : Steps cx N ops l tm sg next es) : es.length = l.length ∧ ∀ k o, l[k]? = some o → ∃ e, es[k]? = some e ∧ dstOk N o.dst = true ∧
    ((wantedS ops (fl (fun j => decide (j < k)) l es tm) o = some false ∧ e = skipE (nx es next k)) ∨
     (wantedS ops (fl (fun j => decide (j < k)) l es tm) o = some true ∧ ∃ e0, sop cx (fl (fun j => decide (j < k)) l es tm) (gl (fun j => decide (j < k)) es sg) (nx es next k) o.op = some e0 ∧ AllT e0.obs ∧ conc e0 e)) := by
  have shift : ∀ k : Nat, (fun j => decide (j + 1 < k + 1)) = (fun j => decide (j < k)) := by intro k; funext j; simp
  induction h with
  | nil => exact ⟨rfl, fun k o hk => by simp at hk⟩
  | @skip o rest tm sg next es hd hw hs ih =>
    refine ⟨by simp [ih.1], fun k o' hk => ?_⟩
    cases k with
    | zero =>
      simp at hk; subst hk
      refine ⟨_, rfl, hd, .inl ⟨?_, rfl⟩⟩
      rw [fl_none _ _ _ _ (by simp)]; exact hw
    | succ k =>
      obtain ⟨e, h1, h2, h3⟩ := ih.2 k o' (by simpa using hk)
      refine ⟨e, by simpa using h1, h2, ?_⟩
      simp only [fl, gl, shift, Nat.zero_lt_succ, decide_true, if_true]
      exact h3
  | @step o rest tm sg next e0 e es hd hw hsop hob hc hs ih =>
    refine ⟨by simp [ih.1], fun k o' hk => ?_⟩
    cases k with
    | zero =>
      simp at hk; subst hk
      refine ⟨_, rfl, hd, .inr ⟨?_, e0, ?_, hob, hc⟩⟩
      · rw [fl_none _ _ _ _ (by simp)]; exact hw
      · rw [fl_none _ _ _ _ (by simp), gl_none _ _ _ (by simp)]; exact hsop
    | succ k =>
      obtain ⟨e', h1, h2, h3⟩ := ih.2 k o' (by simpa using hk)
      refine ⟨e', by simpa using h1, h2, ?_⟩
      simp only [fl, gl, shift, Nat.zero_lt_succ, decide_true, if_true]
      exact h3

/-! ### what comes before what -/
inductive Bef (ops : List Oper) : Nat → Nat → Prop where
  | one {i j : Nat} {o : Oper} {e : Edge} : ops[j]? = some o → e ∈ o.after.toList → Region.binds .any e = true → e.on = i → Bef ops i j
  | more {i j : Nat} {o : Oper} {e : Edge} : ops[j]? = some o → e ∈ o.after.toList → Region.binds .any e = true → Bef ops i e.on → Bef ops i j
theorem ancE_ok {as : List Nat} {i : Nat} : ∀ {es : List Edge} {acc : Nat}, Nat.testBit (ancE es as acc) i = true → Nat.testBit acc i = true ∨ ∃ e ∈ es, Region.binds .any e = true ∧ (e.on = i ∨ Nat.testBit (as.getD e.on 0) i = true)
  | [], acc, h => .inl h
  | e :: es, acc, h => by
    unfold ancE at h
    split at h
    · rcases ancE_ok h with h | ⟨e', h1, h2⟩
      · exact .inl h
      · exact .inr ⟨e', List.mem_cons_of_mem _ h1, h2⟩
    · rcases ancE_ok h with h | ⟨e', h1, h2⟩
      · exact .inl h
      · exact .inr ⟨e', List.mem_cons_of_mem _ h1, h2⟩
    · rename_i hg1 hg2
      have hb : Region.binds .any e = true := by
        unfold Region.binds
        cases hg : e.ground <;> first | rfl | (exact absurd hg (hg1 _)) | (exact absurd hg (hg2 _))
      rcases ancE_ok h with h | ⟨e', h1, h2⟩
      · have h' : Nat.testBit ((acc ||| 2 ^ e.on) ||| as.getD e.on 0) i = true := h
        rw [Nat.testBit_or, Nat.testBit_or, Nat.testBit_two_pow, Bool.or_eq_true, Bool.or_eq_true, decide_eq_true_eq] at h'
        rcases h' with (h' | h') | h'
        · exact .inl h'
        · exact .inr ⟨e, List.mem_cons_self, hb, .inl h'⟩
        · exact .inr ⟨e, List.mem_cons_self, hb, .inr h'⟩
      · exact .inr ⟨e', List.mem_cons_of_mem _ h1, h2⟩
theorem ancs_ok {ops : List Oper} : ∀ {l : List Oper} {as : List Nat}, (∀ j, l[j]? = ops[as.length + j]?) → (∀ m i, m < as.length → Nat.testBit (as.getD m 0) i = true → Bef ops i m) →
    ∀ m i, Nat.testBit ((ancs l as).getD m 0) i = true → Bef ops i m
  | [], as, _, h, m, i, hm => by
    simp only [ancs] at hm
    by_cases hl : m < as.length
    · exact h m i hl hm
    · have : as.getD m 0 = 0 := by simp [List.getD, List.getElem?_eq_none (Nat.le_of_not_lt hl)]
      rw [this] at hm; simp at hm
  | o :: l, as, hl, h, m, i, hm => by
    simp only [ancs] at hm
    refine ancs_ok (l := l) (as := as ++ [ancE o.after.toList as 0]) (fun j => ?_) (fun m' i' hm' ht => ?_) m i hm
    · have := hl (j + 1)
      simp only [List.getElem?_cons_succ] at this
      rw [this, List.length_append, List.length_singleton, show as.length + 1 + j = as.length + (j + 1) by omega]
    · by_cases hlt : m' < as.length
      · refine h m' i' hlt ?_
        rw [show (as ++ [ancE o.after.toList as 0]).getD m' 0 = as.getD m' 0 by simp [List.getD, List.getElem?_append_left hlt]] at ht
        exact ht
      · have hm0 : m' = as.length := by simp at hm'; omega
        subst hm0
        rw [show (as ++ [ancE o.after.toList as 0]).getD as.length 0 = ancE o.after.toList as 0 by simp [List.getD]] at ht
        have ho : ops[as.length]? = some o := by have := hl 0; simpa using this.symm
        rcases ancE_ok ht with h0 | ⟨e, he, hb, hon⟩
        · simp at h0
        · rcases hon with hon | hon
          · exact .one ho he hb hon
          · by_cases hlt' : e.on < as.length
            · exact .more ho he hb (h _ _ hlt' hon)
            · have : as.getD e.on 0 = 0 := by simp [List.getD, List.getElem?_eq_none (Nat.le_of_not_lt hlt')]
              rw [this] at hon; simp at hon
theorem okPairs_ok {ops : List Oper} {x : Oper} {i : Nat} : ∀ {l : List Oper} {as : List Nat}, okPairs ops x i l as = true → ∀ k o, l[k]? = some o → Nat.testBit (as.getD k 0) i = true ∨ apartT ops x o = true
  | [], _, _, k, o, h => by simp at h
  | _ :: _, [], h, _, _, _ => by cases h
  | y :: l, a :: as, h, k, o, hk => by
    simp only [okPairs, Bool.and_eq_true, Bool.or_eq_true] at h
    cases k with
    | zero => simp at hk; subst hk; exact h.1
    | succ k => exact okPairs_ok h.2 k o (by simpa using hk)
theorem okAll_ok {ops : List Oper} : ∀ {l : List Oper} {as : List Nat} {n : Nat}, okAll ops n l as = true → ∀ i j o o', i < j → l[i]? = some o → l[j]? = some o' → Nat.testBit (as.getD j 0) (n + i) = true ∨ apartT ops o o' = true
  | [], _, _, _, i, _, _, _, _, h, _ => by simp at h
  | _ :: _, [], _, h, _, _, _, _, _, _, _ => by cases h
  | y :: l, a :: as, n, h, i, j, o, o', hij, hi, hj => by
    simp only [okAll, Bool.and_eq_true] at h
    cases j with
    | zero => omega
    | succ j =>
      have hj' : l[j]? = some o' := by simpa using hj
      cases i with
      | zero =>
        simp at hi; subst hi
        have := okPairs_ok h.1 j o' hj'
        simpa using this
      | succ i =>
        have := okAll_ok h.2 i j o o' (by omega) (by simpa using hi) hj'
        rw [show n + 1 + i = n + (i + 1) by omega] at this
        simpa using this
theorem okPairsE_ok {x : Eff} {i : Nat} : ∀ {l : List Eff} {as : List Nat}, okPairsE x i l as = true → ∀ k o, l[k]? = some o → Nat.testBit (as.getD k 0) i = true ∨ apartS x o = true
  | [], _, _, k, o, h => by simp at h
  | _ :: _, [], h, _, _, _ => by cases h
  | y :: l, a :: as, h, k, o, hk => by
    have h' : (Bool.rec (Bool.rec false (okPairsE x i l as) (Nat.testBit a i)) (okPairsE x i l as) (apartS x y) : Bool) = true := h
    have key : okPairsE x i l as = true ∧ (Nat.testBit a i = true ∨ apartS x y = true) := by
      cases h1 : apartS x y
      · rw [h1] at h'
        cases h2 : Nat.testBit a i
        · rw [h2] at h'; cases h'
        · rw [h2] at h'; exact ⟨h', .inl rfl⟩
      · rw [h1] at h'; exact ⟨h', .inr rfl⟩
    cases k with
    | zero => simp at hk; subst hk; exact key.2
    | succ k => exact okPairsE_ok key.1 k o (by simpa using hk)
theorem okAllE_ok : ∀ {l : List Eff} {as : List Nat} {n : Nat}, okAllE l n as = true → ∀ i j o o', i < j → l[i]? = some o → l[j]? = some o' → Nat.testBit (as.getD j 0) (n + i) = true ∨ apartS o o' = true
  | [], _, _, _, i, _, _, _, _, h, _ => by simp at h
  | _ :: _, [], _, h, _, _, _, _, _, _, _ => by cases h
  | y :: l, a :: as, n, h, i, j, o, o', hij, hi, hj => by
    have h' : (Bool.rec false (okAllE l (n + 1) as) (okPairsE y n l as) : Bool) = true := h
    have key : okPairsE y n l as = true ∧ okAllE l (n + 1) as = true := by
      cases h1 : okPairsE y n l as
      · rw [h1] at h'; cases h'
      · rw [h1] at h'; exact ⟨rfl, h'⟩
    cases j with
    | zero => omega
    | succ j =>
      have hj' : l[j]? = some o' := by simpa using hj
      cases i with
      | zero =>
        simp at hi; subst hi
        have := okPairsE_ok key.1 j o' hj'
        simpa using this
      | succ i =>
        have := okAllE_ok key.2 i j o o' (by omega) (by simpa using hi) hj'
        rw [show n + 1 + i = n + (i + 1) by omega] at this
        simpa using this
theorem apartT_ok {ops : List Oper} {x y : Oper} (h : apartT ops x y = true) : (∀ d, x.dst = some d → d ∉ looksN ops y ∧ y.dst ≠ some d) ∧ (∀ d, y.dst = some d → d ∉ looksN ops x) := by
  unfold apartT at h
  simp only [Bool.and_eq_true] at h
  refine ⟨fun d hd => ?_, fun d hd => ?_⟩
  · have h1 := h.1
    rw [hd] at h1
    simp only [Bool.and_eq_true, Bool.not_eq_true'] at h1
    refine ⟨fun hm => ?_, fun hy => ?_⟩
    · rw [memN_iff.2 hm] at h1; cases h1.1
    · rw [hy] at h1
      simp only [Bool.not_eq_true'] at h1
      rw [beqN.2 rfl] at h1; cases h1.2
  · have h2 := h.2
    rw [hd] at h2
    simp only [Bool.not_eq_true'] at h2
    intro hm
    rw [memN_iff.2 hm] at h2; cases h2
theorem apartS_ok {x y : Eff} (h : apartS x y = true) : (∀ i, i ∈ fstsN x.ws → i ∉ y.rd ∧ i ∉ fstsN y.ws) ∧ (∀ i, i ∈ fstsN y.ws → i ∉ x.rd) := by
  have key : (x.ws = [] ∧ y.ws = []) ∨ (!meets (fstsN x.ws) y.rd && !meets (fstsN x.ws) (fstsN y.ws) && !meets x.rd (fstsN y.ws)) = true := by
    unfold apartS at h
    split at h
    · exact .inl ⟨by assumption, by assumption⟩
    · exact .inr h
  rcases key with ⟨h1, h2⟩ | h
  · rw [h1, h2]; simp [fstsN]
  · simp only [Bool.and_eq_true, Bool.not_eq_true'] at h
    obtain ⟨⟨h1, h2⟩, h3⟩ := h
    refine ⟨fun i hi => ⟨fun hm => ?_, fun hm => ?_⟩, fun i hi hm => ?_⟩
    · rw [meets_iff.2 ⟨i, hi, hm⟩] at h1; cases h1
    · rw [meets_iff.2 ⟨i, hi, hm⟩] at h2; cases h2
    · rw [meets_iff.2 ⟨i, hm, hi⟩] at h3; cases h3
theorem edgesOk_ok : ∀ {l : List Oper} {n : Nat}, edgesOk n l = true → ∀ k o, l[k]? = some o → ∀ e ∈ o.after.toList, Region.binds .any e = true → e.on < n + k
  | [], _, _, k, o, h => by simp at h
  | y :: l, n, h, k, o, hk => by
    simp only [edgesOk, Bool.and_eq_true] at h
    cases k with
    | zero =>
      simp at hk; subst hk
      intro e he hb
      have := List.all_eq_true.1 h.1 e he
      unfold Region.binds at hb
      split at this
      · rename_i hg; rw [hg] at hb; cases hb
      · rename_i hg; rw [hg] at hb; cases hb
      · rw [Nat.ble_eq] at this; omega
    | succ k =>
      intro e he hb
      have := edgesOk_ok h.2 k o (by simpa using hk) e he hb
      omega

end Go.Proofs.Ytaoeigofmfpamaa
end

/- A region that draws its order, the law. Nothing is assumed. -/
section
namespace Go.Proofs.Ytaoeigofmfpamaa
open Go

def cntD : Nat → (Nat → Bool) → Nat
  | 0, _ => 0
  | n + 1, D => cntD n D + (if D n then 0 else 1)
theorem cntD_same : ∀ {n : Nat} {D D' : Nat → Bool}, (∀ k, k < n → D' k = D k) → cntD n D' = cntD n D
  | 0, _, _, _ => rfl
  | n + 1, D, D', h => by simp only [cntD]; rw [cntD_same fun k hk => h k (by omega), h n (by omega)]
theorem cntD_add : ∀ {n : Nat} {D D' : Nat → Bool} {i : Nat}, i < n → D i = false → (∀ k, D' k = if k = i then true else D k) → cntD n D' + 1 = cntD n D
  | 0, _, _, _, h, _, _ => by omega
  | n + 1, D, D', i, hi, hD, h => by
    simp only [cntD]
    by_cases e : i = n
    · subst e
      rw [cntD_same (D := D) (D' := D') fun k hk => by rw [h, if_neg (by omega)], h, if_pos rfl, hD]
      simp
    · have := cntD_add (n := n) (by omega) hD h
      rw [h n, if_neg (Ne.symm e)]; omega
theorem cntD_zero : ∀ {n : Nat} {D : Nat → Bool}, cntD n D = 0 → ∀ k, k < n → D k = true
  | 0, _, _, k, hk => by omega
  | n + 1, D, h, k, hk => by
    simp only [cntD] at h
    by_cases e : k = n
    · subst e
      cases hd : D k
      · rw [hd] at h; simp at h
      · rfl
    · exact cntD_zero (n := n) (by omega) k (by omega)
theorem cntD_le : ∀ (n : Nat) (D : Nat → Bool), cntD n D ≤ n
  | 0, _ => Nat.le_refl _
  | n + 1, D => by have := cntD_le n D; simp only [cntD]; split <;> omega
theorem nx_le {cx : Cx} {N : Nat} {ops l : List Oper} {tm : Nat → SV} {sg : Nat → Option Seg} {next : Nat} {es : List Eff} (h : Steps cx N ops l tm sg next es) : ∀ k, nx es next k ≤ nx es next (k + 1) := by
  induction h with
  | nil => intro k; cases k <;> exact Nat.le_refl _
  | @skip o rest tm sg next es hd hw hs ih =>
    intro k
    cases k with
    | zero => cases es <;> exact Nat.le_refl _
    | succ k => exact ih k
  | @step o rest tm sg next e0 e es hd hw hsop hob hc hs ih =>
    intro k
    cases k with
    | zero =>
      have : next ≤ e.next := by rw [(conc_ws hc).2.1]; exact sop_next hsop
      cases es <;> exact this
    | succ k => exact ih k
theorem nx_mono {cx : Cx} {N : Nat} {ops l : List Oper} {tm : Nat → SV} {sg : Nat → Option Seg} {next : Nat} {es : List Eff} (h : Steps cx N ops l tm sg next es) : ∀ j k, j ≤ k → nx es next j ≤ nx es next k := by
  intro j k hjk
  induction k with
  | zero =>
    have e : j = 0 := by omega
    subst e
    exact Nat.le_refl _
  | succ k ih =>
    by_cases e : j = k + 1
    · subst e; exact Nat.le_refl _
    · exact Nat.le_trans (ih (by omega)) (nx_le h k)
theorem looks_op {ops : List Oper} {o : Oper} {t : Nat} (h : t ∉ looksN ops o) : Operand.tmp t ∉ o.op.operands.toList := fun hm => h (mem_looks hm)

section
variable {cx : Cx} (hO : cx.O = fops) (hC : ∀ f S, cx.orc f = some S → CallOK cx.P f S)
include hO hC
theorem wp_draw {N : Nat} {Lim : Rg} {w0 : World} {T0 : Nat → Nat → Prop} {Q : Exit → Act → World → Prop} {ops : Array Oper} {id : Nat} {tm : Nat → SV} {sg : Nat → Option Seg} {next : Nat} {es : List Eff} (hmx : cx.P.follows .mixedOrders = true) (hstat : static ops.toList = true)
    (hst : Steps cx N ops.toList ops.toList tm sg next es) (hEs : okAllE es 0 (ancs ops.toList []) = true) {E : EM} {a : Act} {w : World} (hr : SRel N Lim w0 T0 E tm sg next a w) (hlim : stN es next ≤ Lim.lim)
    (hQ : ∀ E' a' w', Ext E E' → SRel N Lim w0 T0 E' (stT ops.toList es tm) (stS es sg) (stN es next) a' w' → Q .normal a' w') : (Code.region id ops true).wp cx.P Q a w := by
  simp only [static, Bool.and_eq_true] at hstat
  obtain ⟨hed, hpr⟩ := hstat
  obtain ⟨hlen, hat⟩ := steps_at hst
  have hn : ops.toList.length = ops.size := by simp
  -- neither waits for the other: they do not meet
  have bef : ∀ i j, Nat.testBit ((ancs ops.toList []).getD j 0) i = true → Bef ops.toList i j := fun i j h => ancs_ok (ops := ops.toList) (l := ops.toList) (as := []) (by simp) (fun m i hm => by simp at hm) j i h
  have pairT : ∀ i j o o', i < j → ops.toList[i]? = some o → ops.toList[j]? = some o' → Bef ops.toList i j ∨ apartT ops.toList o o' = true := fun i j o o' hij hi hj => by
    have := okAll_ok hpr i j o o' hij hi hj
    rw [Nat.zero_add] at this
    exact this.imp (bef i j) fun h => h
  have pairS : ∀ i j e e', i < j → es[i]? = some e → es[j]? = some e' → Bef ops.toList i j ∨ apartS e e' = true := fun i j o o' hij hi hj => by
    have := okAllE_ok hEs i j o o' hij hi hj
    rw [Nat.zero_add] at this
    exact this.imp (bef i j) fun h => h
  refine wp_region_any hmx ?_
  -- the invariant
  let Inv : Array Bool → Act → World → Prop := fun listed a w =>
    listed.size = ops.size ∧ (∀ k o, ops.toList[k]? = some o → listed.getD k false = true → ∀ e ∈ o.after.toList, Region.binds .any e = true → listed.getD e.on false = true) ∧
    ∃ E', Ext E E' ∧ (∀ t, RelV E' (fl (fun k => listed.getD k false) ops.toList es tm t) (a.tmps.getD t undef)) ∧ a.tmps.size = N ∧ a.defers = [] ∧ MemRel w0 T0 E' (gl (fun k => listed.getD k false) es sg) w ∧
      (∀ i, E' i ≠ none → E i ≠ none ∨ ∃ k, k < ops.size ∧ listed.getD k false = true ∧ nx es next k ≤ i ∧ i < nx es next (k + 1))
  have closedB : ∀ {listed : Array Bool}, (∀ k o, ops.toList[k]? = some o → listed.getD k false = true → ∀ e ∈ o.after.toList, Region.binds .any e = true → listed.getD e.on false = true) → ∀ {i j}, Bef ops.toList i j → listed.getD j false = true → listed.getD i false = true := by
    intro listed hcl i j hb
    induction hb with
    | one ho he hbd hon => intro hj; rw [← hon]; exact hcl _ _ ho hj _ he hbd
    | more ho he hbd _ ih => intro hj; exact ih (hcl _ _ ho hj _ he hbd)
  have allDone : ∀ {listed : Array Bool}, listed.size = ops.size → Region.ready .any ops listed = [] → ∀ k, k < ops.size → listed.getD k false = true := by
    intro listed hsz hrd k
    induction k using Nat.strongRecOn with
    | _ k ih =>
      intro hk
      cases hd : listed.getD k false with
      | true => rfl
      | false =>
        exfalso
        have ho : ops[k]? = some ops[k] := by simp [hk]
        have hmem : k ∈ Region.ready .any ops listed := by
          refine mem_ready.2 ⟨?_, ops[k], ho, fun e he hb => ?_⟩
          · have hlt : k < listed.size := by omega
            simp only [Array.getD, hlt, dif_pos] at hd ⊢; exact hd
          · have := edgesOk_ok hed k ops[k] (by rw [Array.getElem?_toList]; exact ho) e (by simpa using he) hb
            rw [Nat.zero_add] at this
            exact ih e.on this (by omega)
        rw [hrd] at hmem; simp at hmem
  have final : ∀ {listed : Array Bool} {a : Act} {w : World}, Inv listed a w → Region.ready .any ops listed = [] → Q .normal a w := by
    rintro listed a' w' ⟨hsz, hcl, E', h1, h2, h3, h4, h5, h6⟩ hrd
    have hall := allDone hsz hrd
    refine hQ E' a' w' h1 ⟨fun t => ?_, h3, h4, ?_, fun i hi1 => ?_, hr.old, Nat.le_trans hr.bn (Steps.mono hst), Nat.le_trans hr.pos (Steps.mono hst)⟩
    · have := h2 t
      rw [fl_all _ _ _ _ fun k hk => hall k (by omega)] at this
      exact this
    · rw [gl_all _ _ _ fun k hk => hall k (by omega)] at h5; exact h5
    · have hnx := nx_all es next
      rcases h6 i hi1 with h7 | ⟨k, h7, _, h8, h9⟩
      · exact (hr.news i h7).imp (fun h => h) fun h4 => ⟨h4.1, Nat.lt_of_lt_of_le h4.2 (Steps.mono hst)⟩
      · have e1 := nx_mono hst (k + 1) es.length (by omega)
        have e2 : next ≤ nx es next k := by have := nx_mono hst 0 k (Nat.zero_le _); cases es <;> exact this
        exact .inr ⟨Nat.le_trans hr.bn (Nat.le_trans e2 h8), by omega⟩
  have main : ∀ (fuel : Nat) (listed : Array Bool) (a : Act) (w : World), Inv listed a w → cntD ops.size (fun k => listed.getD k false) ≤ fuel → wpAny cx.P .any ops Q fuel listed a w := by
    intro fuel
    induction fuel with
    | zero =>
      intro listed a w hinv hc
      have hrd : Region.ready .any ops listed = [] := by
        cases hh : Region.ready .any ops listed with
        | nil => rfl
        | cons i r =>
          exfalso
          have hi : i ∈ Region.ready .any ops listed := by rw [hh]; simp
          obtain ⟨h1, o, ho, _⟩ := mem_ready.1 hi
          have hlt : i < ops.size := (Array.getElem?_eq_some_iff.1 ho).1
          have := cntD_zero (Nat.le_zero.1 hc) i hlt
          have hls : i < listed.size := by rw [hinv.1]; exact hlt
          simp only [Array.getD, hls, dif_pos] at h1 this
          rw [h1] at this; cases this
      exact ⟨hrd, final hinv hrd⟩
    | succ fuel ih =>
      intro listed a w hinv hc
      refine ⟨fun hrd => final hinv hrd, fun i hi => ?_⟩
      obtain ⟨hun, o, ho, hpre⟩ := mem_ready.1 hi
      have hlt : i < ops.size := (Array.getElem?_eq_some_iff.1 ho).1
      obtain ⟨hsz, hcl, E', h1, h2, h3, h4, h5, h6⟩ := hinv
      have hoL : ops.toList[i]? = some o := by rw [Array.getElem?_toList]; exact ho
      have hls : i < listed.size := by rw [hsz]; exact hlt
      have hDi : listed.getD i false = false := by
        simp only [Array.getD, hls, dif_pos] at hun ⊢; exact hun
      have hD' : ∀ k, (listed.setIfInBounds i true).getD k false = if k = i then true else listed.getD k false := by
        intro k
        by_cases e : k = i
        · subst e
          rw [if_pos rfl]
          have : k < (listed.setIfInBounds k true).size := by simpa using hls
          simp [Array.getD, hls]
        · rw [if_neg e, getD_set_ne false (Ne.symm e)]
      have befL : ∀ j, Bef ops.toList j i → listed.getD j false = true := by
        intro j hb
        cases hb with
        | one ho' he hbd hon => rw [hoL] at ho'; cases ho'; rw [← hon]; exact hpre _ (by simpa using he) hbd
        | more ho' he hbd hb' => rw [hoL] at ho'; cases ho'; exact closedB hcl hb' (hpre _ (by simpa using he) hbd)
      obtain ⟨e, hei, hd, hcase⟩ := hat i o hoL
      have later : ∀ k o', i < k → ops.toList[k]? = some o' → listed.getD k false = true → apartT ops.toList o o' = true := by
        intro k o' hik hk hdone
        rcases pairT i k o o' hik hoL hk with hb | hb
        · have := closedB hcl hb hdone; rw [hDi] at this; cases this
        · exact hb
      have laterS : ∀ k e', i < k → es[k]? = some e' → listed.getD k false = true → apartS e e' = true := by
        intro k e' hik hk hdone
        rcases pairS i k e e' hik hei hk with hb | hb
        · have := closedB hcl hb hdone; rw [hDi] at this; cases this
        · exact hb
      -- what it looks at is as in the text's order
      have agreeT : ∀ t, t ∈ looksN ops.toList o → fl (fun k => listed.getD k false) ops.toList es tm t = fl (fun j => decide (j < i)) ops.toList es tm t := by
        intro t ht
        refine fl_agree _ _ _ _ _ _ t rfl fun k o' hk hdst => ?_
        rcases Nat.lt_trichotomy k i with hki | hki | hki
        · rw [show decide (k < i) = true by simp [hki]]
          rcases pairT k i o' o hki hk hoL with hb | hb
          · exact befL k hb
          · exact absurd ht ((apartT_ok hb).1 t hdst).1
        · subst hki; simp [hDi]
        · rw [show decide (k < i) = false by simp; omega]
          cases hd : listed.getD k false with
          | false => rfl
          | true => exact absurd ht ((apartT_ok (later k o' hki hk hd)).2 t hdst)
      have agreeS : ∀ x, x ∈ e.rd → gl (fun k => listed.getD k false) es sg x = gl (fun j => decide (j < i)) es sg x := by
        intro x hx
        refine gl_agree _ _ _ _ _ x rfl fun k e' hk hws => ?_
        rcases Nat.lt_trichotomy k i with hki | hki | hki
        · rw [show decide (k < i) = true by simp [hki]]
          rcases pairS k i e' e hki hk hei with hb | hb
          · exact befL k hb
          · exact absurd hx ((apartS_ok hb).1 x hws).1
        · subst hki; simp [hDi]
        · rw [show decide (k < i) = false by simp; omega]
          cases hd : listed.getD k false with
          | false => rfl
          | true => exact absurd hx ((apartS_ok (laterS k e' hki hk hd)).2 x hws)
      have hfl := fl_add ops.toList es (fun k => listed.getD k false) (fun k => (listed.setIfInBounds i true).getD k false) i o e tm hoL hei hDi hD' (fun k o' hik hk hdone x hx => ((apartT_ok (later k o' hik hk hdone)).1 x hx).2)
      have hgl := gl_add es (fun k => listed.getD k false) (fun k => (listed.setIfInBounds i true).getD k false) i e sg hei hDi hD' (fun k e' hik hk hdone x hx => ((apartS_ok (laterS k e' hik hk hdone)).1 x hx).2)
      have hcnt : cntD ops.size (fun k => (listed.setIfInBounds i true).getD k false) ≤ fuel := by
        have := cntD_add (n := ops.size) hlt hDi hD'; omega
      have hcl' : ∀ k o, ops.toList[k]? = some o → (listed.setIfInBounds i true).getD k false = true → ∀ e ∈ o.after.toList, Region.binds .any e = true → (listed.setIfInBounds i true).getD e.on false = true := by
        intro k o' hk hdone e' he hb
        rw [hD'] at hdone
        rw [hD']
        split
        · rfl
        · by_cases ek : k = i
          · subst ek; rw [hoL] at hk; cases hk; exact hpre _ (by simpa using he) hb
          · rw [if_neg ek] at hdone; exact hcl k o' hk hdone e' he hb
      have hnx : nx es next (i + 1) = e.next := nx_succ es next i e hei
      rcases hcase with ⟨hw, hes⟩ | ⟨hw, e0, hsop, hob, hc⟩
      · -- it is passed over
        rw [← wanted_congr agreeT] at hw
        refine skip_ok ho h2 hw (ih _ _ _ ⟨by simpa using hsz, hcl', E', h1, fun t => ?_, by rw [put_size]; exact h3, by rw [put_defers]; exact h4, ?_, fun x hx => ?_⟩ hcnt)
        · rw [hfl]
          exact appT_rel (Ext.refl E') h2 h3 hd (by rw [hes]; rfl) t
        · rw [hgl, hes]; exact h5
        · rcases h6 x hx with h7 | ⟨k, h7, h8, h9⟩
          · exact .inl h7
          · exact .inr ⟨k, h7, by rw [hD']; split <;> first | rfl | exact h8, h9⟩
      · rw [← wanted_congr agreeT] at hw
        obtain ⟨c1, c2, c3⟩ := conc_ws hc
        have hsop' : sop cx (fl (fun k => listed.getD k false) ops.toList es tm) (gl (fun k => listed.getD k false) es sg) (nx es next i) o.op = some e0 :=
          sop_congr hsop (fun t ht => agreeT t (mem_looks ht)) (fun x hx => agreeS x (by rw [c3]; exact hx))
        have hpos : 1 ≤ nx es next i := Nat.le_trans hr.pos (by have := nx_mono hst 0 i (Nat.zero_le _); cases es <;> exact this)
        have hstart : next ≤ nx es next i := by have := nx_mono hst 0 i (Nat.zero_le _); cases es <;> exact this
        have hend : nx es next (i + 1) ≤ Lim.lim := by
          have := nx_mono hst (i + 1) es.length (by omega)
          rw [nx_all] at this; omega
        refine op_ok hO hC (N := N) ho h2 h5 hpos hw hsop' hob hc (fun x hx1 hx2 => ?_) fun E'' v w' p1 p2 p3 p4 => ?_
        · cases hE : E' x with
          | none => rfl
          | some y =>
            exfalso
            rcases h6 x (by rw [hE]; simp) with h7 | ⟨k, h7, h8, h9, h10⟩
            · exact h7 (hr.fresh x (by omega) (by omega))
            · rcases Nat.lt_trichotomy k i with hki | hki | hki
              · have := nx_mono hst (k + 1) i (by omega); omega
              · subst hki; rw [hDi] at h8; cases h8
              · have := nx_mono hst (i + 1) k (by omega); omega
        · refine ih _ _ _ ⟨by simpa using hsz, hcl', E'', h1.trans p1, fun t => ?_, by rw [put_size]; exact h3, by rw [put_defers]; exact h4, ?_, fun x hx => ?_⟩ hcnt
          · rw [hfl]; exact appT_rel p1 h2 h3 hd p3 t
          · rw [hgl]; exact p4
          · rcases p2 x hx with h7 | ⟨h7, h8⟩
            · rcases h6 x h7 with h9 | ⟨k, h9, h10, h11⟩
              · exact .inl h9
              · exact .inr ⟨k, h9, by rw [hD']; split <;> first | rfl | exact h10, h11⟩
            · exact .inr ⟨i, hlt, by rw [hD', if_pos rfl], h7, by rw [hnx]; exact h8⟩
  have hD0 : ∀ k, (Array.replicate ops.size false).getD k false = false := by
    intro k
    simp [Array.getD_eq_getD_getElem?, Array.getElem?_replicate]
    split <;> rfl
  refine main ops.size _ a _ ⟨by simp, fun k o hk hd => (by rw [hD0] at hd; cases hd), E, Ext.refl E, fun t => ?_, hr.size, hr.dfr, ?_, fun i hi => .inl hi⟩ (cntD_le _ _)
  · rw [fl_none _ _ _ _ hD0]; exact hr.tm t
  · rw [gl_none _ _ _ hD0]
    exact hr.mem.congr rfl rfl rfl
end

end Go.Proofs.Ytaoeigofmfpamaa
end

/- Code. Nothing is assumed. -/
section
namespace Go.Proofs.Ytaoeigofmfpamaa
open Go

/-- The way that is gone: the first whose test holds. -/
def sel : List (SB × XK × Top) → Option Top → Option (Option XK × Top)
  | [], some T => some (none, T)
  | [], none => none
  | (c, k, T) :: l, n => if c.val then some (some k, T) else sel l n
def exitOf : Option XK → Exit
  | none => .normal
  | some .ret => .ret
  | some (.exit id) => .exit id
def Post (N : Nat) (Lim : Rg) (w0 : World) (T0 : Nat → Nat → Prop) (E : EM) (R : List Ly) (k : Option XK) (T : Top) : Exit → Act → World → Prop := fun e a w =>
  e = exitOf k ∧ ∃ E', Ext E E' ∧ SRel N Lim w0 T0 E' (getT (T.ly :: R)) (getS (T.ly :: R)) T.next a w
/-- What 'f' says of 'c'. -/
def CodeOK (P : Program) (N : Nat) (c : Code) (f : List Ly → Top → Option Outs) : Prop := ∀ R T o, f R T = some o → AllT o.obs →
  ∃ k T', sel o.abr o.nrm = some (k, T') ∧ T.next ≤ T'.next ∧ ∀ (Lim : Rg) (w0 : World) (T0 : Nat → Nat → Prop) (E : EM) (a : Act) (w : World),
    SRel N Lim w0 T0 E (getT (T.ly :: R)) (getS (T.ly :: R)) T.next a w → T'.next ≤ Lim.lim → c.wp P (Post N Lim w0 T0 E R k T') a w
theorem SB.and_val (b c : SB) : (b.and c).val = (b.val && c.val) := by cases b <;> cases c <;> simp [SB.and, SB.val]

/-! ### which way -/
theorem sel_app {l m : List (SB × XK × Top)} {n n' : Option Top} : ∀ {k : Option XK} {T : Top}, sel l n = some (k, T) → (k.isSome = true → sel (l ++ m) n' = some (k, T)) ∧ (k = none → n = some T ∧ sel (l ++ m) n' = sel m n') := by
  induction l with
  | nil =>
    intro k T h
    cases n with
    | none => cases h
    | some T1 => cases h; exact ⟨fun h => (by cases h), fun _ => ⟨rfl, rfl⟩⟩
  | cons p l ih =>
    obtain ⟨c, j, T1⟩ := p
    intro k T h
    simp only [sel, List.cons_append] at h ⊢
    by_cases hc : c.val = true
    · rw [if_pos hc] at h ⊢
      cases h
      exact ⟨fun _ => rfl, fun h => by cases h⟩
    · rw [if_neg hc] at h ⊢
      exact ih h
theorem sel_none {l : List (SB × XK × Top)} {n : Option Top} {T : Top} (h : sel l n = some (none, T)) : n = some T ∧ ∀ b, orAny l b = b := by
  induction l with
  | nil =>
    cases n with
    | none => cases h
    | some T1 => cases h; exact ⟨rfl, fun _ => rfl⟩
  | cons p l ih =>
    obtain ⟨c, j, T1⟩ := p
    simp only [sel] at h
    by_cases hc : c.val = true
    · rw [if_pos hc] at h; cases h
    · rw [if_neg hc] at h
      obtain ⟨h1, h2⟩ := ih h
      refine ⟨h1, fun b => ?_⟩
      show (c.val || orAny l b) = b
      rw [h2]; cases hv : c.val
      · rfl
      · exact absurd hv hc
theorem guard_ok {l : List (SB × XK × Top)} {n : Option Top} {T : Top} {ob : List Bool} (h : sel l n = some (none, T)) (hob : AllT (guardObs l ob)) : AllT ob := by
  cases l with
  | nil => exact hob
  | cons p l =>
    intro b hb
    have := hob (orAny (p :: l) b) (List.mem_map.2 ⟨b, hb, rfl⟩)
    rwa [(sel_none h).2] at this
theorem sel_lift_t {b : SB} (hb : b.val = true) (T : Top) {n n' : Option Top} {m : List (SB × XK × Top)} : ∀ {l : List (SB × XK × Top)} {k : Option XK} {T' : Top}, sel l n = some (k, T') →
    (∀ j, k = some j → sel (lift T b l ++ m) n' = some (some j, commit T T')) ∧ (k = none → n = some T' ∧ sel (lift T b l ++ m) n' = sel m n')
  | [], k, T', h => by
    cases n with
    | none => cases h
    | some T1 => cases h; exact ⟨fun _ h => (by cases h), fun _ => ⟨rfl, rfl⟩⟩
  | (c, i, T1) :: l, k, T', h => by
    have ih := sel_lift_t hb T (n := n) (n' := n') (m := m) (l := l) (k := k) (T' := T')
    simp only [sel, lift, List.cons_append, SB.and_val, hb, Bool.true_and] at h ⊢
    by_cases hc : c.val = true
    · rw [if_pos hc] at h ⊢
      cases h
      exact ⟨fun j hj => (by cases hj; rfl), fun h => by cases h⟩
    · rw [if_neg hc] at h ⊢
      exact ih h
theorem sel_lift_f {b : SB} (hb : b.val = false) (T : Top) {n : Option Top} {m : List (SB × XK × Top)} : ∀ {l : List (SB × XK × Top)}, sel (lift T b l ++ m) n = sel m n
  | [] => rfl
  | (c, i, T1) :: l => by
    simp only [lift, List.cons_append, sel, SB.and_val, hb, Bool.false_and, Bool.false_eq_true, if_false]
    exact sel_lift_f hb T
theorem sel_andNot_t {c : SB} (hc : c.val = true) {n : Option Top} : ∀ {l : List (SB × XK × Top)}, sel (andNot c l) n = sel [] n
  | [] => rfl
  | (d, k, T) :: l => by
    simp only [andNot]
    rw [sel]
    simp only [SB.and_val, SB.not_val, hc, Bool.not_true, Bool.false_and, Bool.false_eq_true, if_false]
    exact sel_andNot_t hc
theorem sel_andNot_f {c : SB} (hc : c.val = false) {n : Option Top} : ∀ {l : List (SB × XK × Top)}, sel (andNot c l) n = sel l n
  | [] => rfl
  | (d, k, T) :: l => by
    simp only [andNot, sel, SB.and_val, SB.not_val, hc, Bool.not_false, Bool.true_and]
    rw [sel_andNot_f hc]
theorem sel_norm {l : List (SB × XK × Top)} {n n' : Option Top} {k : XK} {T : Top} (h : sel l n = some (some k, T)) : sel l n' = some (some k, T) := by
  induction l with
  | nil => cases n <;> cases h
  | cons p l ih =>
    obtain ⟨c, j, T1⟩ := p
    simp only [sel] at h ⊢
    by_cases hc : c.val = true
    · rw [if_pos hc] at h ⊢; exact h
    · rw [if_neg hc] at h ⊢; exact ih h
theorem sel_norm0 {l : List (SB × XK × Top)} {n : Option Top} {T T' : Top} (h : sel l n = some (none, T)) : sel l (some T') = some (none, T') := by
  induction l with
  | nil => rfl
  | cons p l ih =>
    obtain ⟨c, j, T1⟩ := p
    simp only [sel] at h ⊢
    by_cases hc : c.val = true
    · rw [if_pos hc] at h; cases h
    · rw [if_neg hc] at h ⊢; exact ih h
def outK (id : Nat) : Option XK → Option XK
  | some (.exit j) => if j = id then none else some (.exit j)
  | k => k
def LeT (R : List Ly) (T T' : Top) : Prop := Le (getT (T.ly :: R)) (getS (T.ly :: R)) (getT (T'.ly :: R)) (getS (T'.ly :: R)) ∧ T.next ≤ T'.next
theorem LeT.refl (R : List Ly) (T : Top) : LeT R T T := ⟨Le.refl _ _, Nat.le_refl _⟩
theorem isX_iff {id : Nat} {k : XK} : (isX id k = true → outK id (some k) = none) ∧ (isX id k = false → outK id (some k) = some k) := by
  cases k with
  | ret => exact ⟨fun h => (by cases h), fun _ => rfl⟩
  | exit j =>
    refine ⟨fun h => ?_, fun h => ?_⟩
    · show (if j = id then none else some (XK.exit j)) = none
      rw [if_pos (beqN.1 h)]
    · show (if j = id then none else some (XK.exit j)) = some (.exit j)
      rw [if_neg fun e => by rw [show isX id (.exit j) = true from beqN.2 e] at h; cases h]
theorem joinX_ok (R : List Ly) (id : Nat) : ∀ {l : List (SB × XK × Top)} {n : Option Top} {k : Option XK} {T : Top}, sel l n = some (k, T) → ∃ T', sel (joinX R id l n).1 (joinX R id l n).2 = some (outK id k, T') ∧ LeT R T T'
  | [], n, k, T, h => by
    cases n with
    | none => cases h
    | some T1 => cases h; exact ⟨T, rfl, LeT.refl R T⟩
  | (c, j, T1) :: l, n, k, T, h => by
    have ih : sel l n = some (k, T) → _ := fun h => joinX_ok R id (l := l) (n := n) (k := k) (T := T) h
    simp only [joinX]
    rcases hj : joinX R id l n with ⟨l', n'⟩
    rw [hj] at ih
    simp only [sel] at h
    cases hx : isX id j with
    | false =>
      simp only [sel]
      by_cases hc : c.val = true
      · rw [if_pos hc] at h ⊢
        cases h
        exact ⟨T1, by rw [isX_iff.2 hx], LeT.refl R T1⟩
      · rw [if_neg hc] at h ⊢
        exact ih h
    | true =>
      cases n' with
      | none =>
        cases c with
        | t =>
          rw [if_pos (show SB.val _ = true from rfl)] at h
          cases h
          exact ⟨T1, by simp only [sel]; rw [isX_iff.1 hx], LeT.refl R T1⟩
        | f =>
          rw [if_neg (by simp [SB.val])] at h
          obtain ⟨T', h1, h2⟩ := ih h
          refine ⟨T', ?_, h2⟩
          simp only
          rw [sel_andNot_f rfl]
          cases hk : outK id k with
          | none =>
            rw [hk] at h1
            have := (sel_none h1).1
            cases this
          | some q => rw [hk] at h1; exact sel_norm h1
        | s b =>
          cases b with
          | true =>
            rw [if_pos (show SB.val _ = true from rfl)] at h
            cases h
            refine ⟨T1, ?_, LeT.refl R T1⟩
            simp only
            rw [sel_andNot_t rfl, isX_iff.1 hx]; rfl
          | false =>
            rw [if_neg (by simp [SB.val])] at h
            obtain ⟨T', h1, h2⟩ := ih h
            refine ⟨T', ?_, h2⟩
            simp only
            rw [sel_andNot_f rfl]
            cases hk : outK id k with
            | none =>
              rw [hk] at h1
              have := (sel_none h1).1
              cases this
            | some q => rw [hk] at h1; exact sel_norm h1
      | some T2 =>
        cases c with
        | t =>
          rw [if_pos (show SB.val _ = true from rfl)] at h
          cases h
          exact ⟨T1, by simp only [sel]; rw [isX_iff.1 hx], LeT.refl R T1⟩
        | f =>
          rw [if_neg (by simp [SB.val])] at h
          exact ih h
        | s b =>
          cases b with
          | true =>
            rw [if_pos (show SB.val _ = true from rfl)] at h
            cases h
            refine ⟨mergeTop true R T1 T2, ?_, mergeTop_le1 R T1 T2 rfl, by rw [mergeTop_next]; exact Nat.le_max_left _ _⟩
            simp only
            rw [sel_andNot_t rfl, isX_iff.1 hx]; rfl
          | false =>
            rw [if_neg (by simp [SB.val])] at h
            obtain ⟨T', h1, h2⟩ := ih h
            simp only
            rw [sel_andNot_f rfl]
            cases hk : outK id k with
            | none =>
              rw [hk] at h1
              have e := (sel_none h1).1
              cases e
              refine ⟨mergeTop false R T1 T2, sel_norm0 h1, h2.1.trans (mergeTop_le2 R T1 T2 rfl), Nat.le_trans h2.2 (by rw [mergeTop_next]; exact Nat.le_max_right _ _)⟩
            | some q =>
              rw [hk] at h1
              exact ⟨T', sel_norm h1, h2⟩
theorem sel_commit (T : Top) : ∀ {l : List (SB × XK × Top)} {n : Option Top} {k : Option XK} {T' : Top}, sel l n = some (k, T') → sel (commitAll T l) (commitO T n) = some (k, commit T T')
  | [], n, k, T', h => by
    cases n with
    | none => cases h
    | some T1 => cases h; rfl
  | (c, j, T1) :: l, n, k, T', h => by
    simp only [commitAll, sel] at h ⊢
    by_cases hc : c.val = true
    · rw [if_pos hc] at h ⊢; cases h; rfl
    · rw [if_neg hc] at h ⊢; exact sel_commit T h

theorem Post.le {N : Nat} {Lim : Rg} {w0 : World} {T0 : Nat → Nat → Prop} {E : EM} {R R' : List Ly} {k : Option XK} {T T' : Top} {e : Exit} {a : Act} {w : World} (h : Post N Lim w0 T0 E R k T e a w)
    (l : Le (getT (T.ly :: R)) (getS (T.ly :: R)) (getT (T'.ly :: R')) (getS (T'.ly :: R'))) (hn : T.next ≤ T'.next) : Post N Lim w0 T0 E R' k T' e a w := by
  obtain ⟨h1, E', h2, h3⟩ := h
  exact ⟨h1, E', h2, h3.le l hn⟩
theorem SRel.over {N : Nat} {Lim : Rg} {w0 : World} {T0 : Nat → Nat → Prop} {E : EM} {T : Top} {R : List Ly} {a : Act} {w : World} (h : SRel N Lim w0 T0 E (getT (T.ly :: R)) (getS (T.ly :: R)) T.next a w) :
    SRel N Lim w0 T0 E (getT ((Top.empty T.next).ly :: T.ly :: R)) (getS ((Top.empty T.next).ly :: T.ly :: R)) (Top.empty T.next).next a w := by
  rw [getT_empty, getS_empty]; exact h

/-! ### the ways to go on -/
theorem seq_ok {P : Program} {N : Nat} {x y : Code} {f g : List Ly → Top → Option Outs} (hx : CodeOK P N x f) (hy : CodeOK P N y g) : CodeOK P N (.seq x y) (fun R T => sSeq R T f g) := by
  intro R T o h hob
  simp only [sSeq] at h
  split at h <;> try (cases h; done)
  rename_i oa ha
  cases hn : oa.nrm with
  | none =>
    rw [hn] at h; cases h
    obtain ⟨k, T', h1, h2, h3⟩ := hx R T o ha hob
    refine ⟨k, T', h1, h2, fun Lim w0 T0 E a w hr hl => wp_seq (wp_mono (h3 Lim w0 T0 E a w hr hl) fun e a' w' hp => ?_)⟩
    cases k with
    | none => rw [hn] at h1; exact absurd (sel_none h1).1 (by simp)
    | some k => cases k <;> (obtain ⟨rfl, hp⟩ := hp; exact ⟨rfl, hp⟩)
  | some T1 =>
    rw [hn] at h
    (try simp only at h)
    split at h <;> cases h
    rename_i ob hb
    obtain ⟨hoa, hob2⟩ := AllT.append (show AllT (oa.obs ++ guardObs oa.abr ob.obs) from hob)
    obtain ⟨k, T', h1, h2, h3⟩ := hx R T oa ha hoa
    cases k with
    | some k =>
      refine ⟨some k, T', (sel_app h1).1 rfl, h2, fun Lim w0 T0 E a w hr hl => wp_seq (wp_mono (h3 Lim w0 T0 E a w hr hl) fun e a' w' hp => ?_)⟩
      cases k <;> (obtain ⟨rfl, hp⟩ := hp; exact ⟨rfl, hp⟩)
    | none =>
      have e1 := (sel_none h1).1
      rw [hn] at e1
      cases e1
      obtain ⟨k, T2, g1, g2, g3⟩ := hy R T1 ob hb (guard_ok h1 hob2)
      refine ⟨k, T2, ((sel_app h1).2 rfl).2.trans g1, Nat.le_trans h2 g2, fun Lim w0 T0 E a w hr hl => wp_seq (wp_mono (h3 Lim w0 T0 E a w hr (Nat.le_trans g2 hl)) fun e a' w' hp => ?_)⟩
      obtain ⟨rfl, E', he, hr'⟩ := hp
      refine wp_mono (g3 Lim w0 T0 E' a' w' hr' hl) fun e a'' w'' hp => ?_
      obtain ⟨p1, E'', p2, p3⟩ := hp
      exact ⟨p1, E'', he.trans p2, p3⟩
theorem block_ok {P : Program} {N : Nat} {x : Code} {f : List Ly → Top → Option Outs} (hx : CodeOK P N x f) (id : Nat) : CodeOK P N (.block id x) (fun R T => sBlock id R T f) := by
  intro R T o h hob
  simp only [sBlock] at h
  split at h <;> try (cases h; done)
  rename_i ob hb
  cases h
  obtain ⟨k, T', h1, h2, h3⟩ := hx _ _ ob hb hob
  obtain ⟨T2, j1, j2, j3⟩ := joinX_ok (T.ly :: R) id h1
  refine ⟨outK id k, commit T T2, sel_commit T j1, by rw [commit_next]; exact Nat.le_trans h2 j3, fun Lim w0 T0 E a w hr hl => wp_block (wp_mono (h3 Lim w0 T0 E a w hr.over (Nat.le_trans j3 (by rw [commit_next] at hl; exact hl))) fun e a' w' hp => ?_)⟩
  have hp' : Post N Lim w0 T0 E R k (commit T T2) e a' w' := hp.le (j2.trans (commit_le T T2 R)) (by rw [commit_next]; exact j3)
  obtain ⟨rfl, hp'⟩ := hp'
  cases k with
  | none => exact ⟨rfl, hp'⟩
  | some k =>
    cases k with
    | ret => exact ⟨rfl, hp'⟩
    | exit j =>
      show (if j = id then Post N Lim w0 T0 E R (outK id (some (.exit j))) (commit T T2) .normal a' w' else Post N Lim w0 T0 E R (outK id (some (.exit j))) (commit T T2) (.exit j) a' w')
      by_cases e : j = id
      · rw [if_pos e]; exact ⟨by simp [outK, e, exitOf], hp'⟩
      · rw [if_neg e]; exact ⟨by simp [outK, e, exitOf], hp'⟩
theorem scope_ok {P : Program} {N : Nat} {x : Code} {f : List Ly → Top → Option Outs} (hx : CodeOK P N x f) : CodeOK P N (.scope x) f := by
  intro R T o h hob
  obtain ⟨k, T', h1, h2, h3⟩ := hx R T o h hob
  refine ⟨k, T', h1, h2, fun Lim w0 T0 E a w hr hl => wp_scope_straight (wp_mono (h3 Lim w0 T0 E a w hr hl) fun e a' w' hp => ?_)⟩
  obtain ⟨rfl, hp⟩ := hp
  cases k with
  | none => exact ⟨rfl, hp⟩
  | some k => cases k <;> exact ⟨rfl, hp⟩
theorem rounds_ok {P : Program} {N : Nat} {x : Code} {f : List Ly → Top → Option Outs} (hx : CodeOK P N x f) : ∀ (n : Nat) (R : List Ly) (T : Top) (o : Outs), iter f R n T = some o → AllT o.obs →
    ∃ k T', sel o.abr o.nrm = some (k, T') ∧ T.next ≤ T'.next ∧ ∀ (Lim : Rg) (w0 : World) (T0 : Nat → Nat → Prop) (E : EM) (a : Act) (w : World), SRel N Lim w0 T0 E (getT (T.ly :: R)) (getS (T.ly :: R)) T.next a w → T'.next ≤ Lim.lim → Code.rounds P x (Post N Lim w0 T0 E R k T') n a w := by
  intro n
  induction n with
  | zero => intro R T o h; cases h
  | succ n ih =>
    intro R T o h hob
    replace h : (match f R T with
      | none => none
      | some oa => match oa.nrm with
        | none => some oa
        | some T1 => match iter f R n T1 with
          | some ob => some (seqO oa ob)
          | none => none) = some o := h
    split at h <;> try (cases h; done)
    rename_i oa ha
    cases hn : oa.nrm with
    | none =>
      rw [hn] at h; cases h
      obtain ⟨k, T', h1, h2, h3⟩ := hx R T o ha hob
      refine ⟨k, T', h1, h2, fun Lim w0 T0 E a w hr hl => ?_⟩
      rw [rounds_succ]
      refine wp_mono (h3 Lim w0 T0 E a w hr hl) fun e a' w' hp => ?_
      cases k with
      | none => rw [hn] at h1; exact absurd (sel_none h1).1 (by simp)
      | some k => cases k <;> (obtain ⟨rfl, hp⟩ := hp; exact ⟨rfl, hp⟩)
    | some T1 =>
      rw [hn] at h
      (try simp only at h)
      split at h <;> cases h
      rename_i ob hb
      obtain ⟨hoa, hob2⟩ := AllT.append (show AllT (oa.obs ++ guardObs oa.abr ob.obs) from hob)
      obtain ⟨k, T', h1, h2, h3⟩ := hx R T oa ha hoa
      cases k with
      | some k =>
        refine ⟨some k, T', (sel_app h1).1 rfl, h2, fun Lim w0 T0 E a w hr hl => ?_⟩
        rw [rounds_succ]
        refine wp_mono (h3 Lim w0 T0 E a w hr hl) fun e a' w' hp => ?_
        cases k <;> (obtain ⟨rfl, hp⟩ := hp; exact ⟨rfl, hp⟩)
      | none =>
        have e1 := (sel_none h1).1
        rw [hn] at e1
        cases e1
        obtain ⟨k, T2, g1, g2, g3⟩ := ih R T1 ob hb (guard_ok h1 hob2)
        refine ⟨k, T2, ((sel_app h1).2 rfl).2.trans g1, Nat.le_trans h2 g2, fun Lim w0 T0 E a w hr hl => ?_⟩
        rw [rounds_succ]
        refine wp_mono (h3 Lim w0 T0 E a w hr (Nat.le_trans g2 hl)) fun e a' w' hp => ?_
        obtain ⟨rfl, E', he, hr'⟩ := hp
        show Code.rounds P x (Post N Lim w0 T0 E R k T2) n a' w'
        have hmono : ∀ (n : Nat) (a : Act) (w : World), Code.rounds P x (Post N Lim w0 T0 E' R k T2) n a w → Code.rounds P x (Post N Lim w0 T0 E R k T2) n a w := by
          intro n
          induction n with
          | zero => intro a w h; exact h
          | succ n ihn =>
            intro a w h
            rw [rounds_succ] at h ⊢
            refine wp_mono h fun e a'' w'' hp => ?_
            cases e with
            | normal => exact ihn _ _ hp
            | _ => obtain ⟨p1, E'', p2, p3⟩ := hp; exact ⟨p1, E'', he.trans p2, p3⟩
        exact hmono n a' w' (g3 Lim w0 T0 E' a' w' hr' hl)
theorem loop_ok {P : Program} {N : Nat} {x : Code} {f : List Ly → Top → Option Outs} (hx : CodeOK P N x f) (n : Nat) : CodeOK P N (.loop x) (fun R T => iter f R n T) := by
  intro R T o h hob
  obtain ⟨k, T', h1, h2, h3⟩ := rounds_ok hx n R T o h hob
  exact ⟨k, T', h1, h2, fun Lim w0 T0 E a w hr hl => wp_loop_rounds n (h3 Lim w0 T0 E a w hr hl)⟩
theorem evC_eval {E : EM} {gt : Nat → SV} {a : Act} (hT : ∀ t, RelV E (gt t) (a.tmps.getD t undef)) {c : Operand} {x : SC} (h : evC gt c = some x) : RelC E x (a.eval c) := by
  unfold evC at h
  split at h <;> cases h
  rename_i hv
  exact ev_ok hT hv
theorem cond_ok {P : Program} {N : Nat} {h : Hn} {x y : Code} {f g : List Ly → Top → Option Outs} (hx : CodeOK P N x f) (hy : CodeOK P N y g) (c : Operand) : CodeOK P N (.cond c x y) (fun R T => sCond h T R c f g) := by
  intro R T o ho hob
  simp only [sCond] at ho
  split at ho <;> try (cases ho; done)
  · rename_i hv
    obtain ⟨k, T', h1, h2, h3⟩ := hx R T o ho hob
    exact ⟨k, T', h1, h2, fun Lim w0 T0 E a w hr hl => wp_cond_true (evC_eval hr.tm hv) (h3 Lim w0 T0 E a w hr hl)⟩
  · rename_i hv
    obtain ⟨k, T', h1, h2, h3⟩ := hy R T o ho hob
    exact ⟨k, T', h1, h2, fun Lim w0 T0 E a w hr hl => wp_cond_false (evC_eval hr.tm hv) (h3 Lim w0 T0 E a w hr hl)⟩
  · rename_i b hv
    split at ho
    · split at ho <;> cases ho
      rename_i o1 h1
      have hb : b = true := AllT.head hob
      obtain ⟨k, T', h1, h2, h3⟩ := hx R T o1 h1 (AllT.tail hob)
      refine ⟨k, T', h1, h2, fun Lim w0 T0 E a w hr hl => wp_cond_true ?_ (h3 Lim w0 T0 E a w hr hl)⟩
      have := evC_eval hr.tm hv
      rw [hb] at this; exact this
    · split at ho <;> cases ho
      rename_i o1 h1
      have hb : (!b) = true := AllT.head hob
      obtain ⟨k, T', h1, h2, h3⟩ := hy R T o1 h1 (AllT.tail hob)
      refine ⟨k, T', h1, h2, fun Lim w0 T0 E a w hr hl => wp_cond_false ?_ (h3 Lim w0 T0 E a w hr hl)⟩
      have := evC_eval hr.tm hv
      rw [show b = false by cases b <;> simp_all] at this; exact this
    · split at ho <;> cases ho
      rename_i ox oy h1 h2
      obtain ⟨hob1, hob2⟩ := AllT.append hob
      cases hb : b with
      | true =>
        have hoX : AllT ox.obs := fun q hq => by
          have := hob1 (!b || q) (List.mem_map.2 ⟨q, hq, rfl⟩)
          rw [hb] at this; exact this
        obtain ⟨k, T', k1, k2, k3⟩ := hx _ _ ox h1 hoX
        have hsel := sel_lift_t (b := .s true) rfl T (n' := mergeN true R T ox.nrm oy.nrm) (m := lift T (.s (!true)) oy.abr) k1
        cases k with
        | some j =>
          refine ⟨some j, commit T T', hsel.1 j rfl, by rw [commit_next]; exact k2, fun Lim w0 T0 E a w hr hl => wp_cond_true ?_ (wp_mono (k3 Lim w0 T0 E a w hr.over (by rw [commit_next] at hl; exact hl)) fun e a' w' hp => hp.le (commit_le T T' R) (by rw [commit_next]; exact Nat.le_refl _))⟩
          have := evC_eval hr.tm hv
          rw [hb] at this; exact this
        | none =>
          obtain ⟨hn, hs⟩ := hsel.2 rfl
          have hs2 : sel (lift T (.s (!true)) oy.abr) (mergeN true R T ox.nrm oy.nrm) = sel [] (mergeN true R T ox.nrm oy.nrm) := by
            have := sel_lift_f (b := .s (!true)) rfl T (n := mergeN true R T ox.nrm oy.nrm) (m := []) (l := oy.abr)
            rwa [List.append_nil] at this
          have key : ∃ T'', mergeN true R T ox.nrm oy.nrm = some T'' ∧ Le (getT (T'.ly :: T.ly :: R)) (getS (T'.ly :: T.ly :: R)) (getT (T''.ly :: R)) (getS (T''.ly :: R)) ∧ T'.next ≤ T''.next := by
            rw [hn]
            cases oy.nrm with
            | none => exact ⟨commit T T', rfl, commit_le T T' R, by rw [commit_next]; exact Nat.le_refl _⟩
            | some T2 => exact ⟨_, rfl, (mergeTop_le1 (T.ly :: R) T' T2 rfl).trans (commit_le T _ R), by rw [commit_next, mergeTop_next]; exact Nat.le_max_left _ _⟩
          obtain ⟨T'', e1, e2, e3⟩ := key
          refine ⟨none, T'', (hs.trans hs2).trans (by rw [e1]; rfl), Nat.le_trans k2 e3, fun Lim w0 T0 E a w hr hl => wp_cond_true ?_ (wp_mono (k3 Lim w0 T0 E a w hr.over (Nat.le_trans e3 hl)) fun e a' w' hp => hp.le e2 e3)⟩
          have := evC_eval hr.tm hv
          rw [hb] at this; exact this
      | false =>
        have hoY : AllT oy.obs := fun q hq => by
          have := hob2 (b || q) (List.mem_map.2 ⟨q, hq, rfl⟩)
          rw [hb] at this; exact this
        obtain ⟨k, T', k1, k2, k3⟩ := hy _ _ oy h2 hoY
        have hf := sel_lift_f (b := .s false) rfl T (n := mergeN false R T ox.nrm oy.nrm) (m := lift T (.s (!false)) oy.abr) (l := ox.abr)
        have hsel := sel_lift_t (b := .s (!false)) rfl T (n' := mergeN false R T ox.nrm oy.nrm) (m := []) k1
        rw [List.append_nil] at hsel
        cases k with
        | some j =>
          refine ⟨some j, commit T T', hf.trans (hsel.1 j rfl), by rw [commit_next]; exact k2, fun Lim w0 T0 E a w hr hl => wp_cond_false ?_ (wp_mono (k3 Lim w0 T0 E a w hr.over (by rw [commit_next] at hl; exact hl)) fun e a' w' hp => hp.le (commit_le T T' R) (by rw [commit_next]; exact Nat.le_refl _))⟩
          have := evC_eval hr.tm hv
          rw [hb] at this; exact this
        | none =>
          obtain ⟨hn, hs⟩ := hsel.2 rfl
          have key : ∃ T'', mergeN false R T ox.nrm oy.nrm = some T'' ∧ Le (getT (T'.ly :: T.ly :: R)) (getS (T'.ly :: T.ly :: R)) (getT (T''.ly :: R)) (getS (T''.ly :: R)) ∧ T'.next ≤ T''.next := by
            rw [hn]
            cases ox.nrm with
            | none => exact ⟨commit T T', rfl, commit_le T T' R, by rw [commit_next]; exact Nat.le_refl _⟩
            | some T2 => exact ⟨_, rfl, (mergeTop_le2 (T.ly :: R) T2 T' rfl).trans (commit_le T _ R), by rw [commit_next, mergeTop_next]; exact Nat.le_max_right _ _⟩
          obtain ⟨T'', e1, e2, e3⟩ := key
          refine ⟨none, T'', (hf.trans hs).trans (by rw [e1]; rfl), Nat.le_trans k2 e3, fun Lim w0 T0 E a w hr hl => wp_cond_false ?_ (wp_mono (k3 Lim w0 T0 E a w hr.over (Nat.le_trans e3 hl)) fun e a' w' hp => hp.le e2 e3)⟩
          have := evC_eval hr.tm hv
          rw [hb] at this; exact this

/-- The bodies of the loops. -/
def loopsIn : Code → List Code
  | .seq a b => loopsIn a ++ loopsIn b
  | .cond _ a b => loopsIn a ++ loopsIn b
  | .block _ b => loopsIn b
  | .loop b => b :: loopsIn b
  | .scope b => loopsIn b
  | _ => []

section
variable {cx : Cx} (hO : cx.O = fops) (hC : ∀ f S, cx.orc f = some S → CallOK cx.P f S) (hmx : cx.P.follows .mixedOrders = true)
include hO hC hmx
theorem reg_ok {N : Nat} (id : Nat) (ops : Array Oper) (draw : Bool) : CodeOK cx.P N (.region id ops draw) (fun R T => sReg cx N ops draw R T) := by
  intro R T o h hob
  simp only [sReg] at h
  split at h <;> try (cases h; done)
  rename_i hst
  split at h <;> cases h
  rename_i T' ob hs
  obtain ⟨es, s1, s2, s3, s4⟩ := srg_path hs hob
  refine ⟨none, T', rfl, Nat.le_trans (Steps.mono s1) s4, fun Lim w0 T0 E a w hr hl => ?_⟩
  have hQ : ∀ E' a' w', Ext E E' → SRel N Lim w0 T0 E' (stT ops.toList es (getT (T.ly :: R))) (stS es (getS (T.ly :: R))) (stN es T.next) a' w' → Post N Lim w0 T0 E R none T' .normal a' w' :=
    fun E' a' w' he hr' => ⟨rfl, E', he, hr'.le s3 s4⟩
  cases draw with
  | true => exact wp_draw hO hC hmx hst s1 (s2 rfl) hr (Nat.le_trans s4 hl) hQ
  | false =>
    refine wp_region ?_
    have := steps_seq hO hC (Q := Post N Lim w0 T0 E R none T') s1 (k := 0) (fun j => by rw [Nat.zero_add, Array.getElem?_toList]) hr (Nat.le_trans s4 hl) hQ
    rwa [Array.length_toList, ← List.range_eq_range'] at this
theorem sx_ok {N : Nat} {h : Hn} : ∀ (c : Code), (∀ b ∈ loopsIn c, ∀ L, h.loops (regId b) = some L → CodeOK cx.P N (.loop b) L) → CodeOK cx.P N c (sx cx N h c)
  | .skip, _ => fun R T o ho _ => by
    cases (show (some (⟨[], some T, []⟩ : Outs)) = some o from ho)
    exact ⟨none, T, rfl, Nat.le_refl _, fun Lim w0 T0 E a w hr _ => wp_skip ⟨rfl, E, Ext.refl E, hr⟩⟩
  | .region id ops draw, _ => reg_ok hO hC hmx id ops draw
  | .seq a b, hl => seq_ok (sx_ok a fun x hx => hl x (by simp [loopsIn, hx])) (sx_ok b fun x hx => hl x (by simp [loopsIn, hx]))
  | .cond c a b, hl => cond_ok (sx_ok a fun x hx => hl x (by simp [loopsIn, hx])) (sx_ok b fun x hx => hl x (by simp [loopsIn, hx])) c
  | .block id b, hl => block_ok (sx_ok b fun x hx => hl x (by simp [loopsIn, hx])) id
  | .loop b, hl => by
    have ih := sx_ok b fun x hx => hl x (by simp [loopsIn, hx])
    show CodeOK cx.P N (.loop b) (fun R T => sLoop h (regId b) (sx cx N h b) R T)
    unfold sLoop
    cases hL : h.loops (regId b) with
    | none => exact loop_ok ih 60
    | some L => exact hl b (by simp [loopsIn]) L hL
  | .rangeFunc .., _ => fun R T o ho _ => by cases ho
  | .exit id, _ => fun R T o ho _ => by
    cases (show (some (⟨[(.t, .exit id, T)], none, []⟩ : Outs)) = some o from ho)
    exact ⟨some (.exit id), T, rfl, Nat.le_refl _, fun Lim w0 T0 E a w hr _ => wp_exit ⟨rfl, E, Ext.refl E, hr⟩⟩
  | .scope b, hl => scope_ok (sx_ok b fun x hx => hl x (by simp [loopsIn, hx]))
  | .label _, _ => fun R T o ho _ => by cases ho
  | .goto _, _ => fun R T o ho _ => by cases ho
  | .ret, _ => fun R T o ho _ => by
    cases (show (some (⟨[(.t, .ret, T)], none, []⟩ : Outs)) = some o from ho)
    exact ⟨some .ret, T, rfl, Nat.le_refl _, fun Lim w0 T0 E a w hr _ => wp_ret ⟨rfl, E, Ext.refl E, hr⟩⟩
  | .refuse _, _ => fun R T o ho _ => by cases ho
end

end Go.Proofs.Ytaoeigofmfpamaa
end
