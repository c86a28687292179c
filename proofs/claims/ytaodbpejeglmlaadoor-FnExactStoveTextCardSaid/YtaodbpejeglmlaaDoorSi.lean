/- make, append, calls; the law of every operation. Nothing is assumed. -/
import Derived.Test.YtaodbpejeglmlaaDoorSh
namespace Go.Proofs.YtaodbpejeglmlaaDoor
open Go

section
variable {P : Program} {a : Act} {w0 w : World} {T0 : Nat → Nat → Prop} {E : EM} {gt : Nat → SV} {gs : Nat → Option Seg} {next : Nat}

theorem sLen_ok {t : TypeId} {x r : SC} (h : sLen P t x = some r) {v : Value} (hv : RelC E x v) (ts : Array TypeId) (ty : TypeId) (hts : ts[0]? = some t) :
    ∃ u, (Builtin.len_ ts ty #[v]).run P w = .ok u w ∧ RelC E r u := by
  cases x <;> simp only [sLen] at h <;> try (cases h; done)
  · cases hv
    split at h <;> cases h
    rename_i hu
    refine ⟨_, ?_, rfl⟩
    simp only [Builtin.len_, hts]
    simp [run_underlying hu, goInt, SI.val]
  · obtain ⟨base, n, cap, rfl, hlen, hcap, hnil, hbase⟩ := hv
    split at h <;> cases h
    rename_i hu
    refine ⟨.int .i64 n, ?_, by rw [RelC, hlen]⟩
    simp only [Builtin.len_, hts]
    simp [run_underlying hu, goInt]

theorem wrap_small {n : Int} (h0 : 0 ≤ n) (h1 : n ≤ 1000000000000) : IntKind.i64.wrap n = n :=
  IntWalk.i64_in n (by omega)
theorem info_of_bytes {t n : Nat} (h : tbytes P t = some n) : ∃ i, P.info? t = some i ∧ i.bytes = n := by
  unfold tbytes at h
  cases hi : P.info? t with
  | none => simp [hi] at h
  | some i => simp only [hi, Option.map_some, Option.some.injEq] at h; exact ⟨i, rfl, h⟩
theorem run_make {t el : TypeId} {es by' n : Nat} (hel : telem P t = some el) (hes : tsize P el = some es) (hby : tbytes P el = some by') {zv : Value} (hz : (zeroValue el).run P w = .ok zv w) (hb : by' ≤ 1000000) (hn : n ≤ 100000000) {k k' : IntKind} :
    ∃ cs, (Instr.makeSlice t (.int k n) (.int k' n)).run P w = .ok (.slice (some ⟨w.heap.size, 0, none⟩) n n) { w with heap := w.heap.push (.cells cs el) } ∧ (cs = (Array.range (n * es)).map (zv.cells[· % zv.cells.size]!)) := by
  obtain ⟨i, hi, rfl⟩ := info_of_bytes hby
  obtain ⟨i', hi', rfl⟩ := info_of_size hes
  rw [hi] at hi'; cases hi'
  refine ⟨_, ?_, rfl⟩
  have hw : IntKind.i64.wrap (n : Int) = n := wrap_small (by omega) (by omega)
  have hm : (i.bytes : Int) * (n : Int) ≤ 100000000000000 := by
    have h : i.bytes * n ≤ 1000000 * 100000000 := Nat.mul_le_mul hb hn
    have h' := Int.ofNat_le.2 h
    rw [Int.natCast_mul] at h'
    omega
  have h1 : ¬ ((n : Int) < 0) := by omega
  have h2 : ¬ (281474976710656 < (i.bytes : Int) * (n : Int)) := by omega
  have h3 : ¬ ((n : Int) > (n : Int)) := by omega
  by_cases h0 : n * i.size = 0
  · have e0 : Array.range 0 = #[] := rfl
    have em : ∀ f : Nat → Value, Array.map f #[] = #[] := fun f => by simp
    simp [Instr.makeSlice, run_underlying (telem_und hel), asInt, asIntOf, typeInfo, hi, sizeOf, hw, h1, h2, h0, newRow, e0]
  · simp [Instr.makeSlice, run_underlying (telem_und hel), asInt, asIntOf, typeInfo, hi, sizeOf, hw, h1, h2, h0, newRow, hz]
theorem softL_get : ∀ (z : List SC) (q : Nat), (softL z).getD q .any = softC (z.getD q .any)
  | [], q => by cases q <;> rfl
  | x :: z, 0 => rfl
  | x :: z, q + 1 => by
    show (softL z).getD q .any = softC (z.getD q .any)
    exact softL_get z q
theorem softC_ok {x : SC} {v : Value} (h : RelC E x v) : RelC E (softC x) v := by
  cases x with
  | int k n => cases n <;> exact h
  | _ => exact h
theorem sMake_ok (hm : MemRel w0 T0 E gs w) (h1 : next ≠ 0) {t : TypeId} {x y : SC} {u v : Value} (hu : RelC E x u) (hv : RelC E y v) {e : Eff} (h : sMake P t next x y = some e) (hfr : ∀ i, next ≤ i → i < e.next → E i = none) (hob : AllT e.obs) :
    NextOK P ((do pure (Next.value (← Instr.makeSlice t u v)) : Sem Next).run P w) (PostOp w0 T0 E gs next e) := by
  cases x <;> cases y <;> simp only [sMake] at h <;> try (cases h; done)
  rename_i k n k' m
  cases hu; cases hv
  split at h <;> try (cases h; done)
  rename_i el hel
  split at h <;> try (cases h; done)
  rename_i es by' z hes hby hz
  unfold sMake2 at h
  split at h <;> try (cases h; done)
  rename_i hc
  simp only [Bool.and_eq_true, Nat.ble_eq, beqN] at hc
  obtain ⟨⟨hc1, hc2⟩, hc3⟩ := hc
  obtain ⟨zv, hzv, hr, _⟩ := rZero (P := P) (w := w) (E := E) hz
  have hlen := hr.len
  simp only [Array.length_toList] at hlen
  split at h
  · rename_i n m
    split at h <;> cases h
    rename_i hnm
    simp only [Bool.and_eq_true, Nat.ble_eq, beqN] at hnm
    obtain ⟨rfl, hn⟩ := hnm
    obtain ⟨cs, hrun, hcs⟩ := run_make (w := w) (k := k) (k' := k') hel hes hby hzv hc1 (by omega : n ≤ 100000000)
    have hrel := zeros_ok hr n
    rw [hc2, ← hcs] at hrel
    have hcl := hrel.len
    rw [repL_len, hc2, Array.length_toList] at hcl
    refine next_v hrun (new_slice hm (hfr next (Nat.le_refl _) (Nat.lt_succ_self _)) h1 (by rw [repL_len, hc2]; omega) (fun q hq => ?_) (Nat.le_refl _) hcl rfl)
    obtain ⟨y, g1, g2⟩ := hrel.getD q hq
    exact ⟨y, by simpa using g1, g2⟩
  · rename_i n m
    cases h
    have hb := hob.head
    simp only [decide_eq_true_eq] at hb
    obtain ⟨rfl, h0, hbig⟩ := hb
    obtain ⟨j, rfl⟩ := Int.eq_ofNat_of_zero_le h0
    obtain ⟨cs, hrun, hcs⟩ := run_make (w := w) (k := k) (k' := k') hel hes hby hzv hc1 (by omega : j ≤ 100000000)
    have hrel := zeros_ok hr j
    rw [hc2, ← hcs] at hrel
    have hcl := hrel.len
    rw [repL_len, hc2, Array.length_toList] at hcl
    refine next_v (w' := { w with heap := w.heap.push (.cells cs el) }) (v := .slice (some ⟨w.heap.size, 0, none⟩) j j) hrun
      (post_new (body := .rows es j (fun _ => softL z)) (p := .sl next 0 es (.s j) true) hm (hfr next (Nat.le_refl _) (Nat.lt_succ_self _)) h1 ?_ (fun q hq => ?_) ?_)
    · simp only [SBody.len, Int.toNat_natCast]; rw [Nat.mul_comm]; omega
    · simp only [SBody.len, Int.toNat_natCast] at hq
      rw [Nat.mul_comm] at hq
      obtain ⟨y, g1, g2⟩ := hrel.getD q (by rw [repL_len, hc2]; exact hq)
      rw [repL_get z j q (by rw [hc2]; exact hq), hc2] at g2
      refine ⟨y, by simpa using g1, ?_⟩
      simp only [SBody.at]
      rw [softL_get]
      exact softC_ok g2
    · refine ⟨some ⟨w.heap.size, 0, none⟩, j, j, rfl, rfl, Nat.le_refl _, fun e => (by cases e), fun ad had => ?_⟩
      cases had
      exact ⟨h1, _, _, _, upd_same _ _ _, fun _ => rfl, fun _ => by rw [Nat.zero_add]; exact hcl⟩
  · cases h

/-! append -/
theorem appNew_ok (hm : MemRel w0 T0 E gs w) {i2 o2 e2 es m : Nat} {new : List SC} (h : appNew gs i2 o2 e2 es m = some new) {len : SI} {f : Bool} {x : Value} (hx : RelC E (.sl i2 o2 e2 len f) x) (hlen : len.val = (m : Nat)) :
    ∃ us : List Value, (Builtin.firstCells es m x).run P w = .ok us.toArray w ∧ RelL E new us ∧ us.length = m * es ∧ ∃ base c, x = .slice base m c := by
  obtain ⟨base, n, cap, rfl, hl, hcap, hnil, hbase⟩ := hx
  have hn : n = m := by omega
  subst hn
  unfold appNew at h
  split at h
  · rename_i h0
    rw [beqN] at h0
    subst h0
    cases h
    refine ⟨[], ?_, trivial, by simp, base, cap, rfl⟩
    cases base <;> simp [Builtin.firstCells, loadCells, loadCellsFrom]
  · rename_i h0
    have hn0 : n ≠ 0 := by intro e; subst e; simp at h0
    split at h <;> try (cases h; done)
    rename_i he
    rw [beqN] at he
    split at h <;> try (cases h; done)
    rename_i g hg
    split at h <;> cases h
    rename_i hl2
    cases base with
    | none => have := hnil rfl; omega
    | some ad =>
      obtain ⟨_, b, q, z, hE, ha, _⟩ := hbase ad rfl
      have had := ha (by omega)
      subst had
      obtain ⟨b', o', hp, vs, hvl, hrel, hcell⟩ := sLoad_ok hm hg (p := .ptr i2 o2) rfl (v := .pointer (some ⟨b, q + o2, none⟩)) ⟨b, q, z, hE, rfl⟩ hl2 AllT.nil
      cases hp
      refine ⟨vs, ?_, hrel, hvl, _, cap, rfl⟩
      simp only [Builtin.firstCells]
      rw [← hvl]
      exact run_loadCells_list w _ vs fun j u hj => by
        have hjl : j < vs.length := by
          rcases Nat.lt_or_ge j vs.length with h' | h'
          · exact h'
          · rw [List.getElem?_eq_none h'] at hj; cases hj
        rw [addr_add, hcell j (by omega)]; exact hj
theorem cap_ok {need : Nat} (h : need ≤ 1000000) {old : Nat} (h2 : old < need) : Builtin.nextslicecap need old ≤ 100000000 := by
  unfold Builtin.nextslicecap
  split
  · omega
  · split
    · omega
    · simp only [Builtin.growBy]
      split
      · omega
      · split
        · omega
        · split
          · omega
          · split <;> omega
theorem run_app_in {t el : TypeId} {es n m c : Nat} {base : Option Addr} {x : Value} {ts : Array TypeId} {ty : TypeId} (hel : telem P t = some el) (hes : tsize P el = some es) {t' el' : TypeId} (hts : ts[0]? = some t ∧ ts[1]? = some t') (ht' : telem P t' = some el')
    {us : List Value} {bx : Option Addr} {cx : Nat} (hx : x = .slice bx m cx) (hf : (Builtin.firstCells es m x).run P w = .ok us.toArray w) (hn : n + m ≤ c) {w' : World}
    (hst : ∀ ad, base = some ad → (storeCells (ad.add (n * es)) us).run P w = .ok () w') (hnone : base = none → w' = w) :
    (Builtin.append_ ts ty #[.slice base n c, x]).run P w = .ok (.slice base (n + m) c) w' := by
  subst hx
  cases base with
  | none =>
    have := hnone rfl
    subst this
    simp [Builtin.append_, hts.1, hts.2, run_underlying (telem_und hel), run_underlying (telem_und ht'), rSize hes, Builtin.lenOf, hn, hf]
  | some ad =>
    simp [Builtin.append_, hts.1, hts.2, run_underlying (telem_und hel), run_underlying (telem_und ht'), rSize hes, Builtin.lenOf, hn, hf, hst ad rfl]
theorem run_app_new {t el : TypeId} {es by' n m c : Nat} {base : Option Addr} {x : Value} {ts : Array TypeId} {ty : TypeId} (hel : telem P t = some el) (hes : tsize P el = some es) (hby : tbytes P el = some by') (hb : by' ≤ 1000000) {t' el' : TypeId} (hts : ts[0]? = some t ∧ ts[1]? = some t') (ht' : telem P t' = some el')
    {us os : List Value} {bx : Option Addr} {cx : Nat} (hx : x = .slice bx m cx) (hf : (Builtin.firstCells es m x).run P w.drew = .ok us.toArray w.drew) (ho : (Builtin.firstCells es n (.slice base n c)).run P w.drew = .ok os.toArray w.drew) (hn : c < n + m) (hbig : n + m ≤ 1000000) {zv : Value} (hz : ∀ w : World, (zeroValue el).run P w = .ok zv w) (hzs : zv.cells.size = es) (hus : us.length = m * es) (hos : os.length = n * es) :
    ∃ cap cs, n + m ≤ cap ∧ cs.size = cap * es ∧ (∀ k, k < os.length + us.length → cs[k]? = (os ++ us)[k]?) ∧
      (Builtin.append_ ts ty #[.slice base n c, x]).run P w = .ok (.slice (some ⟨w.heap.size, 0, none⟩) (n + m) cap) { w.drew with heap := w.heap.push (.cells cs el) } := by
  subst hx
  obtain ⟨i, hi, rfl⟩ := info_of_bytes hby
  obtain ⟨i', hi', rfl⟩ := info_of_size hes
  rw [hi] at hi'; cases hi'
  have hcap : (Question.appendCap (n + m) c el).cut (w.tape w.drawn (.appendCap (n + m) c el)) = n + m + w.tape w.drawn (.appendCap (n + m) c el) % (2 ^ 63 - (n + m)) := rfl
  refine ⟨(Question.appendCap (n + m) c el).cut (w.tape w.drawn (.appendCap (n + m) c el)), os.toArray ++ (us.toArray ++ Builtin.zeroCells zv.cells ((Question.appendCap (n + m) c el).cut (w.tape w.drawn (.appendCap (n + m) c el)) - (n + m))), by rw [hcap]; omega, ?_, fun k hk => ?_, ?_⟩
  · have hle : n + m ≤ (Question.appendCap (n + m) c el).cut (w.tape w.drawn (.appendCap (n + m) c el)) := by rw [hcap]; omega
    generalize (Question.appendCap (n + m) c el).cut (w.tape w.drawn (.appendCap (n + m) c el)) = cap at hle ⊢
    simp only [Array.size_append, Builtin.zeroCells, Array.size_map, Array.size_range, List.size_toArray, hzs, hus, hos]
    have e1 : (cap - (n + m)) * i.size = cap * i.size - (n + m) * i.size := Nat.sub_mul ..
    have e2 : (n + m) * i.size ≤ cap * i.size := Nat.mul_le_mul_right _ hle
    rw [e1]
    rw [Nat.add_mul] at e2 ⊢
    omega
  · generalize Builtin.zeroCells zv.cells ((Question.appendCap (n + m) c el).cut (w.tape w.drawn (.appendCap (n + m) c el)) - (n + m)) = Z
    have e : os.toArray ++ (us.toArray ++ Z) = ((os ++ us) ++ Z.toList).toArray := by
      apply Array.toList_inj.1
      simp
    rw [e, List.getElem?_toArray, List.getElem?_append_left (by simpa using hk)]
  · have hbs : ¬ ((n : Int) + (m : Int) > IntKind.i64.max ∧ (false = true ∨ i.bytes = 0)) := by
      rw [IntKind.max_i64]; omega
    have hnc := cap_ok hbig hn
    have hmul : Builtin.nextslicecap (n + m) c * i.bytes ≤ 100000000 * 1000000 := Nat.mul_le_mul hnc hb
    have hno : ¬ (2 ^ 48 < Builtin.nextslicecap (n + m) c * i.bytes) := by omega
    have hlt : ¬ (n + m ≤ c) := by omega
    have hq : (Question.appendCap (n + m) c el).forced = false := rfl
    have h64 : ¬ ((9223372036854775807 : Int) < (n : Int) + (m : Int)) := by omega
    have hdr : ({ w with drawn := w.drawn + 1 } : World) = w.drew := rfl
    simp [Builtin.append_, hts.1, hts.2, run_underlying (telem_und hel), run_underlying (telem_und ht'), sizeOf, typeInfo, hi, Builtin.lenOf, hlt, h64, hno, hq, hdr, hf, ho, hz, newRow]
    rfl

end

end Go.Proofs.YtaodbpejeglmlaaDoor
