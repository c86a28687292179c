/- Each operation of the model does what the executor says, second part. Nothing is assumed. -/
import Derived.Test.YtaodbpejeglmlaaDoorSf
namespace Go.Proofs.YtaodbpejeglmlaaDoor
open Go

section
variable {P : Program} {a : Act} {w0 w : World} {T0 : Nat → Nat → Prop} {E : EM} {gt : Nat → SV} {gs : Nat → Option Seg} {next : Nat}

theorem addr_add (b o j : Nat) : (⟨b, o, none⟩ : Addr).add j = ⟨b, o + j, none⟩ := by unfold Addr.add; split <;> simp [*]
theorem repL_len (z : List SC) : ∀ n, (repL z n).length = n * z.length
  | 0 => by simp [repL]
  | n + 1 => by simp [repL, repL_len z n, Nat.add_mul, Nat.add_comm]
theorem repL_get (z : List SC) : ∀ n k, k < n * z.length → (repL z n).getD k .any = z.getD (k % z.length) .any
  | 0, k, h => by simp at h
  | n + 1, k, h => by
    simp only [repL]
    by_cases hk : k < z.length
    · rw [Nat.mod_eq_of_lt hk]; simp [List.getD, List.getElem?_append_left hk]
    · have h0 : 0 < z.length := by
        rcases Nat.eq_zero_or_pos z.length with h0 | h0
        · rw [h0] at h; simp at h
        · exact h0
      have := repL_get z n (k - z.length) (by rw [Nat.add_mul] at h; omega)
      rw [show (z ++ repL z n).getD k .any = (repL z n).getD (k - z.length) .any by simp [List.getD, List.getElem?_append_right (Nat.le_of_not_lt hk)], this]
      rw [← Nat.mod_eq_sub_mod (Nat.le_of_not_lt hk)]
theorem zeros_ok {z : List SC} {vs : Array Value} (hz : RelL E z vs.toList) (n : Nat) : RelL E (repL z n) ((Array.range (n * z.length)).map (vs[· % vs.size]!)).toList := by
  have hlen := hz.len
  simp only [Array.length_toList] at hlen
  refine RelL.of_getD (by simp [repL_len]) fun k hk => ?_
  rw [repL_len] at hk
  rw [repL_get z n k hk]
  have h0 : 0 < z.length := by
    rcases Nat.eq_zero_or_pos z.length with h0 | h0
    · rw [h0] at hk; simp at hk
    · exact h0
  obtain ⟨v, h1, h2⟩ := hz.getD (k % z.length) (Nat.mod_lt _ h0)
  refine ⟨v, ?_, h2⟩
  simp only [Array.toList_map, Array.toList_range, List.getElem?_map, List.getElem?_range hk, Option.map_some, Option.some.injEq]
  rw [← hlen]
  rw [Array.getElem?_toList] at h1
  rw [getElem!_def, h1]

theorem oAlloc_ok (hm : MemRel w0 T0 E gs w) (h1 : next ≠ 0) {t : TypeId} {e : Eff} (h : oAlloc next (tzero P t) (tsize P t) = some e) (hfr : ∀ i, next ≤ i → i < e.next → E i = none) (old : Value) :
    NextOK P ((do pure (Next.value (← Instr.alloc t true old)) : Sem Next).run P w) (PostOp w0 T0 E gs next e) := by
  unfold oAlloc at h
  obtain ⟨z, hz, h⟩ := bindO_some h
  obtain ⟨n, hn, h⟩ := bindO_some h
  split at h <;> cases h
  obtain ⟨v, hv, hr, _⟩ := rZero (P := P) (w := w) (E := E) hz
  refine next_v (v := .pointer (some ⟨w.heap.size, 0, none⟩)) (w' := { w with heap := w.heap.push (.cells v.cells t) }) ?_ (post_newP hm (hfr next (Nat.le_refl _) (Nat.lt_succ_self _)) h1 hr t)
  simp [Instr.alloc, hv, newVar, newRow]

theorem oBox_ok (hm : MemRel w0 T0 E gs w) (h1 : next ≠ 0) {t : TypeId} {v : Value} {l : List SC} (hr : RelL E l v.cells.toList) {e : Eff} (h : newE next (.ptr next 0) l = some e) (hfr : ∀ i, next ≤ i → i < e.next → E i = none) :
    NextOK P ((do pure (Next.value (← Instr.box t v)) : Sem Next).run P w) (PostOp w0 T0 E gs next e) := by
  cases h
  refine next_v (v := .pointer (some ⟨w.heap.size, 0, none⟩)) (w' := { w with heap := w.heap.push (.cells v.cells t) }) ?_ (post_newP hm (hfr next (Nat.le_refl _) (Nat.lt_succ_self _)) h1 hr t)
  simp [Instr.box, newVar, newRow]

theorem oBuild_ok (hm : MemRel w0 T0 E gs w) (hT : ∀ t, RelV E (gt t) (a.tmps.getD t undef)) {t : TypeId} {parts : Array (Nat × Operand)} {z : List SC} (hz : tzero P t = some z) {e : Eff} (h : oBuild P gt next z (P.underlying t) parts.toList = some e) :
    NextOK P ((do pure (Next.value (← Instr.build t (parts.map fun (i, x) => (i, a.eval x)))) : Sem Next).run P w) (PostOp w0 T0 E gs next e) := by
  obtain ⟨v, hv, hr, it, hit, hiz⟩ := rZero (P := P) (w := w) (E := E) hz
  unfold oBuild at h
  split at h
  · rename_i fs hu
    obtain ⟨pl, hpl, h⟩ := bindO_some h
    obtain ⟨l, hl, h⟩ := bindO_some h
    cases h
    obtain ⟨cs, hf, hrc⟩ := fill_ok hT hl hr
    refine next_v (v := .agg cs) (w' := w) (run_build w t _ cs ?_) (post_pure (v := .a l) hm ⟨cs, rfl, hrc⟩)
    unfold Program.built
    simp only [hit, hu, hiz, hpl]
    simpa using hf
  · rename_i n el hu
    obtain ⟨s, hs, h⟩ := bindO_some h
    obtain ⟨l, hl, h⟩ := bindO_some h
    cases h
    obtain ⟨ie, hie, rfl⟩ := info_of_size hs
    obtain ⟨cs, hf, hrc⟩ := fill_ok hT hl hr
    refine next_v (v := .agg cs) (w' := w) (run_build w t _ cs ?_) (post_pure (v := .a l) hm ⟨cs, rfl, hrc⟩)
    unfold Program.built
    simp only [hit, hu, hiz, hie]
    simpa using hf
  · cases h

theorem telem_und {t e : TypeId} (h : telem P t = some e) : P.underlying t = some (.slice e) := by
  unfold telem at h
  split at h
  · rename_i e' hu; cases h; exact hu
  · cases h
theorem new_slice {es n c : Nat} {l : List SC} {cs : Array Value} {T : TypeId} (hm : MemRel w0 T0 E gs w) (hfr : E next = none) (h1 : next ≠ 0) (hl : l.length ≤ cs.size) (hc : ∀ k, k < l.length → ∃ v, cs[k]? = some v ∧ RelC E (l.getD k .any) v) (hn : n ≤ c) (hz : c * es = cs.size) {len : SI} (hlen : len.val = (n : Nat)) {rd : List Nat} {obs : List Bool} :
    PostOp w0 T0 E gs next ⟨.c (.sl next 0 es len true), [(next, some ⟨true, true, .cells l⟩)], next + 1, rd, obs⟩ (.slice (some ⟨w.heap.size, 0, none⟩) n c) { w with heap := w.heap.push (.cells cs T) } :=
  post_new (body := .cells l) (p := .sl next 0 es len true) hm hfr h1 hl hc (by
    refine ⟨some ⟨w.heap.size, 0, none⟩, n, c, rfl, hlen, hn, fun e => (by cases e), fun a ha => ?_⟩
    cases ha
    exact ⟨h1, _, _, _, upd_same _ _ _, fun _ => rfl, fun _ => by rw [Nat.zero_add]; exact hz⟩)
theorem oBuildSlice_ok (hm : MemRel w0 T0 E gs w) (h1 : next ≠ 0) (hT : ∀ t, RelV E (gt t) (a.tmps.getD t undef)) {t el : TypeId} {len : Nat} {parts : Array (Nat × Operand)} (hel : telem P t = some el) {e : Eff} (h : oBuildSlice P gt next el len parts.toList = some e)
    (hfr : ∀ i, next ≤ i → i < e.next → E i = none) :
    NextOK P ((do pure (Next.value (← Instr.buildSlice t len (parts.map fun (i, x) => (i, a.eval x)))) : Sem Next).run P w) (PostOp w0 T0 E gs next e) := by
  unfold oBuildSlice at h
  obtain ⟨s, hs, h⟩ := bindO_some h
  obtain ⟨z, hz, h⟩ := bindO_some h
  split at h <;> try (cases h; done)
  rename_i hb
  obtain ⟨l, hl, h⟩ := bindO_some h
  cases h
  simp only [Bool.and_eq_true, Nat.ble_eq, beqN] at hb
  obtain ⟨⟨hb1, hb2⟩, hb3⟩ := hb
  obtain ⟨v, hv, hr, _⟩ := rZero (P := P) (w := w) (E := E) hz
  have hzr := zeros_ok hr len
  have hvs : v.cells.size = s := by have := hr.len; simp at this; omega
  rw [hb2] at hzr
  obtain ⟨cs, hf, hrc⟩ := fill_ok hT hl hzr
  have hcs := hrc.len
  simp only [Array.length_toList] at hcs
  have hcsz : cs.size = len * s := by
    have h2 := RelL.len hzr
    have hlen : l.length = (repL z len).length := by
      have : ∀ (ps : List (Nat × Operand)) (l0 r0 : List SC), fillC (fun i => some (i * s, s)) gt l0 ps = some r0 → r0.length = l0.length := by
        intro ps
        induction ps with
        | nil => intro l0 r0 h0; cases h0; rfl
        | cons p ps ih =>
          intro l0 r0 h0
          obtain ⟨i, x⟩ := p
          simp only [fillC] at h0
          split at h0 <;> try (cases h0; done)
          split at h0 <;> try (cases h0; done)
          split at h0 <;> try (cases h0; done)
          rename_i l1 hl1
          rw [ih _ _ h0, splice_len hl1]
      exact this _ _ _ hl
    rw [← hcs, hlen, repL_len, hb2]
  refine next_v (v := .slice (some ⟨w.heap.size, 0, none⟩) len len) (w' := { w with heap := w.heap.push (.cells cs el) }) ?_
    (new_slice hm (hfr next (Nat.le_refl _) (Nat.lt_succ_self _)) h1 (by omega) (fun k hk => ?_) (Nat.le_refl _) hcsz.symm rfl)
  · have hle : ¬ 16777216 < len * s := by omega
    have h24 : ¬ len * s > 2 ^ 24 := by simpa using hle
    simp only [Instr.buildSlice, Sem.run_bind, run_underlying (telem_und hel), Result.andThen_ok, rSize hs, h24, if_false]
    have hps : (parts.map fun (i, x) => (i, a.eval x)).toList = parts.toList.map fun (i, x) => (i, a.eval x) := by simp
    by_cases h0 : len * s = 0
    · have e0 : Array.range 0 = #[] := rfl
      have em : ∀ f : Nat → Value, Array.map f #[] = #[] := fun f => by simp
      rw [h0, e0, em] at hf
      simp only [h0, if_true, Sem.run_pure, Result.andThen_ok, hps, e0, em, hf, newRow, Sem.run_bind, run_newObj]
    · rw [if_neg h0]
      simp only [Sem.run_bind, hv, Result.andThen_ok, Sem.run_pure, hps, hf, newRow, run_newObj]
  · obtain ⟨u, g1, g2⟩ := hrc.getD k hk
    exact ⟨u, by simpa using g1, g2⟩

theorem oLoad_ok (hm : MemRel w0 T0 E gs w) {t : TypeId} {p : SC} {v : Value} (hv : RelC E p v) {e : Eff} (h : oLoad P gs next t p = some e) (hob : AllT e.obs) :
    NextOK P ((do pure (Next.value (← Instr.loadAt t v)) : Sem Next).run P w) (PostOp w0 T0 E gs next e) := by
  unfold oLoad at h
  obtain ⟨i, hi, h⟩ := bindO_some h
  obtain ⟨g, hg, h⟩ := bindO_some h
  obtain ⟨n, hn, h⟩ := bindO_some h
  obtain ⟨ag, hag, h⟩ := bindO_some h
  obtain ⟨r, hr, h⟩ := bindO_some h
  obtain ⟨s, hs, h⟩ := bindO_some h
  cases h
  obtain ⟨b, o', rfl, vs, hlen, hrel, hcell⟩ := sLoad_ok hm hg hi hv hr hob
  have hla : (loadCells ⟨b, o', none⟩ n).run P w = .ok vs.toArray w := by
    rw [← hlen]
    exact run_loadCells_list w _ vs fun j u hj => by
      have hjl : j < vs.length := by
        rcases Nat.lt_or_ge j vs.length with h' | h'
        · exact h'
        · rw [List.getElem?_eq_none h'] at hj; cases hj
      rw [addr_add, hcell j (by omega)]; exact hj
  cases ag with
  | true =>
    refine next_v (v := .agg vs.toArray) (w' := w) ?_ (post_pure hm (ofCells_agg hs hrel))
    simp [Instr.loadAt, Instr.sureAddr, loadVar, rAgg hag, rSize hn, hla]
  | false =>
    obtain ⟨u, rfl, hu⟩ := ofCells_one hs hrel
    refine next_v (v := u) (w' := w) ?_ (post_pure hm hu)
    have hc := hcell 0 (by simp at hlen; omega)
    simp only [Nat.add_zero] at hc
    simp [Instr.loadAt, Instr.sureAddr, loadVar, rAgg hag, hc]

theorem updSs_one (i : Nat) (v : Option Seg) : updSs gs [(i, v)] = upd gs i v := rfl
theorem oStore_ok (hm : MemRel w0 T0 E gs w) {t : TypeId} {p : SC} {v : Value} (hv : RelC E p v) {x : Option (List SC)} {u : Value} (hx : ∀ l, x = some l → RelL E l u.cells.toList) {e : Eff} (h : oStore P gs next t p x = some e) (hob : AllT e.obs) :
    NextOK P ((do Instr.storeAt t v u; pure Next.skip : Sem Next).run P w) (PostOp w0 T0 E gs next e) := by
  unfold oStore at h
  obtain ⟨i, hi, h⟩ := bindO_some h
  obtain ⟨g, hg, h⟩ := bindO_some h
  obtain ⟨n, hn, h⟩ := bindO_some h
  obtain ⟨l, hl, h⟩ := bindO_some h
  split at h <;> try (cases h; done)
  rename_i hrw
  unfold oStore2 at h
  split at h <;> try (cases h; done)
  rename_i hln
  obtain ⟨r, hr, h⟩ := bindO_some h
  cases h
  rw [beqN] at hln
  have hul := hx l hl
  have hlen := hul.len
  simp only [Array.length_toList] at hlen
  obtain ⟨b, o', rfl, w', hrun, hm'⟩ := sStore_ok hm hg hrw hi hv hul (show sStore g.body p l = some (r.1, r.2) from hr) hob P
  refine next_u (w' := w') ?_ ⟨E, Ext.refl E, fun i h => .inl h, rfl, hm'⟩
  have hsz : u.cells.size = n := by omega
  simp [Instr.storeAt, Instr.sureAddr, storeVar, rSize hn, hsz, hrun]

/-! arithmetic -/
theorem eqGuard_ok (op : BinOp) (t : TypeId) (x y : Operand) {u v : Value} (hu : u.oneCell' = true) (hn : u ≠ .nilIface) : (eqGuard op t x y u v).run P w = .ok () w := by
  unfold eqGuard
  cases op <;> first
    | (simp; done)
    | (cases u <;> first
        | (simp [Value.oneCell'] at hu; done)
        | (simp at hn; done)
        | simp)

theorem cmpI_val {op : BinOp} (hc : isCmp op = true) (k : IntKind) (t : TypeId) (m n : Int) : ∃ b, cmpI op m n = some b ∧ (binOp op t (.int k m) (.int k n)).run P w = .ok (.bool b) w := by
  cases op <;> simp [isCmp] at hc <;> simp [cmpI, binOp, Op.intCmp] <;> first | rfl | skip
  all_goals first | (by_cases h : m = n <;> simp [h]; done) | skip
theorem sInt_ok {op : BinOp} {k : IntKind} {x y : SI} {r : SC} {ob : List Bool} (h : sInt op k x y = some (r, ob)) (hs : isShift op = false) (hob : AllT ob) (t : TypeId) :
    ∃ v, (binOp op t (.int k x.val) (.int k y.val)).run P w = .ok v w ∧ RelC E r v := by
  have div : ∀ m n : Int, isCmp op = false → isAri op = false → divS op k m n = some (r, ob) → ∃ v, (binOp op t (.int k m) (.int k n)).run P w = .ok v w ∧ RelC E r v := by
    intro m n h1 h2 hd
    unfold divS at hd
    split at hd <;> cases hd
    · have := hob.head; simp at this
      exact ⟨_, by simp [binOp, Op.intDiv, this, SI.val], rfl⟩
    · have := hob.head; simp at this
      exact ⟨_, by simp [binOp, Op.intDiv, this, SI.val], rfl⟩
    · exact ⟨.int k (andI k m n), by simp [binOp, Op.intBits, andI], rfl⟩
    · exact ⟨.int k (orI k m n), by simp [binOp, Op.intBits, orI], rfl⟩
  have ari : ∀ m n q : Int, ariI op k m n = some q → (binOp op t (.int k m) (.int k n)).run P w = .ok (.int k q) w := by
    intro m n q hq
    unfold ariI at hq
    split at hq <;> cases hq <;> simp [binOp, Op.intArith]
  unfold sInt at h
  split at h
  · rename_i m n
    split at h
    · rename_i hc
      obtain ⟨b, hb, hrun⟩ := cmpI_val (P := P) (w := w) hc k t m n
      rw [hb] at h
      cases b <;> cases h <;> exact ⟨_, hrun, rfl⟩
    · split at h
      · cases hq : ariI op k m n with
        | none => rw [hq] at h; cases h
        | some q => rw [hq] at h; cases h; exact ⟨_, ari _ _ _ hq, rfl⟩
      · rename_i h1 _ h2; exact div _ _ h1 h2 h
  · split at h
    · rename_i hc
      obtain ⟨b, hb, hrun⟩ := cmpI_val (P := P) (w := w) hc k t x.val y.val
      rw [hb] at h
      cases h; exact ⟨_, hrun, rfl⟩
    · split at h
      · cases hq : ariI op k x.val y.val with
        | none => rw [hq] at h; cases h
        | some q => rw [hq] at h; cases h; exact ⟨_, ari _ _ _ hq, rfl⟩
      · rename_i h1 _ h2; exact div _ _ h1 h2 h
theorem sShift_ok {op : BinOp} {k k' : IntKind} {x : SI} {n : Nat} {r : SC} {ob : List Bool} (h : sShift op k x n = some (r, ob)) (hs : isShift op = true) (t : TypeId) :
    ∃ v, (binOp op t (.int k x.val) (.int k' n)).run P w = .ok v w ∧ RelC E r v := by
  have hn : ¬ ((n : Int) < 0) := by omega
  cases op <;> simp [isShift] at hs <;> cases x <;> cases h <;> exact ⟨_, by simp [binOp, Op.shift, hn, SI.val], rfl⟩
theorem run_neq_bool' {t : TypeId} (hu : P.underlying t = some .bool) (b c : Bool) : (binOp .neq t (.bool b) (.bool c)).run P w = .ok (.bool (!(b == c))) w := by
  have h := run_eql_bool w t b c hu
  simp only [binOp, Sem.run_bind] at h ⊢
  cases hr : (Op.equal t (.bool b) (.bool c)).run P w with
  | halt x w' => rw [hr] at h; simp at h
  | ok x w' => rw [hr] at h; simp at h ⊢; obtain ⟨h1, h2⟩ := h; simp [h1, h2]
theorem sBin_ok {op : BinOp} {x y r : SC} {ob : List Bool} {t : TypeId} (h : sBin fops (tbool P t) op x y = some (r, ob)) (hob : AllT ob) {u v : Value} (hu : RelC E x u) (hv : RelC E y v) (ox oy : Operand) :
    ∃ q w', (do eqGuard op t ox oy u v; binOp op t u v : Sem Value).run P w = .ok q w' ∧ RelC E r q ∧ w'.heap = w.heap ∧ w'.os = w.os ∧ w'.output = w.output := by
  have fin : ∀ {q : Value} {w' : World}, u ≠ .nilIface → (binOp op t u v).run P w = .ok q w' → (do eqGuard op t ox oy u v; binOp op t u v : Sem Value).run P w = .ok q w' := by
    intro q w' hn hr
    simp only [Sem.run_bind, eqGuard_ok op t ox oy hu.one hn, Result.andThen_ok]
    exact hr
  cases x <;> cases y <;> first | (cases h; done) | skip
  · -- two truth values
    rename_i b c
    cases hu; cases hv
    have h' : sBool (tbool P t) op b.val c.val = some (r, ob) := h
    unfold sBool at h'
    split at h' <;> try (cases h'; done)
    rename_i htb
    have hu : P.underlying t = some .bool := by
      unfold tbool at htb
      split at htb
      · assumption
      · cases htb
    split at h' <;> cases h'
    · exact ⟨_, w, fin (by simp) (run_eql_bool w t _ _ hu), rfl, rfl, rfl, rfl⟩
    · exact ⟨_, w, fin (by simp) (run_neq_bool' hu _ _), rfl, rfl, rfl, rfl⟩
  · rename_i k m k' n
    cases hu; cases hv
    have h' : sIntK op k k' m n = some (r, ob) := h
    unfold sIntK at h'
    split at h'
    · rename_i hs
      split at h' <;> try (cases h'; done)
      rename_i n'
      obtain ⟨q, hq, hr⟩ := sShift_ok (P := P) (w := w) (E := E) (k' := k') h' hs t
      exact ⟨q, w, fin (by simp) hq, hr, rfl, rfl, rfl⟩
    · rename_i hs
      split at h' <;> try (cases h'; done)
      rename_i hk
      simp only [decide_eq_true_eq] at hk
      subst hk
      obtain ⟨q, hq, hr⟩ := sInt_ok (P := P) (w := w) (E := E) h' hs hob t
      exact ⟨q, w, fin (by simp) hq, hr, rfl, rfl, rfl⟩
  · rename_i k m k' n
    have h' : sFltK fops op k k' m n = some (r, ob) := h
    unfold sFltK at h'
    split at h' <;> try (cases h'; done)
    rename_i hk
    simp only [decide_eq_true_eq] at hk
    subst hk
    have hne : u ≠ .nilIface := by obtain ⟨q, rfl, _⟩ := hu; simp
    unfold sFlt at h'
    split at h'
    · rename_i hop
      cases h'
      obtain ⟨q, w', h1, h2, h3, h4, h5⟩ := FR.bin hop hu hv P t w
      exact ⟨q, w', fin hne h1, h2, h3, h4, h5⟩
    · rename_i hop
      split at h' <;> try (cases h'; done)
      rename_i hc
      cases h'
      exact ⟨_, w, fin hne (FR.cmp hop hc hu hv P t w), rfl, rfl, rfl, rfl⟩
  · rename_i s q
    cases hu; cases hv
    have h' : sStr op s q = some (r, ob) := h
    cases op <;> simp [sStr] at h' <;> obtain ⟨rfl, rfl⟩ := h'
    · have := hob.head
      simp only [decide_eq_true_eq] at this
      refine ⟨.string (s ++ q), w, fin (by simp) ?_, rfl, rfl, rfl, rfl⟩
      have hmax : ¬ ((((s.size + q.size : Nat)) : Int) > IntKind.i64.max) := by
        rw [IntKind.max_i64]; omega
      simp only [binOp, Op.stringOp, hmax, if_false]
      rfl
    · exact ⟨_, w, fin (by simp) (by simp [binOp, Op.stringOp, SB.val]), rfl, rfl, rfl, rfl⟩
    · exact ⟨_, w, fin (by simp) (by simp [binOp, Op.stringOp, SB.val]), rfl, rfl, rfl, rfl⟩
theorem SB.not_val (b : SB) : b.not.val = !b.val := by cases b <;> rfl
theorem sUn_ok {op : UnOp} {x r : SC} (h : sUn fops op x = some r) {u : Value} (hu : RelC E x u) : ∃ q, (Op.unary op u).run P w = .ok q w ∧ RelC E r q := by
  cases x <;> first | (simp [sUn] at h; done) | skip
  · rename_i b
    cases hu
    cases op <;> simp [sUn] at h
    subst h
    exact ⟨.bool (!b.val), by simp [Op.unary], by simp [RelC, SB.not_val]⟩
  · rename_i k n
    cases hu
    cases n <;> rename_i n <;> cases op <;> simp [sUn] at h <;> subst h <;> exact ⟨.int k (k.wrap (0 - n)), by simp [Op.unary, Op.intArith, SI.val], by simp [RelC, SI.val]⟩
  · cases op <;> simp [sUn] at h
    subst h
    obtain ⟨q, h1, h2⟩ := FR.neg hu P w
    exact ⟨q, h1, h2⟩
theorem conv_int_int {s d : TypeId} {su : TypeDesc} {k k' : IntKind} {n : Int} (hs : P.underlying s = some su) (hd : P.underlying d = some (.int k')) : (convert s d (.int k n)).run P w = .ok (.int k' (k'.wrap n)) w := by
  unfold convert
  simp only [Sem.run_bind, run_underlying hs, run_underlying hd, Result.andThen_ok] <;> (cases su <;> rfl)
theorem conv_int_flt {s d : TypeId} {su : TypeDesc} {k : IntKind} {k' : FloatKind} {n : Int} (hs : P.underlying s = some su) (hd : P.underlying d = some (.float k')) : (convert s d (.int k n)).run P w = .ok (.float k' (k'.nearest n)) w := by
  unfold convert
  simp only [Sem.run_bind, run_underlying hs, run_underlying hd, Result.andThen_ok] <;> (cases su <;> rfl)
theorem conv_flt_int {s d : TypeId} {su : TypeDesc} {k : FloatKind} {k' : IntKind} {n : Nat} (hs : P.underlying s = some su) (hd : P.underlying d = some (.int k')) : (convert s d (.float k n)).run P w = (Conv.floatToInt k n k').run P w := by
  unfold convert
  simp only [Sem.run_bind, run_underlying hs, run_underlying hd, Result.andThen_ok] <;> (cases su <;> rfl)
theorem conv_flt_flt {s d : TypeId} {su : TypeDesc} {k k' : FloatKind} {n : Nat} (hs : P.underlying s = some su) (hd : P.underlying d = some (.float k')) : (convert s d (.float k n)).run P w = (Conv.floatToFloat k n k').run P w := by
  unfold convert
  simp only [Sem.run_bind, run_underlying hs, run_underlying hd, Result.andThen_ok] <;> (cases su <;> rfl)
theorem conv_str_str {s d : TypeId} {su : TypeDesc} {n : ByteArray} (hs : P.underlying s = some su) (hd : P.underlying d = some .string) : (convert s d (.string n)).run P w = .ok (.string n) w := by
  unfold convert
  simp only [Sem.run_bind, run_underlying hs, run_underlying hd, Result.andThen_ok] <;> (cases su <;> rfl)
theorem sConv_ok {s d : TypeId} {su du : TypeDesc} (hs : P.underlying s = some su) (hd : P.underlying d = some du) {x r : SC} {ob : List Bool} (h : sConv fops du x = some (r, ob)) (hob : AllT ob) {u : Value} (hu : RelC E x u) :
    ∃ q w', (convert s d u).run P w = .ok q w' ∧ RelC E r q ∧ w'.heap = w.heap ∧ w'.os = w.os ∧ w'.output = w.output := by
  cases x <;> first | (simp [sConv] at h; done) | skip
  · rename_i k n
    cases hu
    cases n <;> cases du <;> simp [sConv] at h <;> obtain ⟨rfl, rfl⟩ := h
    · exact ⟨_, w, conv_int_int hs hd, rfl, rfl, rfl, rfl⟩
    · exact ⟨_, w, conv_int_flt hs hd, FR.ofInt _ _, rfl, rfl, rfl⟩
    · exact ⟨_, w, conv_int_int hs hd, rfl, rfl, rfl, rfl⟩
    · exact ⟨_, w, conv_int_flt hs hd, FR.ofInt _ _, rfl, rfl, rfl⟩
  · rename_i k n
    obtain ⟨q, rfl, hq⟩ := hu
    cases du <;> simp only [sConv] at h <;> try (cases h; done)
    · cases h
      exact ⟨_, w, (conv_flt_int hs hd).trans (FR.toInt ⟨q, rfl, hq⟩ hob.head P w), rfl, rfl, rfl, rfl⟩
    · rename_i k'
      split at h
      · rename_i hk
        cases h
        simp only [decide_eq_true_eq] at hk
        subst hk
        exact ⟨.float k q, w, (conv_flt_flt hs hd).trans (by simp [Conv.floatToFloat]), ⟨q, rfl, hq⟩, rfl, rfl, rfl⟩
      · rename_i hk
        simp only [decide_eq_false_iff_not] at hk
        cases k with
        | f32 =>
          cases h
          have hk64 : k' = .f64 := by cases k' <;> first | rfl | exact absurd rfl hk
          subst hk64
          obtain ⟨r, w', h1, h2, h3, h4, h5⟩ := FR.conv hk ⟨q, rfl, hq⟩ (conv_ok _) P w rfl
          exact ⟨r, w', (conv_flt_flt hs hd).trans h1, h2, h3, h4, h5⟩
        | f64 =>
          cases h
          obtain ⟨r, w', h1, h2, h3, h4, h5⟩ := FR.conv hk ⟨q, rfl, hq⟩ hob.head P w rfl
          exact ⟨r, w', (conv_flt_flt hs hd).trans h1, h2, h3, h4, h5⟩
  · cases hu
    cases du <;> simp [sConv] at h
    obtain ⟨rfl, rfl⟩ := h
    exact ⟨_, w, conv_str_str hs hd, rfl, rfl, rfl, rfl⟩
end

end Go.Proofs.YtaodbpejeglmlaaDoor
