/- Each operation of the model does what the executor says, third part. Nothing is assumed. -/
import Derived.Test.YtaodbpejeglmlaaDoorSg
namespace Go.Proofs.YtaodbpejeglmlaaDoor
open Go

section
variable {P : Program} {a : Act} {w0 w : World} {T0 : Nat → Nat → Prop} {E : EM} {gt : Nat → SV} {gs : Nat → Option Seg} {next : Nat}

theorem oFieldAddr_ok (hm : MemRel w0 T0 E gs w) {s : TypeId} {p : SC} {v : Value} (hv : RelC E p v) {f : Nat} {e : Eff} (h : oFieldAddr P next (P.underlying s) p f = some e) :
    NextOK P ((do pure (Next.value (← Instr.fieldAt s v f)) : Sem Next).run P w) (PostOp w0 T0 E gs next e) := by
  unfold oFieldAddr at h
  split at h <;> try (cases h; done)
  rename_i fs hu
  obtain ⟨⟨o, n⟩, hpl, h⟩ := bindO_some h
  split at h <;> try (cases h; done)
  rename_i n' hn
  simp only at hn
  subst hn
  obtain ⟨c, hc, h⟩ := bindO_some h
  cases h
  unfold fieldPl at hpl
  split at hpl <;> try (cases hpl; done)
  rename_i fd hfd
  split at hpl <;> cases hpl
  rename_i hsz
  have run : ∀ b q, v = .pointer (some ⟨b, q, none⟩) → (Instr.fieldAt s v f).run P w = .ok (.pointer (some ⟨b, q + fd.offset, none⟩)) w := by
    intro b q hq
    subst hq
    simp [Instr.fieldAt, run_underlying hu, hfd, Instr.sureAddr, fieldPlace, rSize hsz, addr_add]
  cases p <;> simp only [addOff, Option.some.injEq] at hc <;> try (cases hc; done)
  · subst hc
    obtain ⟨b, q, z, hE, rfl⟩ := hv
    exact next_v (run _ _ rfl) (post_pure hm (v := .c (.ptr _ _)) ⟨b, q, z, hE, by rw [Nat.add_assoc]⟩)
  · subst hc
    obtain ⟨b, q, z, hE, i, hi, hlt, rfl⟩ := hv
    exact next_v (run _ _ rfl) (post_pure hm (v := .c (.ptrx _ _ _ _ _)) ⟨b, q, z, hE, i, hi, hlt, by congr 3; omega⟩)
  · subst hc
    obtain ⟨b, q, z, hE, i, hi, rfl⟩ := hv
    exact next_v (run _ _ rfl) (post_pure hm (v := .c (.ptrr _ _ _ _)) ⟨b, q, z, hE, i, hi, by congr 3; omega⟩)

theorem part_ok {t : TypeId} {n : Nat} {ag : Bool} (hn : tsize P t = some n) (hag : tagg P t = some ag) {l r : List SC} {cs : Array Value} (hr : RelL E l cs.toList) {o : Nat} (hp : Proofs.YtaodbpejeglmlaaDoor.part l o n = some r) {v : SV} (hv : ofCells ag r = some v) :
    ∃ u, (Go.part t cs o).run P w = .ok u w ∧ RelV E v u := by
  have h := hr.part hp
  cases ag with
  | true =>
    refine ⟨.agg (cs.extract o (o + n)), by simp [Go.part, rAgg hag, rSize hn], ?_⟩
    have e : (cs.extract o (o + n)) = ((cs.toList.drop o).take n).toArray := by
      apply Array.toList_inj.1
      simp [Array.toList_extract, List.extract_eq_take_drop]
    rw [e]; exact ofCells_agg hv h.1
  | false =>
    obtain ⟨u, hu, hvu⟩ := ofCells_one hv h.1
    have hn1 : n = 1 := by
      have := h.1.len; rw [hu] at this; rw [← h.2]; simpa using this
    subst hn1
    have hget : cs[o]? = some u := by
      have : ((cs.toList.drop o).take 1)[0]? = some u := by rw [hu]; rfl
      simpa [List.getElem?_take, List.getElem?_drop] using this
    exact ⟨u, by simp [Go.part, rAgg hag, hget], hvu⟩
theorem oField_ok (hm : MemRel w0 T0 E gs w) {s : TypeId} {x : SV} {v : Value} (hv : RelV E x v) {f : Nat} {e : Eff} (h : oField P next (P.underlying s) x f = some e) :
    NextOK P ((do pure (Next.value (← Instr.field s v f)) : Sem Next).run P w) (PostOp w0 T0 E gs next e) := by
  unfold oField at h
  split at h <;> try (cases h; done)
  rename_i fs hu
  split at h <;> try (cases h; done)
  rename_i l
  obtain ⟨fd, hfd, h⟩ := bindO_some h
  obtain ⟨n, hn, h⟩ := bindO_some h
  obtain ⟨ag, hag, h⟩ := bindO_some h
  obtain ⟨r, hr, h⟩ := bindO_some h
  obtain ⟨q, hq, h⟩ := bindO_some h
  cases h
  obtain ⟨vs, rfl, hl⟩ := hv
  obtain ⟨u, hrun, hu'⟩ := part_ok (P := P) (w := w) hn hag hl hr hq
  refine next_v (v := u) (w' := w) ?_ (post_pure hm hu')
  simp [Instr.field, run_underlying hu, hfd, asAgg, hrun]

theorem run_indexAt {t el : TypeId} {es : Nat} (hes : tsize P el = some es) {x : Value} {a : Addr} {len : Nat} {k : IntKind} {i : Nat} (hi : i < len)
    (hx : (∃ n, P.underlying t = some (.array n el) ∧ n = len ∧ x = .pointer (some a)) ∨ (∃ c, P.underlying t = some (.slice el) ∧ x = .slice (some a) len c)) :
    (Instr.indexAt t x (.int k i)).run P w = .ok (.pointer (some (a.add (i * es)))) w := by
  rcases hx with ⟨n, hu, rfl, rfl⟩ | ⟨c, hu, rfl⟩
  · simp [Instr.indexAt, asIntOf, run_underlying hu, Instr.sureAddr, hi, rSize hes]
  · simp [Instr.indexAt, asIntOf, run_underlying hu, hi, rSize hes]
theorem oIndexAddr_ok (hm : MemRel w0 T0 E gs w) {t : TypeId} {p i : SC} {v u : Value} (hv : RelC E p v) (hu : RelC E i u) {e : Eff} (h : oIndexAddr P gs next (P.underlying t) p i = some e) (hob : AllT e.obs) :
    NextOK P ((do pure (Next.value (← Instr.indexAt t v u)) : Sem Next).run P w) (PostOp w0 T0 E gs next e) := by
  unfold oIndexAddr at h
  split at h <;> try (cases h; done)
  rename_i k n
  cases hu
  split at h
  · rename_i len el hund
    split at h <;> try (cases h; done)
    obtain ⟨es, hes, h⟩ := bindO_some h
    unfold retO at h
    split at h <;> cases h
    rename_i c ob hc
    unfold sIndex at hc
    split at hc
    · rename_i id o m
      split at hc <;> cases hc
      rename_i hlt
      rw [Nat.ble_eq] at hlt
      obtain ⟨b, q, z, hE, rfl⟩ := hv
      refine next_v (run_indexAt hes (by omega : m < len) (.inl ⟨len, hund, rfl, rfl⟩)) (post_pure hm (v := .c (.ptr _ _)) ⟨b, q, z, hE, ?_⟩)
      rw [addr_add, Nat.add_assoc]
    · rename_i id o m
      cases hc
      have hb := hob.head
      simp only [decide_eq_true_eq] at hb
      obtain ⟨b, q, z, hE, rfl⟩ := hv
      obtain ⟨j, rfl⟩ := Int.eq_ofNat_of_zero_le hb.1
      refine next_v (run_indexAt hes (by omega : j < len) (.inl ⟨len, hund, rfl, rfl⟩)) (post_pure hm (v := .c (.ptrx _ _ _ _ _)) ⟨b, q, z, hE, j, rfl, by omega, ?_⟩)
      rw [addr_add]
    · rename_i id o st idx m
      split at hc <;> cases hc
      rename_i hlt
      rw [Nat.ble_eq] at hlt
      obtain ⟨b, q, z, hE, i, rfl, rfl⟩ := hv
      refine next_v (run_indexAt hes (by omega : m < len) (.inl ⟨len, hund, rfl, rfl⟩)) (post_pure hm (v := .c (.ptrr _ _ _ _)) ⟨b, q, z, hE, i, rfl, ?_⟩)
      rw [addr_add, show q + o + i * st + m * es = q + (o + m * es) + i * st by omega]
    · cases hc
  · rename_i el hund
    unfold oIndexAddr2 at h
    split at h <;> try (cases h; done)
    rename_i id o es m full
    have g1 := bindO_some h
    clear h
    obtain ⟨es', hes, g2⟩ := g1
    have g3 := bindO_some g2
    clear g2
    obtain ⟨⟨r, ob⟩, hr, g4⟩ := g3
    cases g4
    obtain ⟨base, nn, cap, rfl, hlen, hcap, hnil, hbase⟩ := hv
    -- the slice is not empty: it has an address
    have key : ∀ j : Nat, j < nn → ∃ b q z, E id = some (b, q, z) ∧ base = some ⟨b, q + o, none⟩ := by
      intro j hj
      cases base with
      | none => have := hnil rfl; omega
      | some a =>
        obtain ⟨_, b, q, z, hE, ha, _⟩ := hbase a rfl
        exact ⟨b, q, z, hE, by rw [ha (by omega)]⟩
    unfold sIndexS at hr
    split at hr
    · rename_i m' n'
      split at hr <;> cases hr
      rename_i hc
      simp only [Bool.and_eq_true, Nat.ble_eq, beqN] at hc
      obtain ⟨hlt, rfl⟩ := hc
      simp only [SI.val, Int.ofNat_eq_natCast] at hlen
      have hj : n' < nn := by omega
      obtain ⟨b, q, z, hE, rfl⟩ := key n' hj
      refine next_v (run_indexAt hes hj (.inr ⟨cap, hund, rfl⟩)) (post_pure hm (v := .c (.ptr _ _)) ⟨b, q, z, hE, ?_⟩)
      rw [addr_add, Nat.add_assoc]
    · rename_i m' n'
      split at hr <;> cases hr
      rename_i hc
      rw [beqN] at hc
      subst hc
      simp only [SI.val, Int.ofNat_eq_natCast] at hlen
      have hb := hob.head
      simp only [decide_eq_true_eq] at hb
      obtain ⟨j, rfl⟩ := Int.eq_ofNat_of_zero_le hb.1
      have hj : j < nn := by omega
      obtain ⟨b, q, z, hE, rfl⟩ := key j hj
      refine next_v (run_indexAt hes hj (.inr ⟨cap, hund, rfl⟩)) (post_pure hm (v := .c (.ptrx _ _ _ _ _)) ⟨b, q, z, hE, j, rfl, by omega, ?_⟩)
      rw [addr_add]
    · rename_i m'
      split at hr <;> try (cases hr; done)
      rename_i hes2 _
      rw [beqN] at hes2
      split at hr
      · cases hr
        rename_i hc
        simp only [Bool.and_eq_true, beqN] at hc
        obtain ⟨rfl, rfl⟩ := hc
        subst hes2
        simp only [SI.val, Int.ofNat_eq_natCast] at hlen
        have hb := hob.head
        simp only [decide_eq_true_eq] at hb
        obtain ⟨j, hj'⟩ := Int.eq_ofNat_of_zero_le hb.1
        have hj : j < nn := by omega
        obtain ⟨b, q, z, hE, rfl⟩ := key j hj
        rw [hj']
        refine next_v (run_indexAt hes hj (.inr ⟨cap, hund, rfl⟩)) (post_pure hm (v := .c (.ptrr _ _ _ _)) ⟨b, q, z, hE, j, rfl, ?_⟩)
        rw [addr_add]
      · split at hr <;> cases hr
        rename_i hc
        simp only [Bool.and_eq_true, beqN, Nat.ble_eq] at hc
        obtain ⟨hmod, rfl, hpos⟩ := hc
        subst hes2
        simp only [SI.val, Int.ofNat_eq_natCast] at hlen
        have hb := hob.head
        simp only [decide_eq_true_eq] at hb
        obtain ⟨j, hj'⟩ := Int.eq_ofNat_of_zero_le hb.1
        have hj : j < nn := by omega
        obtain ⟨b, q, z, hE, rfl⟩ := key j hj
        rw [hj']
        rename_i st _ _ _ _ _ _
        refine next_v (run_indexAt hes hj (.inr ⟨cap, hund, rfl⟩)) (post_pure hm (v := .c (.ptrr _ _ _ _)) ⟨b, q, z, hE, j + o / _, by rw [Int.natCast_add], ?_⟩)
        rw [addr_add, Nat.add_mul, Nat.div_mul_cancel (Nat.dvd_of_mod_eq_zero hmod)]
        congr 3
        omega
    · cases hr
  · cases h

theorem u8s_ok : ∀ {l : List SC} {r : List Int} {vs : List Value}, u8s l = some r → RelL E l vs → vs = r.map (Value.int .u8)
  | [], r, [], h, _ => by cases h; rfl
  | [], r, _ :: _, h, hr => hr.elim
  | x :: l, r, [], h, hr => hr.elim
  | x :: l, r, v :: vs, h, hr => by
    unfold u8s at h
    split at h <;> try (cases h; done)
    · rename_i heq; cases heq
    · rename_i n l' heq
      cases heq
      split at h <;> cases h
      rename_i q hq
      have h1 : v = .int .u8 n.val := hr.1
      rw [u8s_ok hq hr.2, h1]
      rfl
theorem oBytes_ok (hm : MemRel w0 T0 E gs w) {s d : TypeId} {i o es n : Nat} {f : Bool} {v : Value} (hv : RelC E (.sl i o es (.c (.ofNat n)) f) v) {e : Eff} (h : oBytes P gs next s d i o es n = some e) (hob : AllT e.obs) :
    ∃ u, (convert s d v).run P w = .ok u w ∧ PostOp w0 T0 E gs next e u w := by
  unfold oBytes at h
  split at h <;> try (cases h; done)
  rename_i el hs hd
  split at h <;> try (cases h; done)
  rename_i he
  split at h <;> try (cases h; done)
  rename_i h1
  rw [Nat.ble_eq] at h1
  obtain ⟨g, hg, h⟩ := bindO_some h
  obtain ⟨⟨l, ob⟩, hl, h⟩ := bindO_some h
  obtain ⟨r, hr, h⟩ := bindO_some h
  cases h
  obtain ⟨base, nn, cap, rfl, hn, hcap, hnil, hbase⟩ := hv
  have hnn : nn = n := by simp only [SI.val, Int.ofNat_eq_natCast] at hn; omega
  subst hnn
  cases base with
  | none => have := hnil rfl; omega
  | some ad =>
    obtain ⟨_, b, q, z, hE, ha, _⟩ := hbase ad rfl
    have had := ha (by omega)
    subst had
    obtain ⟨b', o', hv', vs, hlen, hrel, hcell⟩ := sLoad_ok hm hg (p := .ptr i o) rfl (v := .pointer (some ⟨b, q + o, none⟩)) ⟨b, q, z, hE, rfl⟩ hl hob
    cases hv'
    have hvs := u8s_ok hr hrel
    refine ⟨.string (bytesL r), ?_, post_pure hm (v := .c (.str _)) rfl⟩
    rw [run_convert_bytes_string w s d el _ _ _ hs he hd]
    refine run_bytesToString w _ _ _ r ?_
    have e := run_loadCells_list (P := P) w ⟨b, q + o, none⟩ vs fun j u hj => by
      have hjl : j < nn := by
        rcases Nat.lt_or_ge j vs.length with h' | h'
        · omega
        · rw [List.getElem?_eq_none h'] at hj; cases hj
      rw [addr_add, hcell j hjl]; exact hj
    rw [hlen, hvs] at e
    exact e
theorem oIndex_ok (hm : MemRel w0 T0 E gs w) {t : TypeId} {x : SV} {i : SC} {v u : Value} (hv : RelV E x v) (hu : RelC E i u) {e : Eff} (h : oIndex P next (P.underlying t) x i = some e) (hob : AllT e.obs) :
    NextOK P ((do pure (Next.value (← Instr.index t v u)) : Sem Next).run P w) (PostOp w0 T0 E gs next e) := by
  unfold oIndex at h
  split at h <;> try (cases h; done)
  rename_i k n
  cases hu
  split at h <;> try (cases h; done)
  rotate_left
  · rename_i s
    cases hv
    unfold oIndexStr at h
    split at h <;> cases h
    rename_i hund
    have hb := hob.head
    simp only [decide_eq_true_eq] at hb
    obtain ⟨j, hj⟩ := Int.eq_ofNat_of_zero_le hb.1
    have hjl : j < s.size := by omega
    refine next_v (v := .int .u8 (byteAt s n.val)) ?_ (post_pure hm (v := .c (.int .u8 (.s _))) rfl)
    have hnat : n.val.toNat = j := by omega
    have hget : s[j]? = some (s.data.toList.getD j 0) := by
      rw [getElem?_pos s j hjl]
      congr 1
      have : j < s.data.toList.length := by simpa using hjl
      rw [List.getD_eq_getElem?_getD, List.getElem?_eq_getElem this]
      simp; rfl
    unfold byteAt
    rw [hnat]
    simp [Instr.index, asIntOf, run_underlying hund, hb.1, hnat, hget]
  rename_i l
  obtain ⟨vs, rfl, hl⟩ := hv
  split at h <;> try (cases h; done)
  rename_i len el hund
  have g1 := bindO_some h
  clear h
  obtain ⟨es, hes, g2⟩ := g1
  have g3 := bindO_some g2
  clear g2
  obtain ⟨ag, hag, h⟩ := g3
  have fin : ∀ (j : Nat) (q : SV), j < len → (∃ y, (Go.part el vs (j * es)).run P w = .ok y w ∧ RelV E q y) → ∃ y, (Instr.index t (.agg vs) (.int k j)).run P w = .ok y w ∧ RelV E q y := by
    intro j q hj ⟨y, h1, h2⟩
    refine ⟨y, ?_, h2⟩
    simp [Instr.index, asIntOf, run_underlying hund, hj, rSize hes, h1]
  unfold oIndex2 at h
  split at h
  · rename_i m
    split at h <;> try (cases h; done)
    rename_i hlt
    rw [Nat.ble_eq] at hlt
    have g1 := bindO_some h
    clear h
    obtain ⟨r, hr, g2⟩ := g1
    obtain ⟨q, hq, g3⟩ := bindO_some g2
    cases g3
    obtain ⟨y, h1, h2⟩ := fin m q (by omega) (part_ok hes hag hl hr hq)
    exact next_v h1 (post_pure hm h2)
  · rename_i m
    obtain ⟨r, hr, h⟩ := bindO_some h
    obtain ⟨q, hq, h⟩ := bindO_some h
    cases h
    have hb := hob.head
    simp only [decide_eq_true_eq] at hb
    obtain ⟨j, rfl⟩ := Int.eq_ofNat_of_zero_le hb.1
    have hj : j < len := by omega
    have hsg := selRow_get hr rfl (Nat.zero_le _) (by omega : j < 0 + len)
    have hsl := selRow_len hr (Nat.zero_le _) (by omega : j < 0 + len)
    have hrel : RelL E r ((vs.toList.drop (j * es)).take es) := by
      refine RelL.of_getD ?_ fun k hk => ?_
      · have hlv := hl.len
        rw [hsg.1]
        rcases Nat.eq_zero_or_pos es with h0 | h0
        · subst h0; simp
        · have := hsl (es - 1) (by omega)
          simp at hlv ⊢; omega
      · rw [hsg.1] at hk
        obtain ⟨y, h1, h2⟩ := hl.getD (0 + j * es + k) (hsl k hk)
        refine ⟨y, ?_, hsg.2 E k y hk h2⟩
        rw [List.getElem?_take_of_lt hk, List.getElem?_drop]
        rw [Nat.zero_add] at h1; exact h1
    have hpart : ∃ y, (Go.part el vs (j * es)).run P w = .ok y w ∧ RelV E q y := by
      cases ag with
      | true =>
        refine ⟨.agg (vs.extract (j * es) (j * es + es)), by simp [Go.part, rAgg hag, rSize hes], ?_⟩
        have e : (vs.extract (j * es) (j * es + es)) = ((vs.toList.drop (j * es)).take es).toArray := by
          apply Array.toList_inj.1
          simp [Array.toList_extract, List.extract_eq_take_drop]
        rw [e]; exact ofCells_agg hq hrel
      | false =>
        obtain ⟨y, hy, hvy⟩ := ofCells_one hq hrel
        have hn1 : es = 1 := by
          have := hrel.len; rw [hy] at this; rw [← hsg.1]; simpa using this
        subst hn1
        have hget : vs[j * 1]? = some y := by
          have : ((vs.toList.drop (j * 1)).take 1)[0]? = some y := by rw [hy]; rfl
          simpa [List.getElem?_take, List.getElem?_drop] using this
        exact ⟨y, by simp only [Go.part, Sem.run_bind, rAgg hag, Result.andThen_ok, hget]; rfl, hvy⟩
    obtain ⟨y, h1, h2⟩ := fin j q hj hpart
    exact next_v h1 (post_pure hm h2)
  · cases h

theorem RelEs.get : ∀ {l : List SE} {vs : List Value}, RelEs E l vs → ∀ {i : Nat} {x : SE}, l[i]? = some x → ∃ v, vs[i]? = some v ∧ RelE E x v
  | [], _, _, _, _, h => by simp at h
  | _ :: _, [], r, _, _, _ => r.elim
  | y :: l, v :: vs, r, 0, x, h => by simp at h; subst h; exact ⟨v, rfl, r.1⟩
  | y :: l, v :: vs, r, i + 1, x, h => by
    obtain ⟨u, h1, h2⟩ := RelEs.get r.2 (show l[i]? = some x by simpa using h)
    exact ⟨u, by simpa using h1, h2⟩
theorem oExtract_ok (hm : MemRel w0 T0 E gs w) {x : SV} {v : Value} (hv : RelV E x v) {i : Nat} {e : Eff} (h : oExtract next x i = some e) :
    NextOK P ((do pure (Next.value (← Instr.extract v i)) : Sem Next).run P w) (PostOp w0 T0 E gs next e) := by
  unfold oExtract at h
  split at h <;> try (cases h; done)
  obtain ⟨vs, rfl, hl⟩ := hv
  split at h <;> cases h
  · rename_i c hc
    obtain ⟨u, h1, h2⟩ := hl.get hc
    refine next_v (v := u) (w' := w) ?_ (post_pure hm (v := .c c) h2)
    simp [Instr.extract] at h1 ⊢
    simp [h1]
  · rename_i m hc
    obtain ⟨u, h1, h2⟩ := hl.get hc
    refine next_v (v := u) (w' := w) ?_ (post_pure hm (v := .a m) h2)
    simp [Instr.extract] at h1 ⊢
    simp [h1]

theorem natOf_ok (hT : ∀ t, RelV E (gt t) (a.tmps.getD t undef)) {x : Option Operand} {d n : Nat} (h : natOf gt x d = some n) : (x = none ∧ n = d) ∨ ∃ y k, x = some y ∧ a.eval y = .int k n := by
  cases x with
  | none => cases h; exact .inl ⟨rfl, rfl⟩
  | some y =>
    simp only [natOf] at h
    split at h <;> cases h
    rename_i k he
    refine .inr ⟨y, k, rfl, ?_⟩
    unfold evC at he
    split at he <;> cases he
    rename_i hx
    exact ev_ok hT hx
theorem run_bounds (hT : ∀ t, RelV E (gt t) (a.tmps.getD t undef)) {lo hi : Option Operand} {len cap l h : Nat} (hl : natOf gt lo 0 = some l) (hh : natOf gt hi len = some h) (h1 : l ≤ h) (h2 : h ≤ cap) (isS : Bool) :
    (Instr.sliceBounds isS len cap (lo.map a.eval) (hi.map a.eval) none).run P w = .ok (l, h, cap) w := by
  rcases natOf_ok hT hl with ⟨rfl, rfl⟩ | ⟨y, k, rfl, hy⟩ <;> rcases natOf_ok hT hh with ⟨rfl, rfl⟩ | ⟨y', k', rfl, hy'⟩
  · simp [Instr.sliceBounds]
  · simp [Instr.sliceBounds, Instr.sliceBound, hy', asIntOf, h2]
  · simp [Instr.sliceBounds, Instr.sliceBound, hy, asIntOf, h1]
  · simp [Instr.sliceBounds, Instr.sliceBound, hy, hy', asIntOf, h1, h2]
theorem oSlice0_ok (hm : MemRel w0 T0 E gs w) (hT : ∀ t, RelV E (gt t) (a.tmps.getD t undef)) {t : TypeId} {p : SC} {v : Value} (hv : RelC E p v) {lo hi : Option Operand} {e : Eff} (h : (bindO (sSlice P t gt p lo hi) fun r => retV next (.c r)) = some e) :
    NextOK P ((do pure (Next.value (← Instr.sliceAt t v (lo.map a.eval) (hi.map a.eval) none)) : Sem Next).run P w) (PostOp w0 T0 E gs next e) := by
  obtain ⟨r, hr, h⟩ := bindO_some h
  cases h
  unfold sSlice at hr
  split at hr
  · rename_i n el i o hund
    split at hr <;> try (cases hr; done)
    rename_i es hes
    split at hr <;> try (cases hr; done)
    rename_i l hh hl hhi
    split at hr <;> cases hr
    rename_i hc
    simp only [Bool.and_eq_true, Nat.ble_eq] at hc
    obtain ⟨b, q, z, hE, rfl⟩ := hv
    have hb := run_bounds (P := P) (w := w) hT hl hhi hc.1.1 hc.1.2 false
    refine next_v (v := .slice (some (if n = l then ⟨b, q + o, none⟩ else (⟨b, q + o, none⟩ : Addr).add (l * es))) (hh - l) (n - l)) (w' := w) ?_ (post_pure hm (v := .c (.sl i _ _ _ _)) ?_)
    · simp [Instr.sliceAt, run_underlying hund, Instr.sureAddr, hb, rSize hes]
    · refine ⟨_, hh - l, n - l, rfl, rfl, by omega, fun e => (by cases e), fun ad had => ?_⟩
      cases had
      refine ⟨?_, b, q, z, hE, fun hne => ?_, fun hf => by cases hf⟩
      · omega
      · rw [if_neg (by omega), addr_add, Nat.add_assoc]
  · rename_i el i o es n f hund
    split at hr <;> try (cases hr; done)
    rename_i es' hes
    split at hr <;> try (cases hr; done)
    rename_i l hh hl hhi
    split at hr <;> cases hr
    rename_i hc
    simp only [Bool.and_eq_true, Nat.ble_eq, beqN] at hc
    obtain ⟨⟨hc1, hc2⟩, rfl⟩ := hc
    obtain ⟨base, nn, cap, rfl, hlen, hcap, hnil, hbase⟩ := hv
    have hn : nn = n := by simp only [SI.val, Int.ofNat_eq_natCast] at hlen; omega
    subst hn
    have hb := run_bounds (P := P) (w := w) (cap := cap) hT hl hhi hc1 (by omega) true
    refine next_v (v := .slice (if cap = l then base else base.map (·.add (l * es))) (hh - l) (cap - l)) (w' := w) ?_ (post_pure hm (v := .c (.sl i _ _ _ _)) ?_)
    · simp [Instr.sliceAt, Instr.slice, run_underlying hund, hb, rSize hes]
    · refine ⟨_, hh - l, cap - l, rfl, rfl, by omega, fun e => ?_, fun ad had => ?_⟩
      · cases base with
        | none => have := hnil rfl; omega
        | some b0 => split at e <;> cases e
      · cases base with
        | none => split at had <;> cases had
        | some b0 =>
          obtain ⟨hi, b, q, z, hE, ha, hf⟩ := hbase b0 rfl
          refine ⟨hi, b, q, z, hE, fun hne => ?_, fun hful => ?_⟩
          · rw [if_neg (by omega)] at had
            cases had
            show b0.add (l * es) = _
            rw [ha (by omega), addr_add, Nat.add_assoc]
          · have := hf hful
            have hlc : l ≤ cap := by omega
            have e1 : (cap - l) * es = cap * es - l * es := Nat.sub_mul ..
            have e2 : l * es ≤ cap * es := Nat.mul_le_mul_right _ hlc
            omega
  · cases hr
theorem siOf_ok (hT : ∀ t, RelV E (gt t) (a.tmps.getD t undef)) {x : Option Operand} {n : SI} (h : siOf gt x = some n) : ∃ y k, x = some y ∧ a.eval y = .int k n.val := by
  cases x with
  | none => cases h
  | some y =>
    simp only [siOf] at h
    split at h <;> cases h
    rename_i k he
    refine ⟨y, k, rfl, ?_⟩
    unfold evC at he
    split at he <;> cases he
    rename_i hx
    exact ev_ok hT hx
theorem oSliceS_ok (hm : MemRel w0 T0 E gs w) (hT : ∀ t, RelV E (gt t) (a.tmps.getD t undef)) {t : TypeId} {i o es : Nat} {n : Int} {f : Bool} {v : Value} (hv : RelC E (.sl i o es (.s n) f) v) {lo hi : Option Operand} {e : Eff} (h : oSliceS P gt next t i o es n f lo hi = some e) (hob : AllT e.obs) :
    NextOK P ((do pure (Next.value (← Instr.sliceAt t v (lo.map a.eval) (hi.map a.eval) none)) : Sem Next).run P w) (PostOp w0 T0 E gs next e) := by
  unfold oSliceS at h
  split at h <;> try (cases h; done)
  rename_i el hund
  obtain ⟨es', hes, h⟩ := bindO_some h
  split at h <;> try (cases h; done)
  have hc : Nat.beq es es' = true := by assumption
  rw [beqN] at hc
  subst hc
  obtain ⟨base, nn, cap, rfl, hlen, hcap, hnil, hbase⟩ := hv
  have hn : n = (nn : Int) := hlen
  split at h
  · -- 'x[:hi]'
    split at h <;> try (cases h; done)
    split at h <;> cases h
    rename_i m hm'
    obtain ⟨y, k, hy, hy'⟩ := siOf_ok hT hm'
    cases hy
    have hb0 := hob.head
    simp only [decide_eq_true_eq] at hb0
    obtain ⟨M, rfl⟩ := Int.eq_ofNat_of_zero_le hb0.1
    have hMc : M ≤ cap := by omega
    refine next_v (v := .slice (if cap = 0 then base else base.map (·.add (0 * es))) (M - 0) (cap - 0)) (w' := w) ?_ (post_pure hm (v := .c (.sl i _ _ _ _)) ?_)
    · have hb' : (Instr.sliceBounds true nn cap none (some (.int k (M : Int))) none).run P w = .ok (0, M, cap) w := by simp [Instr.sliceBounds, Instr.sliceBound, asIntOf, hMc]
      simp only [Option.map_some, Option.map_none, hy', SI.val]
      simp [Instr.sliceAt, Instr.slice, run_underlying hund, hb', rSize hes]
    · refine ⟨_, M - 0, cap - 0, rfl, rfl, by omega, fun e => ?_, fun ad had => ?_⟩
      · cases base with
        | none => exact hnil rfl
        | some b0 => split at e <;> cases e
      · cases base with
        | none => split at had <;> cases had
        | some b0 =>
          obtain ⟨hi, b, q, z, hE, ha, hf⟩ := hbase b0 rfl
          refine ⟨hi, b, q, z, hE, fun hne => ?_, fun hful => hf hful⟩
          rw [if_neg (by omega)] at had
          cases had
          show b0.add (0 * es) = _
          rw [ha (by omega), addr_add, Nat.zero_mul, Nat.add_zero]
  · split at h
    · -- 'x[lo:]' at a place that is not known
      rename_i l hl
      split at h <;> cases h
      have ho : Nat.beq o 0 = true := by assumption
      rw [beqN] at ho
      subst ho
      obtain ⟨y, k, hy, hy'⟩ := siOf_ok hT hl
      cases hy
      have hb0 := hob.head
      simp only [decide_eq_true_eq] at hb0
      obtain ⟨L, rfl⟩ := Int.eq_ofNat_of_zero_le hb0.1
      have hLn : L ≤ nn := by omega
      refine next_v (v := .slice (if cap = L then base else base.map (·.add (L * es))) (nn - L) (cap - L)) (w' := w) ?_ (post_pure hm (v := .c (.slr i _ _ _)) ?_)
      · have hb' : (Instr.sliceBounds true nn cap (some (.int k (L : Int))) none none).run P w = .ok (L, nn, cap) w := by simp [Instr.sliceBounds, Instr.sliceBound, asIntOf, hLn]
        simp only [Option.map_some, Option.map_none, hy', SI.val]
        simp [Instr.sliceAt, Instr.slice, run_underlying hund, hb', rSize hes]
      · refine ⟨_, nn - L, cap - L, rfl, ?_, by omega, fun e => ?_, L, rfl, fun ad had => ?_⟩
        · omega
        · cases base with
          | none => have := hnil rfl; omega
          | some b0 => split at e <;> cases e
        · cases base with
          | none => split at had <;> cases had
          | some b0 =>
            obtain ⟨hi, b, q, z, hE, ha, hf⟩ := hbase b0 rfl
            refine ⟨b, q, z, hE, fun hne => ?_⟩
            rw [if_neg (by omega)] at had
            cases had
            show b0.add (L * es) = _
            rw [ha (by omega), addr_add, Nat.add_zero]
    · obtain ⟨l, hl, h⟩ := bindO_some h
      cases h
      have hb0 := hob.head
      simp only [decide_eq_true_eq] at hb0
      have hln : l ≤ nn := by omega
      have hb := run_bounds (P := P) (w := w) (cap := cap) (len := nn) (hi := none) (h := nn) hT hl rfl hln hcap true
      refine next_v (v := .slice (if cap = l then base else base.map (·.add (l * es))) (nn - l) (cap - l)) (w' := w) ?_ (post_pure hm (v := .c (.sl i _ _ _ _)) ?_)
      · have hb' : (Instr.sliceBounds true nn cap (lo.map a.eval) none none).run P w = .ok (l, nn, cap) w := hb
        simp [Instr.sliceAt, Instr.slice, run_underlying hund, hb', rSize hes]
      · refine ⟨_, nn - l, cap - l, rfl, ?_, by omega, fun e => ?_, fun ad had => ?_⟩
        · show n - (l : Int) = ((nn - l : Nat) : Int)
          omega
        · cases base with
          | none => have := hnil rfl; omega
          | some b0 => split at e <;> cases e
        · cases base with
          | none => split at had <;> cases had
          | some b0 =>
            obtain ⟨hi, b, q, z, hE, ha, hf⟩ := hbase b0 rfl
            refine ⟨hi, b, q, z, hE, fun hne => ?_, fun hful => ?_⟩
            · rw [if_neg (by omega)] at had
              cases had
              show b0.add (l * es) = _
              rw [ha (by omega), addr_add, Nat.add_assoc]
            · have := hf hful
              have hlc : l ≤ cap := by omega
              have e1 : (cap - l) * es = cap * es - l * es := Nat.sub_mul ..
              have e2 : l * es ≤ cap * es := Nat.mul_le_mul_right _ hlc
              omega
theorem oSliceV_ok (hm : MemRel w0 T0 E gs w) {t : TypeId} {i o st : Nat} {idx : Int} {v : Value} (hv : RelC E (.ptrr i o st idx) v) {lo hi : Option Operand} {e : Eff} (h : oSliceV P gs next t i o st idx lo hi = some e) (hne : next ≠ 0) (hfr : ∀ j, next ≤ j → j < e.next → E j = none) (hob : AllT e.obs) :
    NextOK P ((do pure (Next.value (← Instr.sliceAt t v (lo.map a.eval) (hi.map a.eval) none)) : Sem Next).run P w) (PostOp w0 T0 E gs next e) := by
  unfold oSliceV at h
  split at h <;> try (cases h; done)
  split at h <;> try (cases h; done)
  rename_i n el hund
  obtain ⟨es, hes, h⟩ := bindO_some h
  obtain ⟨g, hg, h⟩ := bindO_some h
  split at h <;> try (cases h; done)
  rename_i hrw
  obtain ⟨⟨l, ob⟩, hl, h⟩ := bindO_some h
  split at h <;> cases h
  have h1 : Nat.ble 1 (n * es) = true := by assumption
  rw [Nat.ble_eq] at h1
  have hn1 : E next = none := hfr next (Nat.le_refl _) (Nat.lt_succ_self _)
  obtain ⟨bb, o1, hv1, vs, hlen, hrel, hcell⟩ := sLoad_ok hm hg (p := .ptrr i o st idx) rfl hv hl hob
  obtain ⟨b, q, z, hE, ii, hidx, rfl⟩ := hv
  cases hv1
  obtain ⟨b2, q2, z2, cs, T, fr, hE2, s⟩ := hm.segs i g hg
  rw [hE] at hE2
  cases hE2
  -- where it lies
  have hin : q + o + ii * st + n * es ≤ q + z := by
    have hbody := hl
    cases hb : g.body with
    | cells l' => rw [hb] at hbody; simp only [sLoad] at hbody; cases hbody
    | rows st' N row =>
      rw [hb] at hbody
      simp only [sLoad] at hbody
      split at hbody <;> try (cases hbody; done)
      rename_i hc
      split at hbody <;> cases hbody
      simp only [Bool.and_eq_true, beqN, Nat.ble_eq] at hc
      obtain ⟨rfl, hc⟩ := hc
      have h3 := hob.head
      simp only [decide_eq_true_eq] at h3
      have h4 : st' * N.toNat ≤ z := by
        have := s.le
        rw [hb] at this
        exact this
      have h5 : ii + 1 ≤ N.toNat := by omega
      have h6 : (ii + 1) * st' ≤ N.toNat * st' := Nat.mul_le_mul_right _ h5
      rw [Nat.mul_comm N.toNat st', Nat.succ_mul] at h6
      omega
  have he : Ext E (upd E next (some (bb, q + o + ii * st, n * es))) := Ext.upd _ hn1
  have hll : l.length = n * es := hrel.len.trans hlen
  have hb0 : (Instr.sliceBounds false n n none none none).run P w = .ok (0, n, n) w := by simp [Instr.sliceBounds]
  refine next_v (v := .slice (some ⟨bb, q + o + ii * st, none⟩) n n) (w' := w) ?_ ⟨upd E next (some (bb, q + o + ii * st, n * es)), he, fun j hj => ?_, ?_, ?_⟩
  · have hnz : n ≠ 0 := fun h0 => by rw [h0, Nat.zero_mul] at h1; omega
    simp [Instr.sliceAt, run_underlying hund, Instr.sureAddr, hb0, rSize hes, hnz, addr_add]
  · by_cases ej : j = next
    · subst ej; exact .inr ⟨Nat.le_refl _, Nat.lt_succ_self _⟩
    · rw [upd_other _ _ ej] at hj; exact .inl hj
  · refine ⟨_, n, n, rfl, rfl, Nat.le_refl _, fun h0 => (by cases h0), fun ad had => ?_⟩
    cases had
    exact ⟨hne, bb, q + o + ii * st, n * es, upd_same _ _ _, fun _ => rfl, fun hf => by cases hf⟩
  · show MemRel w0 T0 _ (upd gs next (some ⟨false, false, .cells l⟩)) w
    refine ⟨fun j k hk => ?_, fun j k x y b1 o1 z1 b2 o2 z2 hjk hx hy hr hb1 hb2 => ?_, fun j x b1 o1 z1 hx hr hb1 => ?_, hm.fr, hm.tab⟩
    · by_cases ej : j = next
      · subst ej
        rw [upd_same] at hk; cases hk
        refine ⟨_, _, _, cs, T, fr, upd_same _ _ _, ⟨s.heap, Nat.le_of_eq hll, by have := s.fit; omega, fun h0 => (by cases h0), fun h0 => (by cases h0), fun m hm' => ?_⟩⟩
        have hm2 : m < n * es := by rw [← hll]; exact hm'
        obtain ⟨u, h2, h3⟩ := hrel.getD m hm'
        have h4 := hcell m hm2
        rw [h2] at h4
        refine ⟨u, ?_, h3.mono he⟩
        simpa [World.cell?, s.heap] using h4
      · rw [upd_other _ _ ej] at hk
        obtain ⟨b3, o3, z3, cs3, T3, fr3, e3, s3⟩ := hm.segs j k hk
        exact ⟨b3, o3, z3, cs3, T3, fr3, by rw [upd_other _ _ ej]; exact e3, s3.mono he⟩
    · by_cases ej : j = next
      · subst ej
        rw [upd_same] at hx hb1
        cases hx
        cases hb1
        rw [upd_other _ _ (Ne.symm hjk)] at hy hb2
        rcases hr with hr | hr
        · cases hr
        · have hik : i ≠ k := fun e' => by subst e'; rw [hg] at hy; cases hy; rw [hrw] at hr; cases hr
          have := hm.disj i k g y bb q z b2 o2 z2 hik hg hy (.inr hr) hE hb2
          omega
      · rw [upd_other _ _ ej] at hx hb1
        by_cases ek : k = next
        · subst ek
          rw [upd_same] at hy hb2
          cases hy
          cases hb2
          rcases hr with hr | hr
          · have hik : j ≠ i := fun e' => by subst e'; rw [hg] at hx; cases hx; rw [hrw] at hr; cases hr
            have := hm.disj j i x g b1 o1 z1 bb q z hik hx hg (.inl hr) hb1 hE
            omega
          · cases hr
        · rw [upd_other _ _ ek] at hy hb2
          exact hm.disj j k x y b1 o1 z1 b2 o2 z2 hjk hx hy hr hb1 hb2
    · by_cases ej : j = next
      · subst ej
        rw [upd_same] at hx; cases hx; cases hr
      · rw [upd_other _ _ ej] at hx hb1
        exact hm.tch j x b1 o1 z1 hx hr hb1
theorem oSlice_ok (hm : MemRel w0 T0 E gs w) (hT : ∀ t, RelV E (gt t) (a.tmps.getD t undef)) {t : TypeId} {p : SC} {v : Value} (hv : RelC E p v) {lo hi mx : Option Operand} {e : Eff} (h : oSlice P gt gs next t p lo hi mx = some e) (hne : next ≠ 0) (hfr : ∀ j, next ≤ j → j < e.next → E j = none) (hob : AllT e.obs) :
    NextOK P ((do pure (Next.value (← Instr.sliceAt t v (lo.map a.eval) (hi.map a.eval) (mx.map a.eval))) : Sem Next).run P w) (PostOp w0 T0 E gs next e) := by
  unfold oSlice at h
  split at h <;> try (cases h; done)
  split at h
  · exact oSliceS_ok hm hT hv h hob
  · exact oSliceV_ok hm hv h hne hfr hob
  · exact oSlice0_ok hm hT hv h
end

end Go.Proofs.YtaodbpejeglmlaaDoor
