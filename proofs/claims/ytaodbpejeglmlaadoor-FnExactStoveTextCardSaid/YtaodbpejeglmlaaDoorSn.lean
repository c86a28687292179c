/- A region that draws its order: every order comes to what the text's order comes to. Nothing is assumed. -/
import Derived.Test.YtaodbpejeglmlaaDoorSm
namespace Go.Proofs.YtaodbpejeglmlaaDoor
open Go

/-! ### an operation looks at no more than it names -/
theorem mem_tmpsOf {t : Nat} : ∀ {l : List Operand} {acc : List Nat}, t ∈ acc ∨ Operand.tmp t ∈ l → t ∈ tmpsOf l acc
  | [], acc, h => by simpa [tmpsOf] using h
  | x :: l, acc, h => by
    have ih : t ∈ acc ∨ Operand.tmp t ∈ l → t ∈ tmpsOf l acc := mem_tmpsOf
    cases x with
    | tmp s =>
      simp only [tmpsOf, List.mem_cons]
      rcases h with h | h
      · exact .inr (ih (.inl h))
      · rcases List.mem_cons.1 h with h | h
        · cases h; exact .inl rfl
        · exact .inr (ih (.inr h))
    | _ =>
      simp only [tmpsOf]
      rcases h with h | h
      · exact ih (.inl h)
      · rcases List.mem_cons.1 h with h | h
        · cases h
        · exact ih (.inr h)
theorem mem_looks {ops : List Oper} {o : Oper} {t : Nat} (h : Operand.tmp t ∈ o.op.operands.toList) : t ∈ looksN ops o := mem_tmpsOf (.inr h)
theorem guard_looks {ops : List Oper} {o q : Oper} {g d : Nat} {want : Bool} (h : o.guard = some (g, want)) (hq : ops[g]? = some q) (hd : q.dst = some d) : d ∈ looksN ops o := by
  unfold looksN
  refine mem_tmpsOf (.inl ?_)
  rw [h]
  simp only [hq, hd, List.mem_singleton]
theorem memN_iff {n : Nat} : ∀ {l : List Nat}, memN n l = true ↔ n ∈ l
  | [] => by simp [memN]
  | m :: l => by
    change (Bool.rec (memN n l) true (Nat.beq n m) : Bool) = true ↔ _
    cases hb : Nat.beq n m
    · rw [List.mem_cons]
      have : n ≠ m := by intro e; rw [beqN.2 e] at hb; cases hb
      exact (memN_iff (l := l)).trans (by simp [this])
    · rw [beqN] at hb; subst hb; simp
theorem meets_iff {m : List Nat} : ∀ {l : List Nat}, meets l m = true ↔ ∃ x, x ∈ l ∧ x ∈ m
  | [] => by simp [meets]
  | x :: l => by
    change (Bool.rec (meets l m) true (memN x m) : Bool) = true ↔ _
    cases hb : memN x m
    · have hx : x ∉ m := fun h => by rw [memN_iff.2 h] at hb; cases hb
      refine (meets_iff (l := l)).trans ⟨fun ⟨y, h1, h2⟩ => ⟨y, List.mem_cons_of_mem _ h1, h2⟩, fun ⟨y, h1, h2⟩ => ?_⟩
      rcases List.mem_cons.1 h1 with h | h
      · subst h; exact absurd h2 hx
      · exact ⟨y, h, h2⟩
    · exact ⟨fun _ => ⟨x, List.mem_cons_self, memN_iff.1 hb⟩, fun _ => rfl⟩

theorem ev_congr {gt gt' : Nat → SV} {x : Operand} (h : ∀ t, x = .tmp t → gt' t = gt t) : ev gt' x = ev gt x := by
  cases x with
  | tmp t => show some (gt' t) = some (gt t); rw [h t rfl]
  | _ => rfl
theorem evC_congr {gt gt' : Nat → SV} {x : Operand} (h : ev gt' x = ev gt x) : evC gt' x = evC gt x := by unfold evC; rw [h]
theorem evL_congr {gt gt' : Nat → SV} {x : Operand} (h : ev gt' x = ev gt x) : evL gt' x = evL gt x := by unfold evL; rw [h]
theorem evs_congr {gt gt' : Nat → SV} : ∀ {l : List Operand}, (∀ x ∈ l, ev gt' x = ev gt x) → evs gt' l = evs gt l
  | [], _ => rfl
  | x :: l, h => by simp only [evs]; rw [h x (by simp), evs_congr fun y hy => h y (by simp [hy])]
theorem fillC_congr {gt gt' : Nat → SV} {pl : Nat → Option (Nat × Nat)} : ∀ {ps : List (Nat × Operand)} {l : List SC}, (∀ p ∈ ps, ev gt' p.2 = ev gt p.2) → fillC pl gt' l ps = fillC pl gt l ps
  | [], _, _ => rfl
  | (i, x) :: ps, l, h => by
    simp only [fillC]
    have e : evL gt' x = evL gt x := evL_congr (h (i, x) (by simp))
    rw [e]
    split <;> try rfl
    split <;> try rfl
    split <;> try rfl
    split <;> try rfl
    exact fillC_congr (ps := ps) fun p hp => h p (by simp [hp])
theorem grab_congr {gs gs' : Nat → Option Seg} : ∀ {l : List Nat} {acc : List (Nat × Seg)}, (∀ i ∈ l, gs' i = gs i) → grab gs' l acc = grab gs l acc
  | [], _, _ => rfl
  | i :: l, acc, h => by
    have h' : ∀ j ∈ l, gs' j = gs j := fun j hj => h j (by simp [hj])
    simp only [grab]
    rw [h i (by simp)]
    split
    · exact grab_congr h'
    · split
      · exact grab_congr h'
      · exact grab_congr h'
theorem reach_congr {gs gs' : Nat → Option Seg} {vs : List SV} (h : ∀ i ∈ reachI gs vs, gs' i = gs i) : reach gs' vs = reach gs vs ∧ reachI gs' vs = reachI gs vs := by
  have h1 : reach1 gs' vs = reach1 gs vs := grab_congr fun i hi => h i (by simp [reachI, hi])
  refine ⟨?_, by unfold reachI; rw [h1]⟩
  unfold reach
  rw [h1]
  exact grab_congr fun i hi => h i (by simp [reachI, hi])
theorem siOf_congr {gt gt' : Nat → SV} {x : Option Operand} (h : ∀ y, x = some y → ev gt' y = ev gt y) : siOf gt' x = siOf gt x := by
  cases x with
  | none => rfl
  | some y => simp only [siOf]; rw [evC_congr (h y rfl)]
theorem natOf_congr {gt gt' : Nat → SV} {x : Option Operand} {d : Nat} (h : ∀ y, x = some y → ev gt' y = ev gt y) : natOf gt' x d = natOf gt x d := by
  cases x with
  | none => rfl
  | some y => simp only [natOf]; rw [evC_congr (h y rfl)]

theorem sop_congr {cx : Cx} {gt gt' : Nat → SV} {gs gs' : Nat → Option Seg} {next : Nat} {op : Op} {e : Eff} (h : sop cx gt gs next op = some e) (ht : ∀ t, Operand.tmp t ∈ op.operands.toList → gt' t = gt t) (hs : ∀ i ∈ e.rd, gs' i = gs i) : sop cx gt' gs' next op = some e := by
  have hev : ∀ x, x ∈ op.operands.toList → ev gt' x = ev gt x := fun x hx => ev_congr fun t e => ht t (by rw [← e]; exact hx)
  cases op with
  | move x => rw [← h]; show bindO (ev gt' x) _ = bindO (ev gt x) _; rw [hev x (by simp [Op.operands])]
  | assign x => rw [← h]; show bindO (ev gt' x) _ = bindO (ev gt x) _; rw [hev x (by simp [Op.operands])]
  | pick c x y =>
    rw [← h]
    show bindC (ev gt' c) (fun c => oPick next c (ev gt' x) (ev gt' y)) = bindC (ev gt c) (fun c => oPick next c (ev gt x) (ev gt y))
    rw [hev c (by simp [Op.operands]), hev x (by simp [Op.operands]), hev y (by simp [Op.operands])]
  | alloc t => exact h
  | box t x => rw [← h]; show bindO (evL gt' x) _ = bindO (evL gt x) _; rw [evL_congr (hev x (by simp [Op.operands]))]
  | build t parts =>
    rw [← h]
    show bindO (tzero cx.P t) (fun z => oBuild cx.P gt' next z (cx.P.underlying t) parts.toList) = bindO (tzero cx.P t) (fun z => oBuild cx.P gt next z (cx.P.underlying t) parts.toList)
    have hf : ∀ pl l, fillC pl gt' l parts.toList = fillC pl gt l parts.toList := fun pl l => fillC_congr fun p hp => hev p.2 (by simp [Op.operands]; exact ⟨p.1, by simpa using hp⟩)
    congr 1
    funext z
    unfold oBuild
    split <;> simp only [hf]
  | buildSlice t len parts =>
    rw [← h]
    show bindO (telem cx.P t) (fun el => oBuildSlice cx.P gt' next el len parts.toList) = bindO (telem cx.P t) (fun el => oBuildSlice cx.P gt next el len parts.toList)
    have hf : ∀ pl l, fillC pl gt' l parts.toList = fillC pl gt l parts.toList := fun pl l => fillC_congr fun p hp => hev p.2 (by simp [Op.operands]; exact ⟨p.1, by simpa using hp⟩)
    congr 1
    funext z
    unfold oBuildSlice
    simp only [hf]
  | load t x =>
    obtain ⟨p, hp, h⟩ := bindC_some (show bindC (ev gt x) (fun p => oLoad cx.P gs next t p) = some e from h)
    show bindC (ev gt' x) (fun p => oLoad cx.P gs' next t p) = some e
    rw [hev x (by simp [Op.operands]), hp]
    show oLoad cx.P gs' next t p = some e
    have h0 := h
    unfold oLoad at h ⊢
    obtain ⟨i, hi, h⟩ := bindO_some h
    obtain ⟨g, hg, h⟩ := bindO_some h
    have hgs : gs' i = gs i := by
      refine hs i ?_
      obtain ⟨_, _, h⟩ := bindO_some h
      obtain ⟨_, _, h⟩ := bindO_some h
      obtain ⟨_, _, h⟩ := bindO_some h
      obtain ⟨_, _, h⟩ := bindO_some h
      cases h; simp
    rw [hi]
    show bindO (gs' i) _ = _
    rw [hgs, hg]; exact h
  | store t x y =>
    obtain ⟨p, hp, h⟩ := bindC_some (show bindC (ev gt x) (fun p => oStore cx.P gs next t p (evL gt y)) = some e from h)
    show bindC (ev gt' x) (fun p => oStore cx.P gs' next t p (evL gt' y)) = some e
    rw [hev x (by simp [Op.operands]), hp, evL_congr (hev y (by simp [Op.operands]))]
    show oStore cx.P gs' next t p (evL gt y) = some e
    unfold oStore at h ⊢
    obtain ⟨i, hi, h⟩ := bindO_some h
    obtain ⟨g, hg, h⟩ := bindO_some h
    have hgs : gs' i = gs i := by
      refine hs i ?_
      obtain ⟨_, _, h⟩ := bindO_some h
      obtain ⟨_, _, h⟩ := bindO_some h
      split at h <;> try (cases h; done)
      unfold oStore2 at h
      split at h <;> try (cases h; done)
      obtain ⟨_, _, h⟩ := bindO_some h
      cases h; simp
    rw [hi]
    show bindO (gs' i) _ = _
    rw [hgs, hg]; exact h
  | nilCheck x => rw [← h]; show bindC (ev gt' x) _ = bindC (ev gt x) _; rw [hev x (by simp [Op.operands])]
  | binOp op t x y ty =>
    rw [← h]
    show bindC (ev gt' x) (fun p => bindC (ev gt' y) fun q => retO next (sBin cx.O (tbool cx.P t) op p q)) = bindC (ev gt x) (fun p => bindC (ev gt y) fun q => retO next (sBin cx.O (tbool cx.P t) op p q))
    rw [hev x (by simp [Op.operands]), hev y (by simp [Op.operands])]
  | unOp op t x => rw [← h]; show bindC (ev gt' x) _ = bindC (ev gt x) _; rw [hev x (by simp [Op.operands])]
  | convert s d x =>
    obtain ⟨p, hp, h⟩ := bindC_some (show bindC (ev gt x) (fun p => oConvB cx.P cx.O gs next s d p) = some e from h)
    show bindC (ev gt' x) (fun p => oConvB cx.P cx.O gs' next s d p) = some e
    rw [hev x (by simp [Op.operands]), hp]
    show oConvB cx.P cx.O gs' next s d p = some e
    unfold oConvB at h ⊢
    split at h
    · rename_i i o es n _
      show oBytes cx.P gs' next s d i o es n = some e
      have h' : oBytes cx.P gs next s d i o es n = some e := h
      unfold oBytes at h' ⊢
      split at h' <;> try (cases h'; done)
      split at h' <;> try (cases h'; done)
      split at h' <;> try (cases h'; done)
      obtain ⟨g, hg, h'⟩ := bindO_some h'
      have hgs : gs' i = gs i := by
        refine hs i ?_
        obtain ⟨_, _, h'⟩ := bindO_some h'
        obtain ⟨_, _, h'⟩ := bindO_some h'
        cases h'
        simp
      simp only [*]
      exact h'
    · exact h
  | makeSlice t l c =>
    rw [← h]
    show bindC (ev gt' l) (fun p => bindC (ev gt' c) fun q => sMake cx.P t next p q) = bindC (ev gt l) (fun p => bindC (ev gt c) fun q => sMake cx.P t next p q)
    rw [hev l (by simp [Op.operands]), hev c (by simp [Op.operands])]
  | slice t x lo hi mx =>
    obtain ⟨p, hp, h⟩ := bindC_some (show bindC (ev gt x) (fun p => oSlice cx.P gt gs next t p lo hi mx) = some e from h)
    show bindC (ev gt' x) (fun p => oSlice cx.P gt' gs' next t p lo hi mx) = some e
    rw [hev x (by simp [Op.operands]), hp]
    show oSlice cx.P gt' gs' next t p lo hi mx = some e
    have h1 : ∀ d, natOf gt' lo d = natOf gt lo d := fun d => natOf_congr fun y hy => hev y (by subst hy; simp [Op.operands])
    have h2 : ∀ d, natOf gt' hi d = natOf gt hi d := fun d => natOf_congr fun y hy => hev y (by subst hy; simp [Op.operands])
    have hS : ∀ p, sSlice cx.P t gt' p lo hi = sSlice cx.P t gt p lo hi := fun p => by unfold sSlice; simp only [h1, h2]
    have h3 : siOf gt' lo = siOf gt lo := siOf_congr fun y hy => hev y (by subst hy; simp [Op.operands])
    have h4 : siOf gt' hi = siOf gt hi := siOf_congr fun y hy => hev y (by subst hy; simp [Op.operands])
    have hSS : ∀ i o es n f, oSliceS cx.P gt' next t i o es n f lo hi = oSliceS cx.P gt next t i o es n f lo hi := fun i o es n f => by unfold oSliceS; simp only [h1, h3, h4]
    unfold oSlice at h ⊢
    simp only [hS, hSS]
    split at h <;> try (cases h; done)
    split at h
    · exact h
    · rename_i i o st idx
      show oSliceV cx.P gs' next t i o st idx lo hi = some e
      have h' : oSliceV cx.P gs next t i o st idx lo hi = some e := h
      unfold oSliceV at h' ⊢
      split at h' <;> try (cases h'; done)
      split at h' <;> try (cases h'; done)
      rename_i hund
      obtain ⟨es, hes, h'⟩ := bindO_some h'
      obtain ⟨g, hg, h'⟩ := bindO_some h'
      have hgs : gs' i = gs i := by
        refine hs i ?_
        split at h' <;> try (cases h'; done)
        obtain ⟨_, _, h'⟩ := bindO_some h'
        split at h' <;> cases h'
        simp
      rw [hes]
      show bindO (gs' i) _ = _
      rw [hgs, hg]
      exact h'
    · exact h
  | fieldAddr s x f => rw [← h]; show bindC (ev gt' x) _ = bindC (ev gt x) _; rw [hev x (by simp [Op.operands])]
  | field s x f => rw [← h]; show bindO (ev gt' x) _ = bindO (ev gt x) _; rw [hev x (by simp [Op.operands])]
  | indexAddr t x i =>
    obtain ⟨p, hp, h⟩ := bindC_some (show bindC (ev gt x) (fun p => bindC (ev gt i) fun n => oIndexAddr cx.P gs next (cx.P.underlying t) p n) = some e from h)
    obtain ⟨q, hq, h⟩ := bindC_some h
    show bindC (ev gt' x) (fun p => bindC (ev gt' i) fun n => oIndexAddr cx.P gs' next (cx.P.underlying t) p n) = some e
    rw [hev x (by simp [Op.operands]), hp]
    show bindC (ev gt' i) (fun n => oIndexAddr cx.P gs' next (cx.P.underlying t) p n) = some e
    rw [hev i (by simp [Op.operands]), hq]
    show oIndexAddr cx.P gs' next (cx.P.underlying t) p q = some e
    unfold oIndexAddr at h ⊢
    split at h <;> try (cases h; done)
    try simp only
    split at h
    · exact h
    · unfold oIndexAddr2 at h ⊢
      split at h <;> try (cases h; done)
      rename_i id o es m full _
      try simp only
      obtain ⟨es', hes, h⟩ := bindO_some h
      obtain ⟨r, hr, h⟩ := bindO_some h
      cases h
      rw [hes]
      show bindO (sIndexS cx.P id o es es' m (gs' id) _) _ = _
      rw [hs id (by simp), hr]; rfl
    · cases h
  | index t x i =>
    rw [← h]
    show bindO (ev gt' x) (fun p => bindC (ev gt' i) fun n => oIndex cx.P next (cx.P.underlying t) p n) = bindO (ev gt x) (fun p => bindC (ev gt i) fun n => oIndex cx.P next (cx.P.underlying t) p n)
    rw [hev x (by simp [Op.operands]), hev i (by simp [Op.operands])]
  | extract x i => rw [← h]; show bindO (ev gt' x) _ = bindO (ev gt x) _; rw [hev x (by simp [Op.operands])]
  | call c =>
    have h' : oCall cx gt gs next c = some e := h
    show oCall cx gt' gs' next c = some e
    have hargs : ∀ x ∈ c.args.toList, ev gt' x = ev gt x := fun x hx => hev x (by simp only [Op.operands, Call.operands, Array.toList_append, List.mem_append]; exact .inr hx)
    unfold oCall at h' ⊢
    split at h'
    · split at h'
      · unfold oLen at h' ⊢
        split at h' <;> try (cases h'; done)
        rename_i x t rest h1 h2
        try simp only [h1, h2]
        rw [hargs x (by rw [h1]; simp)]; exact h'
      · unfold oAppend at h' ⊢
        split at h' <;> try (cases h'; done)
        rename_i x y t t' rest h1 h2
        try simp only [h1, h2]
        rw [hargs x (by rw [h1]; simp), hargs y (by rw [h1]; simp)]
        obtain ⟨el', hel', h'⟩ := bindO_some h'
        obtain ⟨p, hp, h'⟩ := bindC_some h'
        obtain ⟨q, hq, h'⟩ := bindC_some h'
        rw [hel', hp, hq]
        show sAppend cx.P t gs' next p q = some e
        unfold sAppend at h' ⊢
        split at h' <;> try (cases h'; done)
        · rename_i i1 o1 e1 n f1 i2 o2 e2 m f2 _
          try simp only
          obtain ⟨el, hel, h'⟩ := bindO_some h'
          obtain ⟨es, hes, h'⟩ := bindO_some h'
          obtain ⟨by', hby, h'⟩ := bindO_some h'
          obtain ⟨z, hz, h'⟩ := bindO_some h'
          simp only [bindO, hel, hes, hby, hz]
          show sApp cx.P el gs' next i1 o1 e1 n f1 i2 o2 e2 m es by' z = some e
          unfold sApp at h' ⊢
          split at h' <;> try (cases h'; done)
          try simp only [*]
          obtain ⟨new, hnew, h'⟩ := bindO_some h'
          have hn2 : (Nat.beq m 0 = false → gs' i2 = gs i2) → appNew gs' i2 o2 e2 es m = some new := by
            intro hg
            unfold appNew at hnew ⊢
            cases hm : Nat.beq m 0
            · rw [hm] at hnew
              simp only at hnew ⊢
              rw [hg hm]; exact hnew
            · rw [hm] at hnew; exact hnew
          split at h'
          · rename_i h0
            split at h' <;> try (cases h'; done)
            rename_i hn0
            split at h'
            · rename_i hm0
              rw [hn2 (fun e => by rw [hm0] at e; cases e)]
              simp only [bindO, h0, hn0, hm0]; exact h'
            · rename_i hm0
              have : appNew gs' i2 o2 e2 es m = some new := hn2 fun _ => hs i2 (by cases h'; simp)
              rw [this]
              simp only [bindO, h0, hn0, hm0]; exact h'
          · rename_i h0
            split at h' <;> try (cases h'; done)
            rename_i ho
            have hrd : ∀ i, i = i1 ∨ i = i2 → i ∈ e.rd := by
              intro i hi
              unfold appOwn at h'
              split at h' <;> try (cases h'; done)
              split at h'
              · split at h' <;> cases h'; simpa using hi
              · split at h' <;> try (cases h'; done)
                split at h' <;> cases h'; simpa using hi
            rw [hn2 fun _ => hs i2 (hrd i2 (.inr rfl))]
            simp only [bindO, h0, ho]
            unfold appOwn at h' ⊢
            rw [hs i1 (hrd i1 (.inl rfl))]; exact h'
        · rename_i i1 o1 e1 n f1 i2 o2 e2 m f2 hne _
          obtain ⟨el, hel, h'⟩ := bindO_some h'
          obtain ⟨es, hes, h'⟩ := bindO_some h'
          obtain ⟨by', hby, h'⟩ := bindO_some h'
          obtain ⟨z, hz, h'⟩ := bindO_some h'
          have hrd : ∀ i, i = i1 ∨ i = i2 → i ∈ e.rd := by
            intro i hi
            have h := h'
            unfold sAppR at h
            split at h <;> try (cases h; done)
            split at h <;> try (cases h; done)
            obtain ⟨g2, _, h⟩ := bindO_some h
            unfold appR at h
            split at h <;> try (cases h; done)
            · split at h <;> try (cases h; done)
              split at h <;> try (cases h; done)
              split at h <;> try (cases h; done)
              split at h <;> cases h; simpa using hi
            · split at h <;> try (cases h; done)
              split at h <;> try (cases h; done)
              split at h <;> try (cases h; done)
              split at h
              · split at h <;> cases h; simpa using hi
              · split at h <;> try (cases h; done)
                split at h <;> try (cases h; done)
                split at h <;> cases h; simpa using hi
          have h2 : sAppR gs' next i1 o1 e1 n f1 i2 o2 e2 m es by' z = some e := by
            unfold sAppR at h' ⊢
            rw [hs i1 (hrd i1 (.inl rfl)), hs i2 (hrd i2 (.inr rfl))]; exact h'
          simp only [bindO, hel, hes, hby, hz]; exact h2
        · rename_i i1 o1 e1 n f1 i2 e2 idx m _
          obtain ⟨el, hel, h'⟩ := bindO_some h'
          obtain ⟨es, hes, h'⟩ := bindO_some h'
          obtain ⟨by', hby, h'⟩ := bindO_some h'
          obtain ⟨z, hz, h'⟩ := bindO_some h'
          have hrd : ∀ i, i = i1 ∨ i = i2 → i ∈ e.rd := by
            intro i hi
            have h := h'
            unfold sAppRR at h
            split at h <;> try (cases h; done)
            split at h <;> try (cases h; done)
            split at h <;> try (cases h; done)
            split at h <;> try (cases h; done)
            split at h <;> cases h; simpa using hi
          have h2 : sAppRR gs' next i1 o1 e1 n f1 i2 e2 idx m es by' z = some e := by
            unfold sAppRR at h' ⊢
            rw [hs i1 (hrd i1 (.inl rfl)), hs i2 (hrd i2 (.inr rfl))]; exact h'
          simp only [bindO, hel, hes, hby, hz]; exact h2
      · cases h'
    · split at h' <;> try (cases h'; done)
      rename_i f
      obtain ⟨S, hS, h'⟩ := bindO_some h'
      obtain ⟨vs, hvs, h'⟩ := bindO_some h'
      simp only [hS, evs_congr hargs, hvs]
      show oFn gs' next S vs (reach gs' vs) = some e
      have hrd : e.rd = reachI gs vs := by
        unfold oFn at h'
        obtain ⟨c', _, h'⟩ := bindO_some h'
        cases hb : (wsOk next c'.next (reach gs vs) c'.ws && Nat.ble 1 next && Nat.ble next c'.next) with
        | false => rw [hb] at h'; cases h'
        | true => rw [hb] at h'; cases h'; rfl
      obtain ⟨r1, r2⟩ := reach_congr (gs := gs) (gs' := gs') (vs := vs) (fun i hi => hs i (by rw [hrd]; exact hi))
      rw [r1]
      unfold oFn at h' ⊢
      rw [r2]; exact h'
    · cases h'
  | _ => cases h
theorem wanted_congr {ops : List Oper} {gt gt' : Nat → SV} {o : Oper} (h : ∀ t ∈ looksN ops o, gt' t = gt t) : wantedS ops gt' o = wantedS ops gt o := by
  unfold wantedS
  split
  · rfl
  · rename_i j want hg
    split
    · rename_i q hq
      split
      · rename_i d hd
        rw [h d (guard_looks hg hq hd)]
      · rfl
    · rfl

end Go.Proofs.YtaodbpejeglmlaaDoor
