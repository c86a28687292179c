/- A function. Nothing is assumed. -/
import Derived.Test.YtaodbpejeglmlaaDoorSq
import Derived.Laws.Sem
namespace Go.Proofs.YtaodbpejeglmlaaDoor
open Go

/-! ### how it begins -/
theorem argsT_get (R : List Ly) : ∀ (l : List SV) (i : Nat) (T : Top) (t : Nat), getT ((argsT l i T).ly :: R) t = if i ≤ t ∧ t < i + l.length then l.getD (t - i) .undef else getT (T.ly :: R) t
  | [], i, T, t => by
    rw [if_neg (by simp)]; rfl
  | v :: l, i, T, t => by
    change getT ((argsT l (i + 1) (T.setT i v)).ly :: R) t = _
    rw [argsT_get R l, getT_setT, List.length_cons]
    by_cases h : i + 1 ≤ t ∧ t < i + 1 + l.length
    · rw [if_pos h, if_pos (by omega)]
      rw [show t - i = (t - (i + 1)) + 1 by omega]; rfl
    · rw [if_neg h]
      by_cases e : t = i
      · subst e; rw [upd_same, if_pos (by omega), Nat.sub_self]; rfl
      · rw [upd_other _ _ e, if_neg (by omega)]
theorem argsT_S (R : List Ly) : ∀ (l : List SV) (i : Nat) (T : Top), getS ((argsT l i T).ly :: R) = getS (T.ly :: R)
  | [], _, _ => rfl
  | v :: l, i, T => by
    change getS ((argsT l (i + 1) (T.setT i v)).ly :: R) = _
    rw [argsT_S R l, getS_setT]
theorem rdT_T (R : List Ly) : ∀ (l : List (Nat × Seg)) (T : Top), getT ((rdT l T).ly :: R) = getT (T.ly :: R)
  | [], _ => rfl
  | p :: l, T => by
    change getT (((rdT l T).setS p.1 (some p.2)).ly :: R) = _
    rw [getT_setS, rdT_T R l]
theorem rdT_S (R : List Ly) : ∀ (l : List (Nat × Seg)) (T : Top) (i : Nat), getS ((rdT l T).ly :: R) i = match findS i l with
    | some g => some g
    | none => getS (T.ly :: R) i
  | [], _, _ => rfl
  | (j, g) :: l, T, i => by
    change getS (((rdT l T).setS j (some g)).ly :: R) i = _
    rw [getS_setS]
    simp only [findS]
    by_cases e : i = j
    · subst e; rw [upd_same, beqN.2 rfl]
    · rw [upd_other _ _ e, rdT_S R l]
      cases hb : Nat.beq i j
      · rfl
      · exact absurd (beqN.1 hb) e
theorem RelVs.len {E : EM} : ∀ {l : List SV} {m : List Value}, RelVs E l m → l.length = m.length
  | [], [], _ => rfl
  | [], _ :: _, h => h.elim
  | _ :: _, [], h => h.elim
  | _ :: l, _ :: m, h => by simp [RelVs.len (l := l) (m := m) h.2]
theorem RelVs.getD {E : EM} : ∀ {l : List SV} {m : List Value}, RelVs E l m → ∀ k, RelV E (l.getD k .undef) (m.getD k undef)
  | [], [], _, k => by cases k <;> exact rfl
  | [], _ :: _, h, _ => h.elim
  | _ :: _, [], h, _ => h.elim
  | _ :: l, _ :: m, h, 0 => h.1
  | _ :: l, _ :: m, h, k + 1 => by simpa using RelVs.getD (l := l) (m := m) h.2 k

/-! ### how it ends -/
def resOf (tmps : Array Value) : ResultVar → Sem Value
  | .tmp t => pure (tmps.getD t undef)
  | .cell a t => do loadVar t (← asAddr (tmps.getD a undef))
theorem results_eq (fn : Func) (tmps : Array Value) : results fn tmps = (do
  let vs ← fn.results.mapM (resOf tmps)
  pure (if h : vs.size = 1 then vs[0] else .tuple vs)) := by
  unfold results
  rfl
theorem sRes1_ok {P : Program} {w0 w : World} {T0 : Nat → Nat → Prop} {E : EM} {l : List Ly} {tmps : Array Value} (hT : ∀ t, RelV E (getT l t) (tmps.getD t undef)) (hm : MemRel w0 T0 E (getS l) w) {r : ResultVar} {v : SV} {ob : List Bool}
    (h : sRes1 P l r = some (v, ob)) (hob : AllT ob) : ∃ u, (resOf tmps r).run P w = .ok u w ∧ RelV E v u := by
  cases r with
  | tmp t => cases h; exact ⟨_, rfl, hT t⟩
  | cell a t =>
    simp only [sRes1] at h
    split at h <;> try (cases h; done)
    rename_i p hp
    split at h <;> try (cases h; done)
    rename_i i hi
    split at h <;> try (cases h; done)
    rename_i g hg
    split at h <;> try (cases h; done)
    rename_i n ag hn hag
    split at h <;> try (cases h; done)
    rename_i cs ob' hr
    split at h <;> cases h
    rename_i hs
    have hv := hT a
    rw [hp] at hv
    obtain ⟨b, o', hb, vs, hlen, hrel, hcell⟩ := sLoad_ok hm hg hi hv hr hob
    have hla : (loadCells ⟨b, o', none⟩ n).run P w = .ok vs.toArray w := by
      rw [← hlen]
      exact run_loadCells_list w _ vs fun j u hj => by
        have hjl : j < vs.length := by
          rcases Nat.lt_or_ge j vs.length with h' | h'
          · exact h'
          · rw [List.getElem?_eq_none h'] at hj; cases hj
        rw [addr_add, hcell j (by omega)]; exact hj
    cases ag with
    | true =>
      refine ⟨.agg vs.toArray, ?_, ofCells_agg hs hrel⟩
      simp [resOf, hb, asAddr, loadVar, rAgg hag, rSize hn, hla]
    | false =>
      obtain ⟨u, rfl, hu⟩ := ofCells_one hs hrel
      refine ⟨u, ?_, hu⟩
      have hc := hcell 0 (by simp at hlen; omega)
      simp only [Nat.add_zero] at hc
      simp [resOf, hb, asAddr, loadVar, rAgg hag, hc]
theorem sResE_ok {P : Program} {w0 w : World} {T0 : Nat → Nat → Prop} {E : EM} {l : List Ly} {tmps : Array Value} (hT : ∀ t, RelV E (getT l t) (tmps.getD t undef)) (hm : MemRel w0 T0 E (getS l) w) : ∀ {rs : List ResultVar} {es : List SE} {ob : List Bool},
    sResE P l rs = some (es, ob) → AllT ob → ∃ us, (rs.mapM (resOf tmps)).run P w = .ok us w ∧ RelEs E es us ∧ us.length = rs.length
  | [], es, ob, h, _ => by cases h; exact ⟨[], rfl, trivial, rfl⟩
  | r :: rs, es, ob, h, hob => by
    simp only [sResE] at h
    split at h <;> try (cases h; done)
    · rename_i x ob1 h1
      split at h <;> cases h
      rename_i es' ob' h2
      obtain ⟨hb1, hb2⟩ := hob.append
      obtain ⟨u, g1, g2⟩ := sRes1_ok hT hm h1 hb1
      obtain ⟨us, k1, k2, k3⟩ := sResE_ok hT hm h2 hb2
      refine ⟨u :: us, ?_, ⟨g2, k2⟩, by simp [k3]⟩
      rw [List.mapM_cons]
      simp only [Sem.run_bind, g1, Result.andThen_ok, k1, Sem.run_pure]
    · rename_i x ob1 h1
      split at h <;> cases h
      rename_i es' ob' h2
      obtain ⟨hb1, hb2⟩ := hob.append
      obtain ⟨u, g1, g2⟩ := sRes1_ok hT hm h1 hb1
      obtain ⟨us, k1, k2, k3⟩ := sResE_ok hT hm h2 hb2
      refine ⟨u :: us, ?_, ⟨g2, k2⟩, by simp [k3]⟩
      rw [List.mapM_cons]
      simp only [Sem.run_bind, g1, Result.andThen_ok, k1, Sem.run_pure]
theorem sRes_ok {P : Program} {w0 w : World} {T0 : Nat → Nat → Prop} {E : EM} {l : List Ly} {tmps : Array Value} (hT : ∀ t, RelV E (getT l t) (tmps.getD t undef)) (hm : MemRel w0 T0 E (getS l) w) {fn : Func} {v : SV} {ob : List Bool}
    (h : sRes P l fn.results.toList = some (v, ob)) (hob : AllT ob) : ∃ u, (results fn tmps).run P w = .ok u w ∧ RelV E v u := by
  rw [results_eq, Array.mapM_eq_mapM_toList]
  simp only [map_eq_pure_bind, bind_assoc, pure_bind]
  generalize fn.results.toList = rs at h
  match rs, h with
  | [], h => cases h; exact ⟨_, rfl, rfl⟩
  | [r], h =>
    obtain ⟨u, g1, g2⟩ := sRes1_ok hT hm h hob
    refine ⟨u, ?_, g2⟩
    rw [List.mapM_cons]
    simp only [Sem.run_bind, g1, Result.andThen_ok, List.mapM_nil, Sem.run_pure]
    rfl
  | r :: r' :: rs, h =>
    simp only [sRes] at h
    split at h <;> cases h
    rename_i es hes
    obtain ⟨us, k1, k2, k3⟩ := sResE_ok hT hm hes hob
    refine ⟨.tuple us.toArray, ?_, us.toArray, rfl, k2⟩
    simp only [Sem.run_bind, k1, Result.andThen_ok]
    rw [dif_neg (by simp [k3])]
    rfl

/-! ### the ways out -/
def selF : List FOut → Option FOut
  | [] => none
  | o :: l => if o.c.val then some o else selF l
theorem fOuts_ok {P : Program} {rs : List ResultVar} {R : List Ly} : ∀ {l : List (SB × XK × Top)} {fs : List FOut} {k : XK} {T : Top}, fOuts P rs R l = some fs → sel l none = some (some k, T) →
    k = .ret ∧ ∃ c v ob, sRes P (T.ly :: R) rs = some (v, ob) ∧ selF fs = some ⟨c, v, T.ly, T.next, ob⟩
  | [], _, _, _, _, h => by cases h
  | (c, .exit j, T1) :: l, fs, k, T, h, hs => by cases h
  | (c, .ret, T1) :: l, fs, k, T, h, hs => by
    simp only [fOuts] at h
    split at h <;> try (cases h; done)
    rename_i v ob hr
    split at h <;> cases h
    rename_i r hl
    simp only [sel] at hs
    simp only [selF]
    by_cases hc : c.val = true
    · rw [if_pos hc] at hs ⊢
      cases hs
      exact ⟨rfl, c, v, ob, hr, rfl⟩
    · rw [if_neg hc] at hs ⊢
      exact fOuts_ok hl hs
theorem wsOf_mem {l : List Ly} : ∀ {ids : List Nat} {p : Nat × Option Seg}, p ∈ wsOf l ids → p.2 = getS l p.1
  | [], p, h => by cases h
  | i :: r, p, h => by
    simp only [wsOf, List.mem_cons] at h
    rcases h with rfl | h
    · rfl
    · exact wsOf_mem h
theorem wsOf_ids {l : List Ly} : ∀ {ids : List Nat}, fstsN (wsOf l ids) = ids
  | [] => rfl
  | i :: r => by simp only [wsOf, fstsN]; rw [wsOf_ids]
noncomputable def mwF (b : Bool) (R : List Ly) (y : Ly) (m : List (Nat × Option Seg)) (i : Nat) : Option Seg :=
  mergeSeg b (getS (y :: R) i) (match hasId i m with
      | true => (match m.find? (fun p => Nat.beq p.1 i) with
        | some p => p.2
        | none => none)
      | false => getS R i)
theorem mergeWs_mem {b : Bool} {R : List Ly} {y : Ly} {m : List (Nat × Option Seg)} : ∀ {ids : List Nat} {p : Nat × Option Seg}, p ∈ mergeWs b R y m ids → p.2 = mwF b R y m p.1
  | [], p, h => by cases h
  | i :: r, p, h => by
    simp only [mergeWs, List.mem_cons] at h
    rcases h with rfl | h
    · rfl
    · exact mergeWs_mem h
theorem mergeWs_ids {b : Bool} {R : List Ly} {y : Ly} {m : List (Nat × Option Seg)} : ∀ {ids : List Nat}, fstsN (mergeWs b R y m ids) = ids
  | [] => rfl
  | i :: r => by simp only [mergeWs, fstsN]; rw [mergeWs_ids]
theorem idsC_acc {x : SC} {acc : List Nat} {i : Nat} (h : i ∈ acc) : i ∈ idsC x acc := by
  cases x <;> first | exact h | exact List.mem_cons_of_mem _ h
theorem idsL_acc {i : Nat} {acc : List Nat} (h : i ∈ acc) : ∀ (l : List SC), i ∈ idsL l acc
  | [] => h
  | x :: l => idsC_acc (idsL_acc h l)
theorem idsE_acc {i : Nat} {acc : List Nat} (h : i ∈ acc) : ∀ (l : List SE), i ∈ idsE l acc
  | [] => h
  | .c x :: l => idsC_acc (idsE_acc h l)
  | .a m :: l => idsL_acc (idsE_acc h l) m
theorem idsV_acc {i : Nat} {acc : List Nat} (h : i ∈ acc) (v : SV) : i ∈ idsV v acc := by
  cases v with
  | any => exact h
  | undef => exact h
  | c x => exact idsC_acc h
  | a l => exact idsL_acc h l
  | tup l => exact idsE_acc h l
theorem idsSegs_acc {i : Nat} {acc : List Nat} (h : i ∈ acc) : ∀ (l : List (Nat × Seg)), i ∈ idsSegs l acc
  | [] => h
  | (_, ⟨_, _, .cells m⟩) :: l => idsL_acc (idsSegs_acc h l) m
  | (_, ⟨_, _, .rows _ _ _⟩) :: l => idsSegs_acc h l
theorem keepIds_rd {rd : List (Nat × Seg)} {l : List Ly} {v : SV} {i : Nat} (h : i ∈ fstsN rd) : i ∈ keepIds rd l v := idsSegs_acc (idsV_acc h v) _
theorem hasId_mem {α : Type} {i : Nat} : ∀ {l : List (Nat × α)}, hasId i l = false → i ∉ fstsN l
  | [], _ => by simp [fstsN]
  | (j, s) :: l, h => by
    simp only [hasId] at h
    split at h
    · cases h
    · rename_i hb
      simp only [fstsN, List.mem_cons, not_or]
      exact ⟨fun e => (by rw [beqN.2 e] at hb; cases hb), hasId_mem h⟩
theorem touched_not {y : Ly} {i : Nat} : ∀ {l : List Nat}, i ∈ l → i ∉ touched y l → y.s.get i = none
  | [], h, _ => by simp at h
  | j :: l, h, hn => by
    simp only [touched] at hn
    split at hn
    · rename_i g hg
      simp only [List.mem_cons, not_or] at hn
      rcases List.mem_cons.1 h with rfl | h
      · exact absurd rfl hn.1
      · exact touched_not h hn.2
    · rename_i hg
      rcases List.mem_cons.1 h with rfl | h
      · exact hg
      · exact touched_not h hn
theorem find_mem {i : Nat} : ∀ {m : List (Nat × Option Seg)} {g : Seg}, (match m.find? (fun p => Nat.beq p.1 i) with
        | some p => p.2
        | none => none) = some g → (i, some g) ∈ m
  | m, g, h => by
    split at h
    · rename_i p hp
      have h1 := List.find?_some hp
      have h2 := List.mem_of_find?_eq_some hp
      obtain ⟨j, v⟩ := p
      simp only at h h1
      rw [beqN.1 h1, h] at h2
      exact h2
    · cases h
/-- What the end says of the memory: nothing beyond the layer of the way out that is taken. -/
theorem joinF_ok {rd : List (Nat × Seg)} {R : List Ly} (hR : ∀ i g, getS R i = some g → i ∈ fstsN rd) : ∀ {l : List FOut} {e : CEff} {o : FOut}, joinF rd R l = some e → selF l = some o → AllT e.obs →
    AllT o.obs ∧ o.next ≤ e.next ∧ (∀ E v, RelV E o.v v → RelV E e.ret v) ∧ (∀ p ∈ e.ws, ∀ g', p.2 = some g' → ∃ g, getS (o.ly :: R) p.1 = some g ∧ SegLe g g') ∧ ∀ i, i ∈ fstsN rd → i ∉ fstsN e.ws → o.ly.s.get i = none
  | [], e, o, h, _, _ => by cases h
  | [o1], e, o, h, hs, hob => by
    have e1 : o1 = o := by
      simp only [selF] at hs
      split at hs
      · cases hs; rfl
      · cases hs
    subst e1
    cases h
    exact ⟨hob, Nat.le_refl _, fun _ _ h => h, fun p hp g' hg => ⟨g', by rw [← wsOf_mem hp]; exact hg, SegLe.refl _⟩, fun i hi hn => touched_not (keepIds_rd hi) (by rw [wsOf_ids] at hn; exact hn)⟩
  | o1 :: o2 :: l, e, o, h, hs, hob => by
    simp only [joinF] at h
    split at h <;> try (cases h; done)
    rename_i e' he'
    rw [selF] at hs
    split at h <;> cases h
    · rename_i hc
      rw [hc, if_pos (show SB.val _ = true from rfl)] at hs
      cases hs
      exact ⟨hob, Nat.le_refl _, fun _ _ h => h, fun p hp g' hg => ⟨g', by rw [← wsOf_mem hp]; exact hg, SegLe.refl _⟩, fun i hi hn => touched_not (keepIds_rd hi) (by rw [wsOf_ids] at hn; exact hn)⟩
    · rename_i hc
      rw [hc, if_neg (by simp [SB.val])] at hs
      exact joinF_ok hR (l := o2 :: l) he' hs hob
    · rename_i b hc
      obtain ⟨hob1, hob2⟩ := AllT.append hob
      cases b with
      | true =>
        rw [hc, if_pos (show SB.val _ = true from rfl)] at hs
        cases hs
        refine ⟨fun q hq => by have := hob1 (!true || q) (List.mem_map.2 ⟨q, hq, rfl⟩); exact this, Nat.le_max_left _ _, fun E v hv => RelV.merge (fun _ => hv) (fun e => by cases e), fun p hp g' hg => ?_, fun i hi hn => ?_⟩
        · rw [mergeWs_mem hp] at hg
          exact mergeSeg_l hg rfl
        · rw [mergeWs_ids, List.mem_append, not_or] at hn
          exact touched_not (keepIds_rd hi) hn.1
      | false =>
        rw [hc, if_neg (by simp [SB.val])] at hs
        have hobE : AllT e'.obs := fun q hq => by have := hob2 (false || q) (List.mem_map.2 ⟨q, hq, rfl⟩); exact this
        obtain ⟨k1, k2, k3, k4, k5⟩ := joinF_ok hR (l := o2 :: l) he' hs hobE
        refine ⟨k1, Nat.le_trans k2 (Nat.le_max_right _ _), fun E v hv => RelV.merge (fun e => by cases e) (fun _ => k3 E v hv), fun p hp g' hg => ?_, fun i hi hn => ?_⟩
        · rw [mergeWs_mem hp] at hg
          obtain ⟨g1, h1, h2⟩ := mergeSeg_r hg rfl
          split at h1
          · have hm := find_mem h1
            obtain ⟨g, h3, h4⟩ := k4 _ hm g1 rfl
            exact ⟨g, h3, h4.trans h2⟩
          · rename_i hh
            exact ⟨g1, by rw [getS_cons, k5 _ (hR _ _ h1) (hasId_mem hh)]; exact h1, h2⟩
        · rw [mergeWs_ids, List.mem_append, not_or] at hn
          exact k5 i hi hn.2
theorem findS_fsts {i : Nat} : ∀ {l : List (Nat × Seg)} {g : Seg}, findS i l = some g → i ∈ fstsN l
  | (j, s) :: l, g, h => by
    simp only [findS] at h
    simp only [fstsN, List.mem_cons]
    split at h
    · rename_i hb; exact .inl (beqN.1 hb)
    · exact .inr (findS_fsts h)

section
variable {cx : Cx} (hO : cx.O = fops) (hC : ∀ f S, cx.orc f = some S → CallOK cx.P f S) (hmx : cx.P.follows .mixedOrders = true)
include hO hC hmx
theorem inl_ok {f : FuncId} {fn : Func} (hf : cx.P.funcs[f]? = some fn) (hname : (fn.name == "runtime.NumGoroutine") = false) {h : Hn}
    (hl : ∀ code, fn.body = some code → ∀ b ∈ loopsIn code, ∀ L, h.loops (regId b) = some L → CodeOK cx.P fn.ntmps (.loop b) L) : CallOK cx.P f (inl cx fn h) := by
  intro E base args vals rd w e hs hob hargs hb1 hbe hfr hmem
  unfold inl at hs
  split at hs <;> try (cases hs; done)
  rename_i code hbody
  simp only at hs
  split at hs <;> try (cases hs; done)
  rename_i hlen
  split at hs <;> try (cases hs; done)
  rename_i o ho
  split at hs <;> try (cases hs; done)
  rename_i fs hfs
  split at hs <;> cases hs
  rename_i e hj
  simp only at hob hbe hfr ⊢
  obtain ⟨hobo, hobe⟩ := hob.append
  have hR1 : getT [(rdT rd (argsT args 0 (Top.empty base))).ly] = fun t => args.getD t .undef := by
    funext t
    rw [rdT_T, argsT_get, Nat.zero_add, Nat.sub_zero]
    split
    · rfl
    · rw [List.getD_eq_getElem?_getD, List.getElem?_eq_none (by omega)]; rfl
  have hR2 : getS [(rdT rd (argsT args 0 (Top.empty base))).ly] = fun i => findS i rd := by
    funext i
    rw [rdT_S, argsT_S]
    cases findS i rd <;> rfl
  obtain ⟨k, T, s1, s2, s3⟩ := sx_ok hO hC hmx code (hl code hbody) _ _ o ho hobo
  -- the way out
  have hsel : sel (match o.nrm with
        | some T => o.abr ++ [(.t, .ret, T)]
        | none => o.abr) none = some (some (k.getD .ret), T) := by
    cases k with
    | none =>
      rw [(sel_none s1).1]
      simp only
      rw [((sel_app s1).2 rfl).2]; rfl
    | some k =>
      split
      · exact (sel_app s1).1 rfl
      · exact sel_norm s1
  obtain ⟨hk, c, v, ob, hres, hsF⟩ := fOuts_ok hfs hsel
  obtain ⟨j1, j2, j3, j4, j5⟩ := joinF_ok (fun i g hg => by rw [hR2] at hg; exact findS_fsts hg) hj hsF hobe
  have hrun : (callFunc f vals).run cx.P w = .ok (.enter f vals) w := by
    have hne : ¬ fn.name = "runtime.NumGoroutine" := by simpa using hname
    simp [callFunc, hf, hne, hbody]
  rw [hrun]
  show Calls cx.P f vals w _
  refine calls_of_wp hf hbody ?_
  have hsz : vals.size ≤ fn.ntmps := by
    have := hargs.len
    simp at this
    have := Nat.le_of_ble_eq_true hlen
    omega
  have hstart : SRel fn.ntmps ⟨E, base, e.next⟩ w (Tch E rd) E (getT ((Top.empty base).ly :: [(rdT rd (argsT args 0 (Top.empty base))).ly])) (getS ((Top.empty base).ly :: [(rdT rd (argsT args 0 (Top.empty base))).ly])) (Top.empty base).next { tmps := vals ++ Array.replicate (fn.ntmps - vals.size) undef, defers := [] } w := by
    rw [getT_empty, getS_empty, hR1, hR2]
    refine ⟨fun t => ?_, by simp; omega, rfl, hmem, fun i hi => .inl hi, hfr, Nat.le_refl _, hb1⟩
    have h1 := hargs.getD t
    have h2 : (vals ++ Array.replicate (fn.ntmps - vals.size) undef).getD t undef = vals.toList.getD t undef := by
      rw [Array.getD_eq_getD_getElem?, List.getD_eq_getElem?_getD, Array.getElem?_append, Array.getElem?_toList]
      split
      · rfl
      · rename_i hge
        rw [Array.getElem?_eq_none (xs := vals) (by omega), Array.getElem?_replicate]
        split <;> rfl
    show RelV E (args.getD t .undef) ((vals ++ Array.replicate (fn.ntmps - vals.size) undef).getD t undef)
    rw [h2]; exact h1
  refine wp_mono (s3 ⟨E, base, e.next⟩ w (Tch E rd) E _ w hstart j2) fun x a' w' hp => ?_
  obtain ⟨rfl, E', he, hr⟩ := hp
  obtain ⟨u, r1, r2⟩ := sRes_ok hr.tm hr.mem hres j1
  have hpost : CallPost E base rd w ⟨e.ret, e.ws, e.next, o.obs ++ e.obs⟩ u w' := by
    refine ⟨E', he, fun i hi => (hr.news i hi).imp (fun h => h) fun h => ⟨h.1, Nat.lt_of_lt_of_le h.2 j2⟩, j3 E' u r2, hr.mem.weaken fun i g' hg' => ?_⟩
    rcases updSs_cases (fun i => findS i rd) (fun i => findS i rd) e.ws i with ⟨v', h1, _, h3⟩ | ⟨h1, _, h3⟩
    · rw [h1] at hg'
      exact j4 (i, v') h3 g' hg'
    · rw [h1] at hg'
      have hnot : i ∉ fstsN e.ws := fun hm => by
        obtain ⟨v', hv'⟩ := mem_fsts.1 hm
        exact h3 v' hv'
      refine ⟨g', ?_, SegLe.refl _⟩
      rw [getS_cons, j5 i (findS_fsts hg') hnot, hR2]
      exact hg'
  have hend : bodyPost cx.P fn (fun e' w'' => ∃ v, e' = .returned v ∧ CallPost E base rd w ⟨e.ret, e.ws, e.next, o.obs ++ e.obs⟩ v w'') .ret a' w' := ⟨hr.dfr, u, r1, u, rfl, hpost⟩
  cases k with
  | none => exact hend
  | some k =>
    have : k = .ret := hk
    subst this
    exact hend
end

end Go.Proofs.YtaodbpejeglmlaaDoor
