/- Parts of a proof, merged: Sr, Ss, Lp, Lq, Rn, Gq, St, Su, Sv, Ag, Lw, Hp, Rw, Lx, Ro, Hd, Num, Sw, Abs, Amt, Fn. Nothing is assumed. -/
import Derived.Laws.Sem
import Derived.RowKit3
import Derived.ChangeSame
import Derived.ChangeStays
import Derived.ReadAgain
import Derived.RowKit2
import Derived.WideWitness
import Derived.ChangeArms
import Derived.OpenShut
import Derived.Test.YtaoeigofmfpamaaProg
import Derived.KernelRfl
import Derived.WalkKit
import Derived.ProofKit
import Derived.Laws.BitsAllLaws
import Derived.Test.YtaoeigofmfpamaaMhB
/- A function. Nothing is assumed. -/
section
namespace Go.Proofs.Ytaoeigofmfpamaa
open Go

/-! ### how it begins -/
theorem argsT_get (R : List Ly) : ∀ (l : List SV) (i : Nat) (T : Top) (t : Nat), getT ((argsT l i T).ly :: R) t = if i ≤ t ∧ t < i + l.length then l.getD (t - i) .undef else getT (T.ly :: R) t
  | [], i, T, t => by
    rw [if_neg (by simp)]; rfl
  | v :: l, i, T, t => by
    change getT ((argsT l (i + 1) (T.setT i v)).ly :: R) t = _
    rw [argsT_get R l, getT_setT, List.length_cons]
    by_cases h : i + 1 ≤ t ∧ t < i + 1 + l.length
    · rw [if_pos h, if_pos (by omega)]
      rw [show t - i = (t - (i + 1)) + 1 by omega]; rfl
    · rw [if_neg h]
      by_cases e : t = i
      · subst e; rw [upd_same, if_pos (by omega), Nat.sub_self]; rfl
      · rw [upd_other _ _ e, if_neg (by omega)]
theorem argsT_S (R : List Ly) : ∀ (l : List SV) (i : Nat) (T : Top), getS ((argsT l i T).ly :: R) = getS (T.ly :: R)
  | [], _, _ => rfl
  | v :: l, i, T => by
    change getS ((argsT l (i + 1) (T.setT i v)).ly :: R) = _
    rw [argsT_S R l, getS_setT]
theorem rdT_T (R : List Ly) : ∀ (l : List (Nat × Seg)) (T : Top), getT ((rdT l T).ly :: R) = getT (T.ly :: R)
  | [], _ => rfl
  | p :: l, T => by
    change getT (((rdT l T).setS p.1 (some p.2)).ly :: R) = _
    rw [getT_setS, rdT_T R l]
theorem rdT_S (R : List Ly) : ∀ (l : List (Nat × Seg)) (T : Top) (i : Nat), getS ((rdT l T).ly :: R) i = match findS i l with
    | some g => some g
    | none => getS (T.ly :: R) i
  | [], _, _ => rfl
  | (j, g) :: l, T, i => by
    change getS (((rdT l T).setS j (some g)).ly :: R) i = _
    rw [getS_setS]
    simp only [findS]
    by_cases e : i = j
    · subst e; rw [upd_same, beqN.2 rfl]
    · rw [upd_other _ _ e, rdT_S R l]
      cases hb : Nat.beq i j
      · rfl
      · exact absurd (beqN.1 hb) e
theorem RelVs.len {E : EM} : ∀ {l : List SV} {m : List Value}, RelVs E l m → l.length = m.length
  | [], [], _ => rfl
  | [], _ :: _, h => h.elim
  | _ :: _, [], h => h.elim
  | _ :: l, _ :: m, h => by simp [RelVs.len (l := l) (m := m) h.2]
theorem RelVs.getD {E : EM} : ∀ {l : List SV} {m : List Value}, RelVs E l m → ∀ k, RelV E (l.getD k .undef) (m.getD k undef)
  | [], [], _, k => by cases k <;> exact rfl
  | [], _ :: _, h, _ => h.elim
  | _ :: _, [], h, _ => h.elim
  | _ :: l, _ :: m, h, 0 => h.1
  | _ :: l, _ :: m, h, k + 1 => by simpa using RelVs.getD (l := l) (m := m) h.2 k

/-! ### how it ends -/
def resOf (tmps : Array Value) : ResultVar → Sem Value
  | .tmp t => pure (tmps.getD t undef)
  | .cell a t => do loadVar t (← asAddr (tmps.getD a undef))
theorem results_eq (fn : Func) (tmps : Array Value) : results fn tmps = (do
  let vs ← fn.results.mapM (resOf tmps)
  pure (if h : vs.size = 1 then vs[0] else .tuple vs)) := by
  unfold results
  rfl
theorem sRes1_ok {P : Program} {w0 w : World} {T0 : Nat → Nat → Prop} {E : EM} {l : List Ly} {tmps : Array Value} (hT : ∀ t, RelV E (getT l t) (tmps.getD t undef)) (hm : MemRel w0 T0 E (getS l) w) {r : ResultVar} {v : SV} {ob : List Bool}
    (h : sRes1 P l r = some (v, ob)) (hob : AllT ob) : ∃ u, (resOf tmps r).run P w = .ok u w ∧ RelV E v u := by
  cases r with
  | tmp t => cases h; exact ⟨_, rfl, hT t⟩
  | cell a t =>
    simp only [sRes1] at h
    split at h <;> try (cases h; done)
    rename_i p hp
    split at h <;> try (cases h; done)
    rename_i i hi
    split at h <;> try (cases h; done)
    rename_i g hg
    split at h <;> try (cases h; done)
    rename_i n ag hn hag
    split at h <;> try (cases h; done)
    rename_i cs ob' hr
    split at h <;> cases h
    rename_i hs
    have hv := hT a
    rw [hp] at hv
    obtain ⟨b, o', hb, vs, hlen, hrel, hcell⟩ := sLoad_ok hm hg hi hv hr hob
    have hla : (loadCells ⟨b, o', none⟩ n).run P w = .ok vs.toArray w := by
      rw [← hlen]
      exact run_loadCells_list w _ vs fun j u hj => by
        have hjl : j < vs.length := by
          rcases Nat.lt_or_ge j vs.length with h' | h'
          · exact h'
          · rw [List.getElem?_eq_none h'] at hj; cases hj
        rw [addr_add, hcell j (by omega)]; exact hj
    cases ag with
    | true =>
      refine ⟨.agg vs.toArray, ?_, ofCells_agg hs hrel⟩
      simp [resOf, hb, asAddr, loadVar, rAgg hag, rSize hn, hla]
    | false =>
      obtain ⟨u, rfl, hu⟩ := ofCells_one hs hrel
      refine ⟨u, ?_, hu⟩
      have hc := hcell 0 (by simp at hlen; omega)
      simp only [Nat.add_zero] at hc
      simp [resOf, hb, asAddr, loadVar, rAgg hag, hc]
theorem sResE_ok {P : Program} {w0 w : World} {T0 : Nat → Nat → Prop} {E : EM} {l : List Ly} {tmps : Array Value} (hT : ∀ t, RelV E (getT l t) (tmps.getD t undef)) (hm : MemRel w0 T0 E (getS l) w) : ∀ {rs : List ResultVar} {es : List SE} {ob : List Bool},
    sResE P l rs = some (es, ob) → AllT ob → ∃ us, (rs.mapM (resOf tmps)).run P w = .ok us w ∧ RelEs E es us ∧ us.length = rs.length
  | [], es, ob, h, _ => by cases h; exact ⟨[], rfl, trivial, rfl⟩
  | r :: rs, es, ob, h, hob => by
    simp only [sResE] at h
    split at h <;> try (cases h; done)
    · rename_i x ob1 h1
      split at h <;> cases h
      rename_i es' ob' h2
      obtain ⟨hb1, hb2⟩ := hob.append
      obtain ⟨u, g1, g2⟩ := sRes1_ok hT hm h1 hb1
      obtain ⟨us, k1, k2, k3⟩ := sResE_ok hT hm h2 hb2
      refine ⟨u :: us, ?_, ⟨g2, k2⟩, by simp [k3]⟩
      rw [List.mapM_cons]
      simp only [Sem.run_bind, g1, Result.andThen_ok, k1, Sem.run_pure]
    · rename_i x ob1 h1
      split at h <;> cases h
      rename_i es' ob' h2
      obtain ⟨hb1, hb2⟩ := hob.append
      obtain ⟨u, g1, g2⟩ := sRes1_ok hT hm h1 hb1
      obtain ⟨us, k1, k2, k3⟩ := sResE_ok hT hm h2 hb2
      refine ⟨u :: us, ?_, ⟨g2, k2⟩, by simp [k3]⟩
      rw [List.mapM_cons]
      simp only [Sem.run_bind, g1, Result.andThen_ok, k1, Sem.run_pure]
theorem sRes_ok {P : Program} {w0 w : World} {T0 : Nat → Nat → Prop} {E : EM} {l : List Ly} {tmps : Array Value} (hT : ∀ t, RelV E (getT l t) (tmps.getD t undef)) (hm : MemRel w0 T0 E (getS l) w) {fn : Func} {v : SV} {ob : List Bool}
    (h : sRes P l fn.results.toList = some (v, ob)) (hob : AllT ob) : ∃ u, (results fn tmps).run P w = .ok u w ∧ RelV E v u := by
  rw [results_eq, Array.mapM_eq_mapM_toList]
  simp only [map_eq_pure_bind, bind_assoc, pure_bind]
  generalize fn.results.toList = rs at h
  match rs, h with
  | [], h => cases h; exact ⟨_, rfl, rfl⟩
  | [r], h =>
    obtain ⟨u, g1, g2⟩ := sRes1_ok hT hm h hob
    refine ⟨u, ?_, g2⟩
    rw [List.mapM_cons]
    simp only [Sem.run_bind, g1, Result.andThen_ok, List.mapM_nil, Sem.run_pure]
    rfl
  | r :: r' :: rs, h =>
    simp only [sRes] at h
    split at h <;> cases h
    rename_i es hes
    obtain ⟨us, k1, k2, k3⟩ := sResE_ok hT hm hes hob
    refine ⟨.tuple us.toArray, ?_, us.toArray, rfl, k2⟩
    simp only [Sem.run_bind, k1, Result.andThen_ok]
    rw [dif_neg (by simp [k3])]
    rfl

/-! ### the ways out -/
def selF : List FOut → Option FOut
  | [] => none
  | o :: l => if o.c.val then some o else selF l
theorem fOuts_ok {P : Program} {rs : List ResultVar} {R : List Ly} : ∀ {l : List (SB × XK × Top)} {fs : List FOut} {k : XK} {T : Top}, fOuts P rs R l = some fs → sel l none = some (some k, T) →
    k = .ret ∧ ∃ c v ob, sRes P (T.ly :: R) rs = some (v, ob) ∧ selF fs = some ⟨c, v, T.ly, T.next, ob⟩
  | [], _, _, _, _, h => by cases h
  | (c, .exit j, T1) :: l, fs, k, T, h, hs => by cases h
  | (c, .ret, T1) :: l, fs, k, T, h, hs => by
    simp only [fOuts] at h
    split at h <;> try (cases h; done)
    rename_i v ob hr
    split at h <;> cases h
    rename_i r hl
    simp only [sel] at hs
    simp only [selF]
    by_cases hc : c.val = true
    · rw [if_pos hc] at hs ⊢
      cases hs
      exact ⟨rfl, c, v, ob, hr, rfl⟩
    · rw [if_neg hc] at hs ⊢
      exact fOuts_ok hl hs
theorem wsOf_mem {l : List Ly} : ∀ {ids : List Nat} {p : Nat × Option Seg}, p ∈ wsOf l ids → p.2 = getS l p.1
  | [], p, h => by cases h
  | i :: r, p, h => by
    simp only [wsOf, List.mem_cons] at h
    rcases h with rfl | h
    · rfl
    · exact wsOf_mem h
theorem wsOf_ids {l : List Ly} : ∀ {ids : List Nat}, fstsN (wsOf l ids) = ids
  | [] => rfl
  | i :: r => by simp only [wsOf, fstsN]; rw [wsOf_ids]
noncomputable def mwF (b : Bool) (R : List Ly) (y : Ly) (m : List (Nat × Option Seg)) (i : Nat) : Option Seg :=
  mergeSeg b (getS (y :: R) i) (match hasId i m with
      | true => (match m.find? (fun p => Nat.beq p.1 i) with
        | some p => p.2
        | none => none)
      | false => getS R i)
theorem mergeWs_mem {b : Bool} {R : List Ly} {y : Ly} {m : List (Nat × Option Seg)} : ∀ {ids : List Nat} {p : Nat × Option Seg}, p ∈ mergeWs b R y m ids → p.2 = mwF b R y m p.1
  | [], p, h => by cases h
  | i :: r, p, h => by
    simp only [mergeWs, List.mem_cons] at h
    rcases h with rfl | h
    · rfl
    · exact mergeWs_mem h
theorem mergeWs_ids {b : Bool} {R : List Ly} {y : Ly} {m : List (Nat × Option Seg)} : ∀ {ids : List Nat}, fstsN (mergeWs b R y m ids) = ids
  | [] => rfl
  | i :: r => by simp only [mergeWs, fstsN]; rw [mergeWs_ids]
theorem idsC_acc {x : SC} {acc : List Nat} {i : Nat} (h : i ∈ acc) : i ∈ idsC x acc := by
  cases x <;> first | exact h | exact List.mem_cons_of_mem _ h
theorem idsL_acc {i : Nat} {acc : List Nat} (h : i ∈ acc) : ∀ (l : List SC), i ∈ idsL l acc
  | [] => h
  | x :: l => idsC_acc (idsL_acc h l)
theorem idsE_acc {i : Nat} {acc : List Nat} (h : i ∈ acc) : ∀ (l : List SE), i ∈ idsE l acc
  | [] => h
  | .c x :: l => idsC_acc (idsE_acc h l)
  | .a m :: l => idsL_acc (idsE_acc h l) m
theorem idsV_acc {i : Nat} {acc : List Nat} (h : i ∈ acc) (v : SV) : i ∈ idsV v acc := by
  cases v with
  | any => exact h
  | undef => exact h
  | c x => exact idsC_acc h
  | a l => exact idsL_acc h l
  | tup l => exact idsE_acc h l
theorem idsSegs_acc {i : Nat} {acc : List Nat} (h : i ∈ acc) : ∀ (l : List (Nat × Seg)), i ∈ idsSegs l acc
  | [] => h
  | (_, ⟨_, _, .cells m⟩) :: l => idsL_acc (idsSegs_acc h l) m
  | (_, ⟨_, _, .rows _ _ _⟩) :: l => idsSegs_acc h l
theorem keepIds_rd {rd : List (Nat × Seg)} {l : List Ly} {v : SV} {i : Nat} (h : i ∈ fstsN rd) : i ∈ keepIds rd l v := idsSegs_acc (idsV_acc h v) _
theorem hasId_mem {α : Type} {i : Nat} : ∀ {l : List (Nat × α)}, hasId i l = false → i ∉ fstsN l
  | [], _ => by simp [fstsN]
  | (j, s) :: l, h => by
    simp only [hasId] at h
    split at h
    · cases h
    · rename_i hb
      simp only [fstsN, List.mem_cons, not_or]
      exact ⟨fun e => (by rw [beqN.2 e] at hb; cases hb), hasId_mem h⟩
theorem touched_not {y : Ly} {i : Nat} : ∀ {l : List Nat}, i ∈ l → i ∉ touched y l → y.s.get i = none
  | [], h, _ => by simp at h
  | j :: l, h, hn => by
    simp only [touched] at hn
    split at hn
    · rename_i g hg
      simp only [List.mem_cons, not_or] at hn
      rcases List.mem_cons.1 h with rfl | h
      · exact absurd rfl hn.1
      · exact touched_not h hn.2
    · rename_i hg
      rcases List.mem_cons.1 h with rfl | h
      · exact hg
      · exact touched_not h hn
theorem find_mem {i : Nat} : ∀ {m : List (Nat × Option Seg)} {g : Seg}, (match m.find? (fun p => Nat.beq p.1 i) with
        | some p => p.2
        | none => none) = some g → (i, some g) ∈ m
  | m, g, h => by
    split at h
    · rename_i p hp
      have h1 := List.find?_some hp
      have h2 := List.mem_of_find?_eq_some hp
      obtain ⟨j, v⟩ := p
      simp only at h h1
      rw [beqN.1 h1, h] at h2
      exact h2
    · cases h
/-- What the end says of the memory: nothing beyond the layer of the way out that is taken. -/
theorem joinF_ok {rd : List (Nat × Seg)} {R : List Ly} (hR : ∀ i g, getS R i = some g → i ∈ fstsN rd) : ∀ {l : List FOut} {e : CEff} {o : FOut}, joinF rd R l = some e → selF l = some o → AllT e.obs →
    AllT o.obs ∧ o.next ≤ e.next ∧ (∀ E v, RelV E o.v v → RelV E e.ret v) ∧ (∀ p ∈ e.ws, ∀ g', p.2 = some g' → ∃ g, getS (o.ly :: R) p.1 = some g ∧ SegLe g g') ∧ ∀ i, i ∈ fstsN rd → i ∉ fstsN e.ws → o.ly.s.get i = none
  | [], e, o, h, _, _ => by cases h
  | [o1], e, o, h, hs, hob => by
    have e1 : o1 = o := by
      simp only [selF] at hs
      split at hs
      · cases hs; rfl
      · cases hs
    subst e1
    cases h
    exact ⟨hob, Nat.le_refl _, fun _ _ h => h, fun p hp g' hg => ⟨g', by rw [← wsOf_mem hp]; exact hg, SegLe.refl _⟩, fun i hi hn => touched_not (keepIds_rd hi) (by rw [wsOf_ids] at hn; exact hn)⟩
  | o1 :: o2 :: l, e, o, h, hs, hob => by
    simp only [joinF] at h
    split at h <;> try (cases h; done)
    rename_i e' he'
    rw [selF] at hs
    split at h <;> cases h
    · rename_i hc
      rw [hc, if_pos (show SB.val _ = true from rfl)] at hs
      cases hs
      exact ⟨hob, Nat.le_refl _, fun _ _ h => h, fun p hp g' hg => ⟨g', by rw [← wsOf_mem hp]; exact hg, SegLe.refl _⟩, fun i hi hn => touched_not (keepIds_rd hi) (by rw [wsOf_ids] at hn; exact hn)⟩
    · rename_i hc
      rw [hc, if_neg (by simp [SB.val])] at hs
      exact joinF_ok hR (l := o2 :: l) he' hs hob
    · rename_i b hc
      obtain ⟨hob1, hob2⟩ := AllT.append hob
      cases b with
      | true =>
        rw [hc, if_pos (show SB.val _ = true from rfl)] at hs
        cases hs
        refine ⟨fun q hq => by have := hob1 (!true || q) (List.mem_map.2 ⟨q, hq, rfl⟩); exact this, Nat.le_max_left _ _, fun E v hv => RelV.merge (fun _ => hv) (fun e => by cases e), fun p hp g' hg => ?_, fun i hi hn => ?_⟩
        · rw [mergeWs_mem hp] at hg
          exact mergeSeg_l hg rfl
        · rw [mergeWs_ids, List.mem_append, not_or] at hn
          exact touched_not (keepIds_rd hi) hn.1
      | false =>
        rw [hc, if_neg (by simp [SB.val])] at hs
        have hobE : AllT e'.obs := fun q hq => by have := hob2 (false || q) (List.mem_map.2 ⟨q, hq, rfl⟩); exact this
        obtain ⟨k1, k2, k3, k4, k5⟩ := joinF_ok hR (l := o2 :: l) he' hs hobE
        refine ⟨k1, Nat.le_trans k2 (Nat.le_max_right _ _), fun E v hv => RelV.merge (fun e => by cases e) (fun _ => k3 E v hv), fun p hp g' hg => ?_, fun i hi hn => ?_⟩
        · rw [mergeWs_mem hp] at hg
          obtain ⟨g1, h1, h2⟩ := mergeSeg_r hg rfl
          split at h1
          · have hm := find_mem h1
            obtain ⟨g, h3, h4⟩ := k4 _ hm g1 rfl
            exact ⟨g, h3, h4.trans h2⟩
          · rename_i hh
            exact ⟨g1, by rw [getS_cons, k5 _ (hR _ _ h1) (hasId_mem hh)]; exact h1, h2⟩
        · rw [mergeWs_ids, List.mem_append, not_or] at hn
          exact k5 i hi hn.2
theorem findS_fsts {i : Nat} : ∀ {l : List (Nat × Seg)} {g : Seg}, findS i l = some g → i ∈ fstsN l
  | (j, s) :: l, g, h => by
    simp only [findS] at h
    simp only [fstsN, List.mem_cons]
    split at h
    · rename_i hb; exact .inl (beqN.1 hb)
    · exact .inr (findS_fsts h)

section
variable {cx : Cx} (hO : cx.O = fops) (hC : ∀ f S, cx.orc f = some S → CallOK cx.P f S) (hmx : cx.P.follows .mixedOrders = true)
include hO hC hmx
theorem inl_ok {f : FuncId} {fn : Func} (hf : cx.P.funcs[f]? = some fn) (hname : (fn.name == "runtime.NumGoroutine") = false) {h : Hn}
    (hl : ∀ code, fn.body = some code → ∀ b ∈ loopsIn code, ∀ L, h.loops (regId b) = some L → CodeOK cx.P fn.ntmps (.loop b) L) : CallOK cx.P f (inl cx fn h) := by
  intro E base args vals rd w e hs hob hargs hb1 hbe hfr hmem
  unfold inl at hs
  split at hs <;> try (cases hs; done)
  rename_i code hbody
  simp only at hs
  split at hs <;> try (cases hs; done)
  rename_i hlen
  split at hs <;> try (cases hs; done)
  rename_i o ho
  split at hs <;> try (cases hs; done)
  rename_i fs hfs
  split at hs <;> cases hs
  rename_i e hj
  simp only at hob hbe hfr ⊢
  obtain ⟨hobo, hobe⟩ := hob.append
  have hR1 : getT [(rdT rd (argsT args 0 (Top.empty base))).ly] = fun t => args.getD t .undef := by
    funext t
    rw [rdT_T, argsT_get, Nat.zero_add, Nat.sub_zero]
    split
    · rfl
    · rw [List.getD_eq_getElem?_getD, List.getElem?_eq_none (by omega)]; rfl
  have hR2 : getS [(rdT rd (argsT args 0 (Top.empty base))).ly] = fun i => findS i rd := by
    funext i
    rw [rdT_S, argsT_S]
    cases findS i rd <;> rfl
  obtain ⟨k, T, s1, s2, s3⟩ := sx_ok hO hC hmx code (hl code hbody) _ _ o ho hobo
  -- the way out
  have hsel : sel (match o.nrm with
        | some T => o.abr ++ [(.t, .ret, T)]
        | none => o.abr) none = some (some (k.getD .ret), T) := by
    cases k with
    | none =>
      rw [(sel_none s1).1]
      simp only
      rw [((sel_app s1).2 rfl).2]; rfl
    | some k =>
      split
      · exact (sel_app s1).1 rfl
      · exact sel_norm s1
  obtain ⟨hk, c, v, ob, hres, hsF⟩ := fOuts_ok hfs hsel
  obtain ⟨j1, j2, j3, j4, j5⟩ := joinF_ok (fun i g hg => by rw [hR2] at hg; exact findS_fsts hg) hj hsF hobe
  have hrun : (callFunc f vals).run cx.P w = .ok (.enter f vals) w := by
    have hne : ¬ fn.name = "runtime.NumGoroutine" := by simpa using hname
    simp [callFunc, hf, hne, hbody]
  rw [hrun]
  show Calls cx.P f vals w _
  refine calls_of_wp hf hbody ?_
  have hsz : vals.size ≤ fn.ntmps := by
    have := hargs.len
    simp at this
    have := Nat.le_of_ble_eq_true hlen
    omega
  have hstart : SRel fn.ntmps ⟨E, base, e.next⟩ w (Tch E rd) E (getT ((Top.empty base).ly :: [(rdT rd (argsT args 0 (Top.empty base))).ly])) (getS ((Top.empty base).ly :: [(rdT rd (argsT args 0 (Top.empty base))).ly])) (Top.empty base).next { tmps := vals ++ Array.replicate (fn.ntmps - vals.size) undef, defers := [] } w := by
    rw [getT_empty, getS_empty, hR1, hR2]
    refine ⟨fun t => ?_, by simp; omega, rfl, hmem, fun i hi => .inl hi, hfr, Nat.le_refl _, hb1⟩
    have h1 := hargs.getD t
    have h2 : (vals ++ Array.replicate (fn.ntmps - vals.size) undef).getD t undef = vals.toList.getD t undef := by
      rw [Array.getD_eq_getD_getElem?, List.getD_eq_getElem?_getD, Array.getElem?_append, Array.getElem?_toList]
      split
      · rfl
      · rename_i hge
        rw [Array.getElem?_eq_none (xs := vals) (by omega), Array.getElem?_replicate]
        split <;> rfl
    show RelV E (args.getD t .undef) ((vals ++ Array.replicate (fn.ntmps - vals.size) undef).getD t undef)
    rw [h2]; exact h1
  refine wp_mono (s3 ⟨E, base, e.next⟩ w (Tch E rd) E _ w hstart j2) fun x a' w' hp => ?_
  obtain ⟨rfl, E', he, hr⟩ := hp
  obtain ⟨u, r1, r2⟩ := sRes_ok hr.tm hr.mem hres j1
  have hpost : CallPost E base rd w ⟨e.ret, e.ws, e.next, o.obs ++ e.obs⟩ u w' := by
    refine ⟨E', he, fun i hi => (hr.news i hi).imp (fun h => h) fun h => ⟨h.1, Nat.lt_of_lt_of_le h.2 j2⟩, j3 E' u r2, hr.mem.weaken fun i g' hg' => ?_⟩
    rcases updSs_cases (fun i => findS i rd) (fun i => findS i rd) e.ws i with ⟨v', h1, _, h3⟩ | ⟨h1, _, h3⟩
    · rw [h1] at hg'
      exact j4 (i, v') h3 g' hg'
    · rw [h1] at hg'
      have hnot : i ∉ fstsN e.ws := fun hm => by
        obtain ⟨v', hv'⟩ := mem_fsts.1 hm
        exact h3 v' hv'
      refine ⟨g', ?_, SegLe.refl _⟩
      rw [getS_cons, j5 i (findS_fsts hg') hnot, hR2]
      exact hg'
  have hend : bodyPost cx.P fn (fun e' w'' => ∃ v, e' = .returned v ∧ CallPost E base rd w ⟨e.ret, e.ws, e.next, o.obs ++ e.obs⟩ v w'') .ret a' w' := ⟨hr.dfr, u, r1, u, rfl, hpost⟩
  cases k with
  | none => exact hend
  | some k =>
    have : k = .ret := hk
    subst this
    exact hend
end

end Go.Proofs.Ytaoeigofmfpamaa
end

/- Contracts. Nothing is assumed. -/
section
namespace Go.Proofs.Ytaoeigofmfpamaa
open Go

/-- The contracts that are known, each with its function's number. -/
def orcOf : List (Nat × CS) → Nat → Option CS
  | [], _ => none
  | (i, S) :: l, f => match Nat.beq f i with
    | true => some S
    | false => orcOf l f
def AllOK (P : Program) : List (Nat × CS) → Prop
  | [] => True
  | (i, S) :: l => CallOK P i S ∧ AllOK P l
theorem orcOf_ok {P : Program} : ∀ {l : List (Nat × CS)}, AllOK P l → ∀ f S, orcOf l f = some S → CallOK P f S
  | [], _, f, S, h => by cases h
  | (i, S') :: l, ha, f, S, h => by
    simp only [orcOf] at h
    split at h
    · rename_i hb
      cases h
      rw [beqN.1 hb]; exact ha.1
    · exact orcOf_ok ha.2 f S h
def noH : Hn := ⟨fun _ => none, fun _ => none⟩
theorem inl_of {P : Program} {l : List (Nat × CS)} (ha : AllOK P l) (hmx : P.follows .mixedOrders = true) {f : FuncId} {fn : Func} (hf : P.funcs[f]? = some fn) (hname : (fn.name == "runtime.NumGoroutine") = false) (ts : Nat → Option Bool) :
    CallOK P f (inl ⟨P, fops, orcOf l⟩ fn ⟨ts, fun _ => none⟩) :=
  inl_ok (cx := ⟨P, fops, orcOf l⟩) rfl (orcOf_ok ha) hmx hf hname (fun _ _ _ _ L h => by cases h)

/-- Every function that no contract tells of is run through, 'n' deep. -/
noncomputable def orcN (P : Program) (O : FOps) (l : List (Nat × CS)) (n : Nat) : Nat → Option CS :=
  Nat.rec (motive := fun _ => Nat → Option CS) (fun f => orcOf l f)
    (fun _ ih f => match orcOf l f with
      | some S => some S
      | none => match P.funcs[f]? with
        | some fn => match fn.name == "runtime.NumGoroutine" with
          | false => some (inl ⟨P, O, ih⟩ fn noH)
          | true => none
        | none => none) n
theorem orcN_ok {P : Program} {l : List (Nat × CS)} (ha : AllOK P l) (hmx : P.follows .mixedOrders = true) : ∀ (n : Nat) (f : Nat) (S : CS), orcN P fops l n f = some S → CallOK P f S
  | 0, f, S, h => orcOf_ok ha f S h
  | n + 1, f, S, h => by
    replace h : (match orcOf l f with
      | some S => some S
      | none => match P.funcs[f]? with
        | some fn => match fn.name == "runtime.NumGoroutine" with
          | false => some (inl ⟨P, fops, orcN P fops l n⟩ fn noH)
          | true => none
        | none => none) = some S := h
    split at h
    · rename_i S' hS; cases h; exact orcOf_ok ha f S hS
    · split at h <;> try (cases h; done)
      rename_i fn hf
      split at h <;> cases h
      rename_i hname
      exact inl_ok (cx := ⟨P, fops, orcN P fops l n⟩) rfl (orcN_ok ha hmx n) hmx hf hname (fun _ _ _ _ L h => by cases h)
theorem inlN_of {P : Program} {l : List (Nat × CS)} (ha : AllOK P l) (hmx : P.follows .mixedOrders = true) (n : Nat) {f : FuncId} {fn : Func} (hf : P.funcs[f]? = some fn) (hname : (fn.name == "runtime.NumGoroutine") = false) (ts : Nat → Option Bool) :
    CallOK P f (inl ⟨P, fops, orcN P fops l n⟩ fn ⟨ts, fun _ => none⟩) :=
  inl_ok (cx := ⟨P, fops, orcN P fops l n⟩) rfl (orcN_ok ha hmx n) hmx hf hname (fun _ _ _ _ L h => by cases h)

/-- Less may be said. -/
theorem CallOK.weak {P : Program} {f : FuncId} {S S' : CS} (h : CallOK P f S) (hw : ∀ base args rd e (E : EM) vals, S' base args rd = some e → AllT e.obs → RelVs E args vals → ∃ e0, S base args rd = some e0 ∧ AllT e0.obs ∧ (∀ E v, RelV E e0.ret v → RelV E e.ret v) ∧ e0.ws = e.ws ∧ base ≤ e0.next ∧ e0.next ≤ e.next) : CallOK P f S' := by
  intro E base args vals rd w e hs hob hargs hb1 hbe hfr hmem
  obtain ⟨e0, h1, h2, h3, h4, h5, h6⟩ := hw base args rd e E vals.toList hs hob hargs
  refine (h E base args vals rd w e0 h1 h2 hargs hb1 h5 (fun i hi1 hi2 => hfr i hi1 (Nat.lt_of_lt_of_le hi2 h6)) hmem).mono fun v w' hp => ?_
  obtain ⟨E', k1, k2, k3, k4⟩ := hp
  exact ⟨E', k1, fun i hi => (k2 i hi).imp (fun h => h) fun h => ⟨h.1, Nat.lt_of_lt_of_le h.2 h6⟩, h3 E' v k3, by rw [← h4]; exact k4⟩

/-! ### what names no segment -/
def flatC : SC → Bool
  | .any | .bool _ | .int _ _ | .flt _ _ | .str _ | .nilp => true
  | _ => false
def flatL : List SC → Bool
  | [] => true
  | x :: l => match flatC x with
    | true => flatL l
    | false => false
def flatE : List SE → Bool
  | [] => true
  | .c x :: l => match flatC x with
    | true => flatE l
    | false => false
  | .a m :: l => match flatL m with
    | true => flatE l
    | false => false
def flatV : SV → Bool
  | .any => true
  | .undef => true
  | .c x => flatC x
  | .a l => flatL l
  | .tup l => flatE l
def flatVs : List SV → Bool
  | [] => true
  | v :: l => match flatV v with
    | true => flatVs l
    | false => false
theorem flatC_ok {E E' : EM} {x : SC} {v : Value} (h : flatC x = true) (hr : RelC E x v) : RelC E' x v := by
  cases x <;> first | exact hr | cases h
theorem flatL_ok {E E' : EM} : ∀ {l : List SC} {m : List Value}, flatL l = true → RelL E l m → RelL E' l m
  | [], [], _, _ => trivial
  | [], _ :: _, _, h => h.elim
  | _ :: _, [], _, h => h.elim
  | x :: l, v :: m, h, hr => by
    simp only [flatL] at h
    split at h
    · rename_i hx; exact ⟨flatC_ok hx hr.1, flatL_ok h hr.2⟩
    · cases h
theorem flatE_ok {E E' : EM} : ∀ {l : List SE} {m : List Value}, flatE l = true → RelEs E l m → RelEs E' l m
  | [], [], _, _ => trivial
  | [], _ :: _, _, h => h.elim
  | _ :: _, [], _, h => h.elim
  | .c x :: l, v :: m, h, hr => by
    simp only [flatE] at h
    split at h
    · rename_i hx; exact ⟨flatC_ok hx hr.1, flatE_ok h hr.2⟩
    · cases h
  | .a n :: l, v :: m, h, hr => by
    simp only [flatE] at h
    split at h
    · rename_i hx
      obtain ⟨vs, h1, h2⟩ := hr.1
      exact ⟨⟨vs, h1, flatL_ok hx h2⟩, flatE_ok h hr.2⟩
    · cases h
theorem flatV_ok {E E' : EM} {x : SV} {v : Value} (h : flatV x = true) (hr : RelV E x v) : RelV E' x v := by
  cases x with
  | any => trivial
  | undef => exact hr
  | c x => exact flatC_ok h hr
  | a l => obtain ⟨vs, h1, h2⟩ := hr; exact ⟨vs, h1, flatL_ok h h2⟩
  | tup l => obtain ⟨vs, h1, h2⟩ := hr; exact ⟨vs, h1, flatE_ok h h2⟩
theorem flatVs_ok {E E' : EM} : ∀ {l : List SV} {m : List Value}, flatVs l = true → RelVs E l m → RelVs E' l m
  | [], [], _, _ => trivial
  | [], _ :: _, _, h => h.elim
  | _ :: _, [], _, h => h.elim
  | x :: l, v :: m, h, hr => by
    simp only [flatVs] at h
    split at h
    · rename_i hx; exact ⟨flatV_ok hx hr.1, flatVs_ok h hr.2⟩
    · cases h
/-- A call that neither is handed memory nor hands any back: where its ids begin does not matter. -/
def flatS (S : CS) : CS := fun base args rd => match rd with
  | [] => match flatVs args with
    | true => match S 1 args [] with
      | some e => match Nat.ble 1 e.next && flatV e.ret with
        | true => some ⟨e.ret, [], base, e.obs⟩
        | false => none
      | none => none
    | false => none
  | _ :: _ => none
theorem flatS_eq {S : CS} {args : List SV} {e : CEff} {base : Nat} (h : S 1 args [] = some e) (ha : flatVs args = true) (hr : flatV e.ret = true) (hn : Nat.ble 1 e.next = true) : flatS S base args [] = some ⟨e.ret, [], base, e.obs⟩ := by
  simp only [flatS, ha, h, hr, hn, Bool.and_true]
theorem CallOK.flat {P : Program} {f : FuncId} {S : CS} (h : CallOK P f S) : CallOK P f (flatS S) := by
  intro E base args vals rd w e hs hob hargs hb1 hbe hfr hmem
  unfold flatS at hs
  split at hs <;> try (cases hs; done)
  split at hs <;> try (cases hs; done)
  rename_i hfl
  split at hs <;> try (cases hs; done)
  rename_i e0 he
  split at hs <;> cases hs
  rename_i hb
  simp only [Bool.and_eq_true, Nat.ble_eq] at hb
  have hm0 : MemRel w (Tch (fun _ => none) []) (fun _ => none) (fun i => findS i []) w :=
    ⟨fun i g hg => (by cases hg), fun i j g k b o z b' o' z' _ hg => (by cases hg), fun i g b o z hg => (by cases hg), Fr.refl _ _, hmem.tab.1, fun b k _ ⟨i, g, o, z, hg, _⟩ => by cases hg⟩
  refine (h (fun _ => none) 1 args vals [] w e0 he hob (flatVs_ok hfl hargs) (Nat.le_refl _) hb.1 (fun _ _ _ => rfl) hm0).mono fun v w' hp => ?_
  obtain ⟨E', k1, k2, k3, k4⟩ := hp
  refine ⟨E, Ext.refl E, fun i hi => .inl hi, flatV_ok hb.2 k3, fun i g hg => (by cases hg), fun i j g k b o z b' o' z' _ hg => (by cases hg), fun i g b o z hg => (by cases hg), ?_, hmem.tab⟩
  have hfr := k4.fr
  refine ⟨hfr.os, hfr.out, hfr.size, fun b hb => ?_, hfr.frz⟩
  rcases hfr.old b hb with ⟨cs, t, fr, cs', g1, g2, g3, g4⟩ | g1
  · refine .inl ⟨cs, t, fr, cs', g1, g2, g3, fun j _ => g4 j fun ⟨i, g, o, z, hg, _⟩ => ?_⟩
    cases hg
  · exact .inr g1

/-- A contract of what is computed alone. -/
def gS (G : List SV → Option SV) : CS := fun base args rd => match rd with
  | [] => match G args with
    | some r => some ⟨r, [], base, []⟩
    | none => none
  | _ :: _ => none
theorem gS_of {P : Program} {f : FuncId} {S : CS} (h : CallOK P f S) {G : List SV → Option SV} (hG : ∀ args r (E : EM) vals, G args = some r → RelVs E args vals → flatVs args = true ∧ ∃ e0, S 1 args [] = some e0 ∧ flatV e0.ret = true ∧ Nat.ble 1 e0.next = true ∧ AllT e0.obs ∧ ∀ E v, RelV E e0.ret v → RelV E r v) : CallOK P f (gS G) := by
  refine h.flat.weak fun base args rd e E vals hs hob hargs => ?_
  unfold gS at hs
  split at hs <;> try (cases hs; done)
  split at hs <;> cases hs
  rename_i r hr
  obtain ⟨h1, e0, h2, h3, h4, h5, h6⟩ := hG args r E vals hr hargs
  exact ⟨_, flatS_eq h2 h1 h3 h4, h5, h6, rfl, Nat.le_refl _, Nat.le_refl _⟩

/-! ### the library's own functions -/
theorem run_extern {P : Program} {f : FuncId} {fn : Func} (hf : P.funcs[f]? = some fn) (hname : (fn.name == "runtime.NumGoroutine") = false) (hb : fn.body.isNone = true) (hn : Extern.findNext fn = none) {x : Array Value → Sem Value} (he : Extern.find fn = some x) {vals : Array Value} {w w' : World} {v : Value} (hr : (x vals).run P w = .ok v w') :
    (callFunc f vals).run P w = .ok (.value v) w' := by
  have hne : ¬ fn.name = "runtime.NumGoroutine" := by simpa using hname
  have hbn : fn.body = none := by simpa using hb
  simp [callFunc, hf, hne, hbn, hn, he, hr]
/-- A call that only computes. -/
theorem CallOK.pure {P : Program} {f : FuncId} {S : CS} (h : ∀ E base args vals rd w e, S base args rd = some e → AllT e.obs → RelVs E args vals.toList → e.ws = [] ∧ ∃ v, (callFunc f vals).run P w = .ok (.value v) w ∧ RelV E e.ret v) : CallOK P f S := by
  intro E base args vals rd w e hs hob hargs hb1 hbe hfr hmem
  obtain ⟨h1, v, h2, h3⟩ := h E base args vals rd w e hs hob hargs
  rw [h2]
  refine ⟨E, Ext.refl E, fun i hi => .inl hi, h3, ?_⟩
  rw [h1]; exact hmem
def bits32S : CS := fun base args _ => match args with
  | [.c (.flt .f32 x)] => some ⟨.c (.int .u32 (.s x)), [], base, [!Nat.beq x (qnan .f32)]⟩
  | _ => none
theorem can_ne {k : FloatKind} {r : Nat} (h : can k r ≠ qnan k) : can k r = r := by
  unfold can at *
  split
  · rename_i hn; rw [if_pos hn] at h; exact absurd rfl h
  · rfl
theorem bits32_ok {P : Program} {f : FuncId} {fn : Func} (hf : P.funcs[f]? = some fn) (hname : (fn.name == "runtime.NumGoroutine") = false) (hb : fn.body.isNone = true) (hn : Extern.findNext fn = none) (he : Extern.find fn = some Extern.MathFloatBits.float32bits) : CallOK P f bits32S := by
  refine CallOK.pure fun E base args vals rd w e hs hob hargs => ?_
  unfold bits32S at hs
  split at hs <;> cases hs
  rename_i x
  refine ⟨rfl, ?_⟩
  obtain ⟨l⟩ := vals
  match l, hargs with
  | [v], hargs =>
    obtain ⟨r, rfl, h2, h3⟩ := hargs.1
    refine ⟨.int .u32 r, run_extern hf hname hb hn he rfl, ?_⟩
    have hx : x ≠ qnan .f32 := fun e => by
      have := hob _ (List.mem_singleton.2 rfl)
      rw [beqN.2 e] at this; cases this
    show Value.int .u32 (r : Int) = .int .u32 ((x : Nat) : Int)
    rw [← h3] at hx ⊢
    rw [can_ne hx]

end Go.Proofs.Ytaoeigofmfpamaa
end

/- A loop of any number of rounds: what stays of a state from round to round. Nothing is assumed. -/
section
namespace Go.Proofs.Ytaoeigofmfpamaa
open Go
noncomputable section

/-! ### a state's shape, and its data -/
inductive LD where
  | i (n : Int)
  | b (b : Bool)
  | f (x : Nat)
  | s (x : ByteArray)
  | r (row : Int → List SC)
inductive KC where
  | any
  | bool
  | boolc (b : Bool)
  | int (k : IntKind)
  | intc (k : IntKind) (n : Int)
  | flt (k : FloatKind)
  | str
  | nilp
  | ptr (id off : Nat)
  | sl (id off es : Nat) (full : Bool)
  | slc (id off es n : Nat) (full : Bool)
inductive KV where
  | any
  | c (x : KC)
  | a (l : List KC)
inductive KB where
  | cells (l : List KC)
  | rows (st : Nat)
structure KS where
  rw : Bool
  own : Bool
  body : KB
/-- Temporaries, segments, the first free id. -/
structure Sk where
  tms : List (Nat × KV)
  segs : List (Nat × KS)
  next : Nat

/-- The id that is now called 'j'. -/
def frOf : List (Nat × Nat) → Nat → Nat
  | [], j => j
  | (i, k) :: l, j => match Nat.beq k j with
    | true => i
    | false => frOf l j
def idm (ρ : List (Nat × Nat)) (nx i j : Nat) : Bool := Nat.beq i (frOf ρ j) && (Nat.ble (j + 1) nx && (Nat.ble 1 j || Nat.beq i 0))
def oneIf (b : Bool) (l : List LD) : Option (List LD) :=
  match b with
  | true => some l
  | false => none
def mC (ρ : List (Nat × Nat)) (nx : Nat) : KC → SC → Option (List LD)
  | .any, _ => some []
  | .bool, .bool b => some [.b b.val]
  | .boolc true, .bool .t => some []
  | .boolc false, .bool .f => some []
  | .int k, .int k' n => oneIf (decide (k = k')) [.i n.val]
  | .intc k m, .int k' (.c n) => oneIf (decide (k = k') && decide (m = n)) []
  | .flt k, .flt k' x => oneIf (decide (k = k')) [.f x]
  | .str, .str x => some [.s x]
  | .nilp, .nilp => some []
  | .ptr j o, .ptr i o' => oneIf (idm ρ nx i j && Nat.beq o o') []
  | .sl j o es fu, .sl i o' es' n fu' => oneIf (idm ρ nx i j && (Nat.beq o o' && (Nat.beq es es' && (!fu || fu')))) [.i n.val]
  | .slc j o es m fu, .sl i o' es' (.c n) fu' => oneIf (idm ρ nx i j && (Nat.beq o o' && (Nat.beq es es' && ((!fu || fu') && decide ((m : Int) = n))))) []
  | _, _ => none
def bC : KC → List LD → Option (SC × List LD)
  | .any, p => some (.any, p)
  | .bool, .b x :: p => some (.bool (.s x), p)
  | .boolc true, p => some (.bool .t, p)
  | .boolc false, p => some (.bool .f, p)
  | .int k, .i n :: p => some (.int k (.s n), p)
  | .intc k m, p => some (.int k (.c m), p)
  | .flt k, .f x :: p => some (.flt k x, p)
  | .str, .s x :: p => some (.str x, p)
  | .nilp, p => some (.nilp, p)
  | .ptr j o, p => some (.ptr j o, p)
  | .sl j o es fu, .i n :: p => some (.sl j o es (.s n) fu, p)
  | .slc j o es m fu, p => some (.sl j o es (.c m) fu, p)
  | _, _ => none
def mL (ρ : List (Nat × Nat)) (nx : Nat) (l : List KC) : List SC → Option (List LD) :=
  List.rec (motive := fun _ => List SC → Option (List LD)) (fun m => List.rec (some []) (fun _ _ _ => none) m)
    (fun k _ ih m => List.rec none (fun x m' _ => bindO (mC ρ nx k x) fun a => bindO (ih m') fun b => some (a ++ b)) m) l
def bL (l : List KC) : List LD → Option (List SC × List LD) :=
  List.rec (motive := fun _ => List LD → Option (List SC × List LD)) (fun p => some ([], p))
    (fun k _ ih p => bindO (bC k p) fun r => bindO (ih r.2) fun q => some (r.1 :: q.1, q.2)) l
def mV (ρ : List (Nat × Nat)) (nx : Nat) : KV → SV → Option (List LD)
  | .any, _ => some []
  | .c k, .c x => mC ρ nx k x
  | .a l, .a m => mL ρ nx l m
  | _, _ => none
def bV : KV → List LD → Option (SV × List LD)
  | .any, p => some (.any, p)
  | .c k, p => bindO (bC k p) fun r => some (.c r.1, r.2)
  | .a l, p => bindO (bL l p) fun r => some (.a r.1, r.2)
/-- Rows that name no segment. -/
def flatR (row : Int → List SC) : Bool := @decide (∀ j, flatL (row j) = true) (Classical.propDecidable _)
def mB (ρ : List (Nat × Nat)) (nx : Nat) : KB → SBody → Option (List LD × List Bool)
  | .cells l, .cells m => bindO (mL ρ nx l m) fun r => some (r, [])
  | .rows st, .rows st' n row => match Nat.beq st st' with
    | true => some ([.i n, .r row], [flatR row])
    | false => none
  | .rows _, .cells [] => some ([.i 0, .r (fun _ => [])], [])
  | _, _ => none
def bB : KB → List LD → Option (SBody × List LD)
  | .cells l, p => bindO (bL l p) fun r => some (.cells r.1, r.2)
  | .rows st, .i n :: .r row :: p => some (.rows st n row, p)
  | _, _ => none
def mS (ρ : List (Nat × Nat)) (nx j : Nat) (k : KS) (g : Option Seg) : Option (List LD × List Bool) :=
  match g with
  | some g => match (!k.rw || g.rw) && ((!k.own || g.own) && Nat.ble (j + 1) nx) with
    | true => mB ρ nx k.body g.body
    | false => none
  | none => none
def bS (k : KS) (p : List LD) : Option (Seg × List LD) := bindO (bB k.body p) fun r => some (⟨k.rw, k.own, r.1⟩, r.2)

def mTs (ρ : List (Nat × Nat)) (nx : Nat) (gt : Nat → SV) (l : List (Nat × KV)) : Option (List LD) :=
  List.rec (motive := fun _ => Option (List LD)) (some []) (fun k _ ih => bindO (mV ρ nx k.2 (gt k.1)) fun a => bindO ih fun b => some (a ++ b)) l
def bTs (l : List (Nat × KV)) : List LD → Option (List (Nat × SV) × List LD) :=
  List.rec (motive := fun _ => List LD → Option (List (Nat × SV) × List LD)) (fun p => some ([], p))
    (fun k _ ih p => bindO (bV k.2 p) fun r => bindO (ih r.2) fun q => some ((k.1, r.1) :: q.1, q.2)) l
def mSs (ρ : List (Nat × Nat)) (nx : Nat) (gs : Nat → Option Seg) (l : List (Nat × KS)) : Option (List LD × List Bool) :=
  List.rec (motive := fun _ => Option (List LD × List Bool)) (some ([], [])) (fun k _ ih => bindO (mS ρ nx k.1 k.2 (gs (frOf ρ k.1))) fun a => bindO ih fun b => some (a.1 ++ b.1, a.2 ++ b.2)) l
def bSs (l : List (Nat × KS)) : List LD → Option (List (Nat × Option Seg) × List LD) :=
  List.rec (motive := fun _ => List LD → Option (List (Nat × Option Seg) × List LD)) (fun p => some ([], p))
    (fun k _ ih p => bindO (bS k.2 p) fun r => bindO (ih r.2) fun q => some ((k.1, some r.1) :: q.1, q.2)) l
def rnOk (nx0 : Nat) (ρ : List (Nat × Nat)) : Bool :=
  List.rec (motive := fun _ => Bool) true (fun p _ ih => Nat.ble nx0 p.2 && ih) ρ
def apartR (ρ : List (Nat × Nat)) (l : List Nat) : Bool := l.all fun j => l.all fun j' => Nat.beq j j' || !Nat.beq (frOf ρ j) (frOf ρ j')
/-- A state's data, if it has the shape. -/
def mAll (ρ : List (Nat × Nat)) (sk : Sk) (gt : Nat → SV) (gs : Nat → Option Seg) : Option (List LD × List Bool) :=
  match apartR ρ (fstsN sk.segs) with
  | true => bindO (mTs ρ sk.next gt sk.tms) fun a => bindO (mSs ρ sk.next gs sk.segs) fun b => some (a ++ b.1, b.2)
  | false => none
def anysK {β : Type} (N : Nat) : Top → (Top → β) → β :=
  Nat.rec (motive := fun _ => Top → (Top → β) → β) (fun T f => f T) (fun n ih T f => T.setTK n .any fun T' => ih T' f) N
def setTsK {β : Type} (l : List (Nat × SV)) : Top → (Top → β) → β :=
  List.rec (motive := fun _ => Top → (Top → β) → β) (fun T f => f T) (fun p _ ih T f => T.setTK p.1 p.2 fun T' => ih T' f) l
def anys (N : Nat) : Top → Top := Nat.rec (motive := fun _ => Top → Top) (fun T => T) (fun n ih T => ih (T.setT n .any)) N
def setTs (l : List (Nat × SV)) : Top → Top := List.rec (motive := fun _ => Top → Top) (fun T => T) (fun p _ ih T => ih (T.setT p.1 p.2)) l
/-- The state of a shape with some data, laid over all that stands there. -/
def onK {β : Type} (N : Nat) (kt ks : List Nat) (sk : Sk) (nx : Nat) (p : List LD) (f : Top → Option β) : Option β :=
  bindO (bTs sk.tms p) fun a => bindO (bSs sk.segs a.2) fun b => match b.2 with
    | [] => anysK N (Top.empty nx) fun T0 => (setTsK (kt.map fun t => (t, .any)) T0) fun T1 => setTsK a.1 T1 fun T2 => T2.setSsK (ks.map fun i => (i, none)) fun T3 => T3.setSsK b.1 f
    | _ :: _ => none

def way : List (SB × XK × Top) → Option Top → Option (Option XK × Top)
  | [], some T => some (none, T)
  | [], none => none
  | (.t, k, T) :: _, _ => some (some k, T)
  | (.f, _, _) :: l, n => way l n
  | (.s _, _, _) :: _, _ => none
/-- One round: from data of the shape 'sk' to data of the shape 'skE'. -/
def goL (cx : Cx) (N : Nat) (h : Hn) (x : Code) (nx0 mx : Nat) (sk : Sk) (ρ : List (Nat × Nat)) (skE : Sk) (p : List LD) : Option (Option XK × List LD × List Bool) :=
  match rnOk nx0 ρ && (Nat.ble nx0 sk.next && (Nat.ble nx0 skE.next && (Nat.ble skE.next mx && Nat.ble 1 nx0))) with
  | false => none
  | true => onK N [] [] sk sk.next p fun T => bindO (sx cx N h x [] T) fun o => bindO (way o.abr o.nrm) fun r => match Nat.ble r.2.next mx with
    | true => bindO (mAll ρ skE (getT [r.2.ly]) (getS [r.2.ly])) fun q => some (r.1, q.1, o.obs ++ q.2)
    | false => none

/-! ### what stays true -/
/-- The map of the places, some of its ids called anew, some forgotten. -/
def reE (ρ : List (Nat × Nat)) (nx lim : Nat) (E : EM) : EM := fun j => if j < nx then E (frOf ρ j) else if lim ≤ j then E j else none
theorem idm_ok {ρ : List (Nat × Nat)} {nx lim i j : Nat} {E : EM} (h : idm ρ nx i j = true) : reE ρ nx lim E j = E i ∧ (i ≠ 0 → j ≠ 0) := by
  simp only [idm, Bool.and_eq_true, Bool.or_eq_true, beqN, Nat.ble_eq] at h
  obtain ⟨rfl, h2, h3⟩ := h
  exact ⟨if_pos (by omega), by omega⟩
theorem oneIf_some {b : Bool} {l r : List LD} (h : oneIf b l = some r) : b = true ∧ r = l := by
  unfold oneIf at h
  split at h
  · exact ⟨rfl, (Option.some.inj h).symm⟩
  · cases h
theorem mC_ok {ρ : List (Nat × Nat)} {nx lim : Nat} {k : KC} {x : SC} {l : List LD} (h : mC ρ nx k x = some l) : ∃ x', (∀ q, bC k (l ++ q) = some (x', q)) ∧ ∀ (E : EM) v, RelC E x v → RelC (reE ρ nx lim E) x' v := by
  unfold mC at h
  split at h
  · cases h; exact ⟨.any, fun q => rfl, fun E v hv => hv.one⟩
  · cases h; rename_i b; exact ⟨.bool (.s b.val), fun q => rfl, fun E v hv => hv⟩
  · cases h; exact ⟨.bool .t, fun q => rfl, fun E v hv => hv⟩
  · cases h; exact ⟨.bool .f, fun q => rfl, fun E v hv => hv⟩
  · obtain ⟨h1, rfl⟩ := oneIf_some h
    rename_i k k' n
    simp only [decide_eq_true_eq] at h1
    subst h1
    exact ⟨.int k (.s n.val), fun q => rfl, fun E v hv => hv⟩
  · obtain ⟨h1, rfl⟩ := oneIf_some h
    rename_i k m k' n
    simp only [Bool.and_eq_true, decide_eq_true_eq] at h1
    obtain ⟨rfl, rfl⟩ := h1
    exact ⟨.int k (.c m), fun q => rfl, fun E v hv => hv⟩
  · obtain ⟨h1, rfl⟩ := oneIf_some h
    rename_i k k' y
    simp only [decide_eq_true_eq] at h1
    subst h1
    exact ⟨.flt k y, fun q => rfl, fun E v hv => hv⟩
  · cases h; rename_i y; exact ⟨.str y, fun q => rfl, fun E v hv => hv⟩
  · cases h; exact ⟨.nilp, fun q => rfl, fun E v hv => hv⟩
  · obtain ⟨h1, rfl⟩ := oneIf_some h
    rename_i j o i o'
    simp only [Bool.and_eq_true, beqN] at h1
    obtain ⟨h1, rfl⟩ := h1
    refine ⟨.ptr j o, fun q => rfl, fun E v hv => ?_⟩
    obtain ⟨b, o1, z, e, hv⟩ := hv
    exact ⟨b, o1, z, (idm_ok h1).1.trans e, hv⟩
  · obtain ⟨h1, rfl⟩ := oneIf_some h
    rename_i j o es fu i o' es' n fu'
    simp only [Bool.and_eq_true, beqN] at h1
    obtain ⟨h1, rfl, rfl, h2⟩ := h1
    refine ⟨.sl j o es (.s n.val) fu, fun q => rfl, fun E v hv => ?_⟩
    obtain ⟨base, m, cap, hv, hn, hc, h0, h3⟩ := hv
    refine ⟨base, m, cap, hv, hn, hc, h0, fun a ha => ?_⟩
    obtain ⟨g, b, o1, z, e, g2, g3⟩ := h3 a ha
    exact ⟨(idm_ok (lim := lim) (E := E) h1).2 g, b, o1, z, (idm_ok h1).1.trans e, g2, fun hf => g3 (by subst hf; simpa using h2)⟩
  · obtain ⟨h1, rfl⟩ := oneIf_some h
    rename_i j o es m' fu i o' es' n fu'
    simp only [Bool.and_eq_true, beqN, decide_eq_true_eq] at h1
    obtain ⟨h1, rfl, rfl, h2, rfl⟩ := h1
    refine ⟨.sl j o es (.c m') fu, fun q => rfl, fun E v hv => ?_⟩
    obtain ⟨base, m, cap, hv, hn, hc, h0, h3⟩ := hv
    refine ⟨base, m, cap, hv, hn, hc, h0, fun a ha => ?_⟩
    obtain ⟨g, b, o1, z, e, g2, g3⟩ := h3 a ha
    exact ⟨(idm_ok (lim := lim) (E := E) h1).2 g, b, o1, z, (idm_ok h1).1.trans e, g2, fun hf => g3 (by subst hf; simpa using h2)⟩
  · cases h
theorem mL_ok {ρ : List (Nat × Nat)} {nx lim : Nat} : ∀ {k : List KC} {m : List SC} {l : List LD}, mL ρ nx k m = some l → ∃ m', (∀ q, bL k (l ++ q) = some (m', q)) ∧ m'.length = m.length ∧
    (∀ i, i < m.length → ∀ (E : EM) v, RelC E (m.getD i .any) v → RelC (reE ρ nx lim E) (m'.getD i .any) v)
  | [], [], l, h => by cases h; exact ⟨[], fun q => rfl, rfl, fun i hi => by simp at hi⟩
  | [], _ :: _, l, h => by cases h
  | _ :: _, [], l, h => by cases h
  | k :: ks, x :: m, l, h => by
    replace h : (bindO (mC ρ nx k x) fun a => bindO (mL ρ nx ks m) fun b => some (a ++ b)) = some l := h
    obtain ⟨a, ha, h⟩ := bindO_some h
    obtain ⟨b, hb, h⟩ := bindO_some h
    cases h
    obtain ⟨x', h1, h2⟩ := mC_ok (lim := lim) ha
    obtain ⟨m', h3, h4, h5⟩ := mL_ok hb
    refine ⟨x' :: m', fun q => ?_, by simp [h4], fun i hi E v hv => ?_⟩
    · show (bindO (bC k (a ++ b ++ q)) fun r => bindO (bL ks r.2) fun q => some (r.1 :: q.1, q.2)) = _
      rw [List.append_assoc, h1]
      show (bindO (bL ks (b ++ q)) fun q => some (x' :: q.1, q.2)) = _
      rw [h3]; rfl
    · cases i with
      | zero => exact h2 E v hv
      | succ i => exact h5 i (by simpa using hi) E v hv
theorem mL_rel {ρ : List (Nat × Nat)} {nx lim : Nat} {E : EM} {m m' : List SC} {vs : List Value} (hl : m'.length = m.length) (h : ∀ i, i < m.length → ∀ (E : EM) v, RelC E (m.getD i .any) v → RelC (reE ρ nx lim E) (m'.getD i .any) v) (hr : RelL E m vs) : RelL (reE ρ nx lim E) m' vs := by
  refine RelL.of_getD (by rw [hl, hr.len]) fun k hk => ?_
  obtain ⟨v, h1, h2⟩ := hr.getD k (by omega)
  exact ⟨v, h1, h k (by omega) E v h2⟩
theorem mV_ok {ρ : List (Nat × Nat)} {nx lim : Nat} {k : KV} {x : SV} {l : List LD} (h : mV ρ nx k x = some l) : ∃ x', (∀ q, bV k (l ++ q) = some (x', q)) ∧ ∀ (E : EM) v, RelV E x v → RelV (reE ρ nx lim E) x' v := by
  unfold mV at h
  split at h
  · cases h; exact ⟨.any, fun q => rfl, fun E v hv => trivial⟩
  · obtain ⟨x', h1, h2⟩ := mC_ok (lim := lim) h
    exact ⟨.c x', fun q => by simp only [bV, h1]; rfl, h2⟩
  · obtain ⟨m', h1, h2, h3⟩ := mL_ok (lim := lim) h
    refine ⟨.a m', fun q => by simp only [bV, h1]; rfl, fun E v hv => ?_⟩
    obtain ⟨vs, hv, hr⟩ := hv
    exact ⟨vs, hv, mL_rel h2 h3 hr⟩
  · cases h
/-- What 'g'' keeps of 'g'. -/
structure SegRe (ρ : List (Nat × Nat)) (nx lim : Nat) (g g' : Seg) : Prop where
  rw : g'.rw = true → g.rw = true
  own : g'.own = true → g.own = true
  len : g'.body.len = g.body.len
  at_ : ∀ (E : EM) k v, k < g.body.len → RelC E (g.body.at k) v → RelC (reE ρ nx lim E) (g'.body.at k) v
theorem flatR_ok {row : Int → List SC} (h : flatR row = true) (j : Int) : flatL (row j) = true := @of_decide_eq_true _ (Classical.propDecidable _) h j
theorem flatL_getD {l : List SC} (h : flatL l = true) (k : Nat) : flatC (l.getD k .any) = true := by
  induction l generalizing k with
  | nil => simp [flatC]
  | cons x l ih =>
    simp only [flatL] at h
    split at h
    · rename_i hx
      cases k with
      | zero => simpa using hx
      | succ k => simpa using ih h k
    · cases h
theorem mB_ok {ρ : List (Nat × Nat)} {nx lim : Nat} {k : KB} {x : SBody} {l : List LD} {ob : List Bool} (h : mB ρ nx k x = some (l, ob)) (hob : AllT ob) : ∃ x', (∀ q, bB k (l ++ q) = some (x', q)) ∧ x'.len = x.len ∧
    ∀ (E : EM) k v, k < x.len → RelC E (x.at k) v → RelC (reE ρ nx lim E) (x'.at k) v := by
  unfold mB at h
  split at h
  · obtain ⟨r, hr, h⟩ := bindO_some h
    cases h
    obtain ⟨m', h1, h2, h3⟩ := mL_ok (lim := lim) hr
    exact ⟨.cells m', fun q => by simp only [bB, h1]; rfl, h2, fun E i v hi hv => h3 i hi E v hv⟩
  · split at h <;> cases h
    rename_i st st' n row hst
    rw [beqN] at hst
    subst hst
    refine ⟨_, fun q => rfl, rfl, fun E i v _ hv => ?_⟩
    exact flatC_ok (flatL_getD (flatR_ok hob.head _) _) hv
  · cases h
    exact ⟨_, fun q => rfl, by simp [SBody.len], fun E i v hi _ => by simp [SBody.len] at hi⟩
  · cases h
theorem mS_ok {ρ : List (Nat × Nat)} {nx lim j : Nat} {k : KS} {g : Option Seg} {l : List LD} {ob : List Bool} (h : mS ρ nx j k g = some (l, ob)) (hob : AllT ob) : ∃ g0 g', g = some g0 ∧ (∀ q, bS k (l ++ q) = some (g', q)) ∧ j < nx ∧ SegRe ρ nx lim g0 g' := by
  unfold mS at h
  split at h <;> try (cases h; done)
  rename_i g
  split at h <;> try (cases h; done)
  rename_i hc
  simp only [Bool.and_eq_true, Nat.ble_eq] at hc
  obtain ⟨c1, c2, c3⟩ := hc
  obtain ⟨x', h1, h2, h3⟩ := mB_ok (lim := lim) h hob
  exact ⟨g, ⟨k.rw, k.own, x'⟩, rfl, fun q => by simp only [bS, h1]; rfl, by omega, fun hr => by simp only at hr; rw [hr] at c1; simpa using c1, fun hr => by simp only at hr; rw [hr] at c2; simpa using c2, h2, h3⟩
theorem mTs_ok {ρ : List (Nat × Nat)} {nx lim : Nat} {gt : Nat → SV} : ∀ {ks : List (Nat × KV)} {l : List LD}, mTs ρ nx gt ks = some l → ∃ vs, (∀ q, bTs ks (l ++ q) = some (vs, q)) ∧ ∀ t x, (t, x) ∈ vs → ∀ (E : EM) v, RelV E (gt t) v → RelV (reE ρ nx lim E) x v
  | [], l, h => by cases h; exact ⟨[], fun q => rfl, fun t x hx => by cases hx⟩
  | k :: ks, l, h => by
    replace h : (bindO (mV ρ nx k.2 (gt k.1)) fun a => bindO (mTs ρ nx gt ks) fun b => some (a ++ b)) = some l := h
    obtain ⟨a, ha, h⟩ := bindO_some h
    obtain ⟨b, hb, h⟩ := bindO_some h
    cases h
    obtain ⟨x', h1, h2⟩ := mV_ok (lim := lim) ha
    obtain ⟨vs, h3, h4⟩ := mTs_ok hb
    refine ⟨(k.1, x') :: vs, fun q => ?_, fun t x hx => ?_⟩
    · show (bindO (bV k.2 (a ++ b ++ q)) fun r => bindO (bTs ks r.2) fun q => some ((k.1, r.1) :: q.1, q.2)) = _
      rw [List.append_assoc, h1]
      show (bindO (bTs ks (b ++ q)) fun q => some ((k.1, x') :: q.1, q.2)) = _
      rw [h3]; rfl
    · rcases List.mem_cons.1 hx with hx | hx
      · cases hx; exact h2
      · exact h4 t x hx
theorem mSs_ok {ρ : List (Nat × Nat)} {nx lim : Nat} {gs : Nat → Option Seg} : ∀ {ks : List (Nat × KS)} {l : List LD} {ob : List Bool}, mSs ρ nx gs ks = some (l, ob) → AllT ob → ∃ vs, (∀ q, bSs ks (l ++ q) = some (vs, q)) ∧
    ∀ j x, (j, x) ∈ vs → j ∈ fstsN ks ∧ j < nx ∧ ∃ g g', gs (frOf ρ j) = some g ∧ x = some g' ∧ SegRe ρ nx lim g g'
  | [], l, ob, h, _ => by cases h; exact ⟨[], fun q => rfl, fun t x hx => by cases hx⟩
  | k :: ks, l, ob, h, hob => by
    replace h : (bindO (mS ρ nx k.1 k.2 (gs (frOf ρ k.1))) fun a => bindO (mSs ρ nx gs ks) fun b => some (a.1 ++ b.1, a.2 ++ b.2)) = some (l, ob) := h
    obtain ⟨a, ha, h⟩ := bindO_some h
    obtain ⟨b, hb, h⟩ := bindO_some h
    cases h
    obtain ⟨g, g', h1, h2, h3, h4⟩ := mS_ok (lim := lim) ha hob.append.1
    obtain ⟨vs, h5, h6⟩ := mSs_ok hb hob.append.2
    refine ⟨(k.1, some g') :: vs, fun q => ?_, fun t x hx => ?_⟩
    · show (bindO (bS k.2 (a.1 ++ b.1 ++ q)) fun r => bindO (bSs ks r.2) fun q => some ((k.1, some r.1) :: q.1, q.2)) = _
      rw [List.append_assoc, h2]
      show (bindO (bSs ks (b.1 ++ q)) fun q => some ((k.1, some g') :: q.1, q.2)) = _
      rw [h5]; rfl
    · rcases List.mem_cons.1 hx with hx | hx
      · cases hx; exact ⟨by simp [fstsN], h3, g, g', h1, rfl, h4⟩
      · obtain ⟨q1, q2⟩ := h6 t x hx
        exact ⟨by simp only [fstsN, List.mem_cons]; exact .inr q1, q2⟩
theorem apartR_ok {ρ : List (Nat × Nat)} {l : List Nat} (h : apartR ρ l = true) {i j : Nat} (hi : i ∈ l) (hj : j ∈ l) (hne : i ≠ j) : frOf ρ i ≠ frOf ρ j := by
  unfold apartR at h
  rw [List.all_eq_true] at h
  have := h i hi
  rw [List.all_eq_true] at this
  have := this j hj
  simp only [Bool.or_eq_true, Bool.not_eq_true', beqN] at this
  rcases this with h | h
  · exact absurd h hne
  · intro e; rw [beqN.2 e] at h; cases h
end
end Go.Proofs.Ytaoeigofmfpamaa
end

/- A loop of any number of rounds: the rule. Nothing is assumed. -/
section
namespace Go.Proofs.Ytaoeigofmfpamaa
open Go
noncomputable section

theorem anysK_eq {β : Type} : ∀ (N : Nat) (T : Top) (f : Top → β), anysK N T f = f (anys N T)
  | 0, T, f => rfl
  | n + 1, T, f => by
    show T.setTK n .any (fun T' => anysK n T' f) = f (anys n (T.setT n .any))
    have : ∀ T', anysK n T' f = f (anys n T') := fun T' => anysK_eq n T' f
    simp only [this]
    show Tr.setK (SV.any) T.ly.t n _ = _
    rw [Tr.setK_eq]; rfl
theorem setTsK_eq {β : Type} : ∀ (l : List (Nat × SV)) (T : Top) (f : Top → β), setTsK l T f = f (setTs l T)
  | [], T, f => rfl
  | p :: l, T, f => by
    show T.setTK p.1 p.2 (fun T' => setTsK l T' f) = f (setTs l (T.setT p.1 p.2))
    have : ∀ T', setTsK l T' f = f (setTs l T') := fun T' => setTsK_eq l T' f
    simp only [this]
    show Tr.setK p.2 T.ly.t p.1 _ = _
    rw [Tr.setK_eq]; rfl
def onT (N : Nat) (kt ks : List Nat) (nx : Nat) (a : List (Nat × SV)) (b : List (Nat × Option Seg)) : Top :=
  ((setTs a (setTs (kt.map fun t => (t, .any)) (anys N (Top.empty nx)))).setSs (ks.map fun i => (i, none))).setSs b
theorem onK_some {β : Type} {N : Nat} {kt ks : List Nat} {sk : Sk} {nx : Nat} {p : List LD} {f : Top → Option β} {r : β} (h : onK N kt ks sk nx p f = some r) :
    ∃ a b p', bTs sk.tms p = some (a, p') ∧ bSs sk.segs p' = some (b, []) ∧ f (onT N kt ks nx a b) = some r := by
  unfold onK at h
  obtain ⟨a, ha, h⟩ := bindO_some h
  obtain ⟨b, hb, h⟩ := bindO_some h
  split at h <;> try (cases h; done)
  rename_i hb2
  rw [anysK_eq, setTsK_eq, setTsK_eq, setSsK_eq, setSsK_eq] at h
  exact ⟨a.1, b.1, a.2, ha, by rw [hb, ← hb2], h⟩
theorem setSs_next : ∀ (l : List (Nat × Option Seg)) (T : Top), (T.setSs l).next = T.next
  | [], _ => rfl
  | p :: l, T => setSs_next l (T.setS p.1 p.2)
theorem setTs_next : ∀ (l : List (Nat × SV)) (T : Top), (setTs l T).next = T.next
  | [], _ => rfl
  | p :: l, T => setTs_next l (T.setT p.1 p.2)
theorem anys_next : ∀ (n : Nat) (T : Top), (anys n T).next = T.next
  | 0, _ => rfl
  | n + 1, T => anys_next n (T.setT n .any)
theorem onT_next (N : Nat) (kt ks : List Nat) (nx : Nat) (a : List (Nat × SV)) (b : List (Nat × Option Seg)) : (onT N kt ks nx a b).next = nx := by
  unfold onT; rw [setSs_next, setSs_next, setTs_next, setTs_next, anys_next]; rfl
theorem setTs_good {Q : Nat → SV → Prop} (R : List Ly) : ∀ (l : List (Nat × SV)) (T : Top), (∀ t x, (t, x) ∈ l → Q t x) → (∀ t, Q t (getT (T.ly :: R) t)) → ∀ t, Q t (getT ((setTs l T).ly :: R) t)
  | [], T, _, h => h
  | p :: l, T, h1, h => setTs_good R l (T.setT p.1 p.2) (fun t x hx => h1 t x (List.mem_cons.2 (.inr hx))) fun t => by
    rw [getT_setT]
    by_cases e : t = p.1
    · subst e; rw [upd_same]; exact h1 _ _ (List.mem_cons.2 (.inl rfl))
    · rw [upd_other _ _ e]; exact h t
theorem setTs_S (R : List Ly) : ∀ (l : List (Nat × SV)) (T : Top), getS ((setTs l T).ly :: R) = getS (T.ly :: R)
  | [], T => rfl
  | p :: l, T => (setTs_S R l (T.setT p.1 p.2)).trans (getS_setT T p.1 p.2 R)
theorem anys_S (R : List Ly) : ∀ (n : Nat) (T : Top), getS ((anys n T).ly :: R) = getS (T.ly :: R)
  | 0, T => rfl
  | n + 1, T => (anys_S R n (T.setT n .any)).trans (getS_setT T n .any R)
theorem anys_T (R : List Ly) : ∀ (n : Nat) (T : Top) (t : Nat), getT ((anys n T).ly :: R) t = if t < n then .any else getT (T.ly :: R) t
  | 0, T, t => by rw [if_neg (Nat.not_lt_zero t)]; rfl
  | n + 1, T, t => by
    show getT ((anys n (T.setT n .any)).ly :: R) t = _
    rw [anys_T R n, getT_setT]
    by_cases e : t = n
    · subst e; simp [upd_same]
    · rw [upd_other _ _ e]
      by_cases h : t < n
      · simp [h, Nat.lt_succ_of_lt h]
      · have : ¬ t < n + 1 := by omega
        simp [h, this]
theorem cover_T (R : List Ly) (N : Nat) (kt : List Nat) (nx : Nat) (hk : ∀ t, t ∉ kt → getT R t = .undef) (t : Nat) :
    getT ((setTs (kt.map fun t => (t, .any)) (anys N (Top.empty nx))).ly :: R) t = .any ∨ (N ≤ t ∧ getT ((setTs (kt.map fun t => (t, .any)) (anys N (Top.empty nx))).ly :: R) t = .undef) := by
  have gen : ∀ (kt : List Nat) (T : Top), getT ((setTs (kt.map fun t => (t, .any)) T).ly :: R) t = if t ∈ kt then .any else getT (T.ly :: R) t := by
    intro kt
    induction kt with
    | nil => intro T; simp [setTs]
    | cons k kt ih =>
      intro T
      show getT ((setTs (kt.map fun t => (t, .any)) (T.setT k .any)).ly :: R) t = _
      rw [ih, getT_setT]
      by_cases e : t = k
      · subst e; simp [upd_same]
      · rw [upd_other _ _ e]; simp [e]
  rw [gen]
  split
  · exact .inl rfl
  · rename_i h
    rw [anys_T]
    split
    · exact .inl rfl
    · rename_i h2
      rw [getT_empty]
      exact .inr ⟨by omega, hk t h⟩
theorem onT_S {R : List Ly} {N : Nat} {kt ks : List Nat} {nx : Nat} {a : List (Nat × SV)} {b : List (Nat × Option Seg)} (hk : ∀ i, i ∉ ks → getS R i = none) {j : Nat} {g : Seg} (h : getS ((onT N kt ks nx a b).ly :: R) j = some g) : (j, some g) ∈ b := by
  unfold onT at h
  rw [getS_setSs, getS_setSs, setTs_S, setTs_S, anys_S, getS_empty] at h
  rcases updSs_cases (updSs (getS R) (ks.map fun i => (i, none))) (fun _ => none) b j with ⟨v, h1, _, h3⟩ | ⟨h1, _, _⟩
  · rw [h1] at h; subst h; exact h3
  · rw [h1] at h
    rcases updSs_cases (getS R) (fun _ => none) (ks.map fun i => (i, (none : Option Seg))) j with ⟨v, h4, _, h6⟩ | ⟨h4, _, h6⟩
    · rw [h4] at h; subst h
      simp at h6
    · rw [h4] at h
      have : j ∉ ks := fun hm => h6 none (List.mem_map.2 ⟨j, hm, rfl⟩)
      rw [hk j this] at h; cases h
theorem frOf_ne {ρ : List (Nat × Nat)} {nx0 : Nat} (h : rnOk nx0 ρ = true) {j : Nat} (hj : frOf ρ j ≠ j) : nx0 ≤ j := by
  induction ρ with
  | nil => exact absurd rfl hj
  | cons p ρ ih =>
    obtain ⟨i, k⟩ := p
    have h' : (Nat.ble nx0 k && rnOk nx0 ρ) = true := h
    simp only [Bool.and_eq_true, Nat.ble_eq] at h'
    unfold frOf at hj
    split at hj
    · rename_i hb; rw [← beqN.1 hb]; exact h'.1
    · exact ih h'.2 hj

/-- From a state that has the shape to the state of that shape. -/
theorem on_srel {N : Nat} {Lim : Rg} {w0 w : World} {T0 : Nat → Nat → Prop} {E E0 : EM} {tm : Nat → SV} {sg : Nat → Option Seg} {next nx0 nx : Nat} {a : Act} {ρ : List (Nat × Nat)} {sk : Sk} {p : List LD} {ob : List Bool} {R : List Ly} {kt ks : List Nat}
    (hr : SRel N Lim w0 T0 E tm sg next a w) (he : Ext E0 E) (hm : mAll ρ sk tm sg = some (p, ob)) (hob : AllT ob) (hρ : rnOk nx0 ρ = true) (h1 : nx0 ≤ sk.next) (h2 : sk.next ≤ nx) (h7 : sk.next ≤ Lim.lim) (h3 : next ≤ Lim.lim) (h4 : ∀ i, nx0 ≤ i → i < Lim.lim → E0 i = none) (h5 : Lim.base ≤ nx0) (h6 : 1 ≤ nx0)
    (hkt : ∀ t, t ∉ kt → getT R t = .undef) (hks : ∀ i, i ∉ ks → getS R i = none) :
    ∃ va vb p', bTs sk.tms p = some (va, p') ∧ bSs sk.segs p' = some (vb, []) ∧ ∃ E'', Ext E0 E'' ∧ SRel N Lim w0 T0 E'' (getT ((onT N kt ks nx va vb).ly :: R)) (getS ((onT N kt ks nx va vb).ly :: R)) nx a w := by
  unfold mAll at hm
  split at hm <;> try (cases hm; done)
  rename_i hap
  obtain ⟨la, hla, hm⟩ := bindO_some hm
  obtain ⟨lb, hlb, hm⟩ := bindO_some hm
  cases hm
  obtain ⟨va, g1, g2⟩ := mTs_ok (lim := Lim.lim) hla
  obtain ⟨vb, g3, g4⟩ := mSs_ok (lim := Lim.lim) hlb hob
  refine ⟨va, vb, lb.1, g1 lb.1, by have := g3 []; rwa [List.append_nil] at this, reE ρ sk.next Lim.lim E, ?_, ?_⟩
  · intro i x hx
    unfold reE
    by_cases hi : nx0 ≤ i
    · have : Lim.lim ≤ i := Nat.le_of_not_lt fun hl => by rw [h4 i hi hl] at hx; cases hx
      by_cases hn : i < sk.next
      · rw [if_pos hn]
        omega
      · rw [if_neg hn, if_pos this]; exact he i x hx
    · have hn : i < sk.next := by omega
      rw [if_pos hn]
      have hf : frOf ρ i = i := Classical.byContradiction fun hne => hi (frOf_ne hρ hne)
      rw [hf]; exact he i x hx
  · have hsz := hr.size
    refine ⟨?_, hr.size, hr.dfr, ?_, ?_, hr.old, by omega, by omega⟩
    · have hT : ∀ t, RelV (reE ρ sk.next Lim.lim E) (getT ((setTs va (setTs (kt.map fun t => (t, .any)) (anys N (Top.empty nx)))).ly :: R) t) (a.tmps.getD t undef) := by
        refine setTs_good (Q := fun t x => RelV (reE ρ sk.next Lim.lim E) x (a.tmps.getD t undef)) R va _ (fun t x hx => g2 t x hx E _ (hr.tm t)) fun t => ?_
        rcases cover_T R N kt nx hkt t with h | ⟨hN, h⟩
        · rw [h]; trivial
        · rw [h]
          show a.tmps.getD t undef = undef
          rw [Array.getD_eq_getD_getElem?, Array.getElem?_eq_none (by omega)]; rfl
      intro t
      unfold onT
      rw [getT_setSs, getT_setSs]
      exact hT t
    · have hin : ∀ j g', getS ((onT N kt ks nx va vb).ly :: R) j = some g' → j ∈ fstsN sk.segs ∧ j < sk.next ∧ ∃ g, sg (frOf ρ j) = some g ∧ SegRe ρ sk.next Lim.lim g g' := by
        intro j g' hj
        obtain ⟨q1, q2, g, g'', q3, q4, q5⟩ := g4 j _ (onT_S hks hj)
        cases q4
        exact ⟨q1, q2, g, q3, q5⟩
      have hE : ∀ j, j < sk.next → reE ρ sk.next Lim.lim E j = E (frOf ρ j) := fun j hj => if_pos hj
      refine ⟨fun j g' hj => ?_, fun i j g k b o z b' o' z' hij hi hj hrw hEi hEj => ?_, fun j g' b o z hj hrw hEj => ?_, hr.mem.fr, hr.mem.tab⟩
      · obtain ⟨_, q2, g, q3, q5⟩ := hin j g' hj
        obtain ⟨b, o, z, cs, T, fr, e, s⟩ := hr.mem.segs _ g q3
        refine ⟨b, o, z, cs, T, fr, (hE j q2).trans e, s.heap, by rw [q5.len]; exact s.le, s.fit, fun h => s.own (q5.own h), fun h => s.fz (q5.rw h), fun k hk => ?_⟩
        rw [q5.len] at hk
        obtain ⟨v, c1, c2⟩ := s.cell k hk
        exact ⟨v, c1, q5.at_ E k v hk c2⟩
      · obtain ⟨a1, a2, ga, a3, a5⟩ := hin i g hi
        obtain ⟨b1, b2, gb, b3, b5⟩ := hin j k hj
        rw [hE i a2] at hEi
        rw [hE j b2] at hEj
        exact hr.mem.disj _ _ ga gb b o z b' o' z' (apartR_ok hap a1 b1 hij) a3 b3 (hrw.imp a5.rw b5.rw) hEi hEj
      · obtain ⟨_, q2, g, q3, q5⟩ := hin j g' hj
        rw [hE j q2] at hEj
        exact hr.mem.tch _ g b o z q3 (q5.rw hrw) hEj
    · intro i hi
      unfold reE at hi
      split at hi
      · rename_i hn
        by_cases hf : frOf ρ i = i
        · rw [hf] at hi
          exact (hr.news i hi).imp id fun h => ⟨h.1, by omega⟩
        · exact .inr ⟨Nat.le_trans h5 (frOf_ne hρ hf), by omega⟩
      · split at hi
        · rename_i hl
          rcases hr.news i hi with h | h
          · exact .inl h
          · omega
        · exact absurd rfl hi
theorem way_sel : ∀ {l : List (SB × XK × Top)} {n : Option Top} {r : Option XK × Top}, way l n = some r → sel l n = some r
  | [], some T, r, h => by cases h; rfl
  | [], none, r, h => by cases h
  | (.t, k, T) :: l, n, r, h => by cases h; rfl
  | (.f, k, T) :: l, n, r, h => by
    have := way_sel (l := l) (n := n) (r := r) h
    simpa [sel, SB.val] using this
  | (.s b, k, T) :: l, n, r, h => by cases h

section
variable {P : Program} {N : Nat} {Lim : Rg} {w0 : World} {T0 : Nat → Nat → Prop}
/-- What a state of the shape says. -/
def StR (N : Nat) (Lim : Rg) (w0 : World) (T0 : Nat → Nat → Prop) (sk : Sk) (p : List LD) (E : EM) (a : Act) (w : World) : Prop :=
  ∃ va vb p', bTs sk.tms p = some (va, p') ∧ bSs sk.segs p' = some (vb, []) ∧ SRel N Lim w0 T0 E (getT [(onT N [] [] sk.next va vb).ly]) (getS [(onT N [] [] sk.next va vb).ly]) sk.next a w
/-- What a state says that has the shape. -/
def MtR (N : Nat) (Lim : Rg) (w0 : World) (T0 : Nat → Nat → Prop) (mx : Nat) (ρ : List (Nat × Nat)) (sk : Sk) (p : List LD) (E0 : EM) (a : Act) (w : World) : Prop :=
  ∃ E tm sg next ob, Ext E0 E ∧ SRel N Lim w0 T0 E tm sg next a w ∧ mAll ρ sk tm sg = some (p, ob) ∧ AllT ob ∧ next ≤ mx
theorem MtR.st {mx nx0 : Nat} {ρ : List (Nat × Nat)} {sk : Sk} {p : List LD} {E0 : EM} {a : Act} {w : World} (h : MtR N Lim w0 T0 mx ρ sk p E0 a w) (hρ : rnOk nx0 ρ = true) (h1 : nx0 ≤ sk.next) (h7 : sk.next ≤ mx) (h3 : mx ≤ Lim.lim) (h4 : ∀ i, nx0 ≤ i → i < Lim.lim → E0 i = none) (h5 : Lim.base ≤ nx0) (h6 : 1 ≤ nx0) :
    ∃ E, Ext E0 E ∧ StR N Lim w0 T0 sk p E a w := by
  obtain ⟨E, tm, sg, next, ob, he, hr, hm, hob, hn⟩ := h
  obtain ⟨va, vb, p', g1, g2, E'', g3, g4⟩ := on_srel (R := []) (kt := []) (ks := []) hr he hm hob hρ h1 (Nat.le_refl _) (Nat.le_trans h7 h3) (Nat.le_trans hn h3) h4 h5 h6 (fun _ _ => rfl) (fun _ _ => rfl)
  exact ⟨E'', g3, va, vb, p', g1, g2, g4⟩
variable {cx : Cx} {h : Hn} {x : Code} {nx0 mx : Nat} {sk : Sk}
theorem goL_ok (hx : CodeOK P N x (sx cx N h x)) {ρ : List (Nat × Nat)} {skE : Sk} {p q : List LD} {k : Option XK} {ob : List Bool} (hgo : goL cx N h x nx0 mx sk ρ skE p = some (k, q, ob)) (hob : AllT ob) {E E0 : EM} {a : Act} {w : World} (he : Ext E0 E)
    (hr : StR N Lim w0 T0 sk p E a w) (hl : mx ≤ Lim.lim) : x.wp P (fun e a' w' => e = exitOf k ∧ MtR N Lim w0 T0 mx ρ skE q E0 a' w') a w ∧ rnOk nx0 ρ = true ∧ nx0 ≤ sk.next ∧ nx0 ≤ skE.next ∧ skE.next ≤ mx ∧ 1 ≤ nx0 := by
  unfold goL at hgo
  split at hgo <;> try (cases hgo; done)
  rename_i hc
  simp only [Bool.and_eq_true, Nat.ble_eq] at hc
  obtain ⟨va, vb, p', g1, g2, g3⟩ := onK_some hgo
  obtain ⟨va', vb', p'', k1, k2, k3⟩ := hr
  rw [g1] at k1; cases k1
  rw [g2] at k2; cases k2
  obtain ⟨o, ho, g3⟩ := bindO_some g3
  obtain ⟨r, hw, g3⟩ := bindO_some g3
  split at g3 <;> try (cases g3; done)
  rename_i hb
  obtain ⟨m, hm, g3⟩ := bindO_some g3
  cases g3
  obtain ⟨hob1, hob2⟩ := hob.append
  obtain ⟨k', T', s1, s2, s3⟩ := hx _ _ o ho hob1
  rw [way_sel hw] at s1
  cases s1
  rw [Nat.ble_eq] at hb
  refine ⟨wp_mono (s3 Lim w0 T0 E a w (by rw [onT_next]; exact k3) (Nat.le_trans hb hl)) fun e a' w' hp => ?_, hc.1, hc.2.1, hc.2.2.1, hc.2.2.2.1, hc.2.2.2.2⟩
  obtain ⟨rfl, E', he', hr'⟩ := hp
  exact ⟨rfl, E', _, _, _, _, he.trans he', hr', hm, hob2, hb⟩
end

/-- The way of the number 'j', and what is asked for it to be taken. -/
def wayJ (l : List (SB × XK × Top)) (n : Option Top) : Nat → Option ((Option XK × Top) × List Bool) :=
  List.rec (motive := fun _ => Nat → Option ((Option XK × Top) × List Bool)) (fun _ => Option.rec none (fun T => some ((none, T), [])) n)
    (fun p _ ih j => Nat.rec (motive := fun _ => Option ((Option XK × Top) × List Bool)) (some ((some p.2.1, p.2.2), [p.1.val])) (fun j' _ => bindO (ih j') fun r => some (r.1, (!p.1.val) :: r.2)) j) l
theorem wayJ_sel : ∀ {l : List (SB × XK × Top)} {n : Option Top} {j : Nat} {r : Option XK × Top} {ob : List Bool}, wayJ l n j = some (r, ob) → AllT ob → sel l n = some r
  | [], some T, j, r, ob, h, _ => by cases h; rfl
  | [], none, j, r, ob, h, _ => by cases h
  | (c, k, T) :: l, n, 0, r, ob, h, hob => by
    cases h
    have hc : c.val = true := hob.head
    simp [sel, hc]
  | (c, k, T) :: l, n, j + 1, r, ob, h, hob => by
    obtain ⟨r', hr', h⟩ := bindO_some (show (bindO (wayJ l n j) fun r => some (r.1, (!c.val) :: r.2)) = some (r, ob) from h)
    cases h
    have hc : (!c.val) = true := hob.head
    have hc' : c.val = false := by simpa using hc
    have := wayJ_sel (l := l) (n := n) (j := j) (r := r'.1) (ob := r'.2) hr' hob.tail
    simp [sel, hc', this]
/-- One round, where the way of the number 'j' is taken. -/
def goJ (cx : Cx) (N : Nat) (h : Hn) (x : Code) (j nx0 mx : Nat) (sk : Sk) (ρ : List (Nat × Nat)) (skE : Sk) (p : List LD) : Option (Option XK × List LD × List Bool) :=
  match rnOk nx0 ρ && (Nat.ble nx0 sk.next && (Nat.ble nx0 skE.next && (Nat.ble skE.next mx && Nat.ble 1 nx0))) with
  | false => none
  | true => onK N [] [] sk sk.next p fun T => bindO (sx cx N h x [] T) fun o => bindO (wayJ o.abr o.nrm j) fun r => match Nat.ble r.1.2.next mx with
    | true => bindO (mAll ρ skE (getT [r.1.2.ly]) (getS [r.1.2.ly])) fun q => some (r.1.1, q.1, o.obs ++ (r.2 ++ q.2))
    | false => none
section
variable {P : Program} {N : Nat} {Lim : Rg} {w0 : World} {T0 : Nat → Nat → Prop} {cx : Cx} {h : Hn} {x : Code} {nx0 mx : Nat} {sk : Sk}
theorem goJ_ok (hx : CodeOK P N x (sx cx N h x)) {j : Nat} {ρ : List (Nat × Nat)} {skE : Sk} {p q : List LD} {k : Option XK} {ob : List Bool} (hgo : goJ cx N h x j nx0 mx sk ρ skE p = some (k, q, ob)) (hob : AllT ob) {E E0 : EM} {a : Act} {w : World} (he : Ext E0 E)
    (hr : StR N Lim w0 T0 sk p E a w) (hl : mx ≤ Lim.lim) : x.wp P (fun e a' w' => e = exitOf k ∧ MtR N Lim w0 T0 mx ρ skE q E0 a' w') a w ∧ rnOk nx0 ρ = true ∧ nx0 ≤ sk.next ∧ nx0 ≤ skE.next ∧ skE.next ≤ mx ∧ 1 ≤ nx0 := by
  unfold goJ at hgo
  split at hgo <;> try (cases hgo; done)
  rename_i hc
  simp only [Bool.and_eq_true, Nat.ble_eq] at hc
  obtain ⟨va, vb, p', g1, g2, g3⟩ := onK_some hgo
  obtain ⟨va', vb', p'', k1, k2, k3⟩ := hr
  rw [g1] at k1; cases k1
  rw [g2] at k2; cases k2
  obtain ⟨o, ho, g3⟩ := bindO_some g3
  obtain ⟨⟨⟨k1', T1⟩, ob1⟩, hw, g3⟩ := bindO_some g3
  split at g3 <;> try (cases g3; done)
  rename_i hb
  obtain ⟨m, hm, g3⟩ := bindO_some g3
  cases g3
  obtain ⟨hob1, hob2⟩ := hob.append
  obtain ⟨hob2, hob3⟩ := hob2.append
  obtain ⟨k', T', s1, s2, s3⟩ := hx _ _ o ho hob1
  rw [wayJ_sel hw hob2] at s1
  cases s1
  rw [Nat.ble_eq] at hb
  refine ⟨wp_mono (s3 Lim w0 T0 E a w (by rw [onT_next]; exact k3) (Nat.le_trans hb hl)) fun e a' w' hp => ?_, hc.1, hc.2.1, hc.2.2.1, hc.2.2.2.1, hc.2.2.2.2⟩
  obtain ⟨rfl, E', he', hr'⟩ := hp
  exact ⟨rfl, E', _, _, _, _, he.trans he', hr', hm, hob3, hb⟩
end

/-- From data at the loop's head to a way out and its data. -/
inductive Loops (cx : Cx) (N : Nat) (lp : Nat → Option (List Ly → Top → Option Outs)) (x : Code) (nx0 mx : Nat) (sk : Sk) : List LD → XK → Sk → List LD → Prop where
  | step {p p' : List LD} {xk : XK} {skE : Sk} {pE : List LD} {ts : Nat → Option Bool} {ρ : List (Nat × Nat)} {ob : List Bool} : goL cx N ⟨ts, lp⟩ x nx0 mx sk ρ sk p = some (none, p', ob) → AllT ob → Loops cx N lp x nx0 mx sk p' xk skE pE → Loops cx N lp x nx0 mx sk p xk skE pE
  | done {p : List LD} {xk : XK} {skE : Sk} {pE : List LD} {ts : Nat → Option Bool} {ρ : List (Nat × Nat)} {ob : List Bool} : goL cx N ⟨ts, lp⟩ x nx0 mx sk ρ skE p = some (some xk, pE, ob) → AllT ob → Loops cx N lp x nx0 mx sk p xk skE pE
  | stepJ {p p' : List LD} {xk : XK} {skE : Sk} {pE : List LD} {ts : Nat → Option Bool} {j : Nat} {ρ : List (Nat × Nat)} {ob : List Bool} : goJ cx N ⟨ts, lp⟩ x j nx0 mx sk ρ sk p = some (none, p', ob) → AllT ob → Loops cx N lp x nx0 mx sk p' xk skE pE → Loops cx N lp x nx0 mx sk p xk skE pE
  | doneJ {p : List LD} {xk : XK} {skE : Sk} {pE : List LD} {ts : Nat → Option Bool} {j : Nat} {ρ : List (Nat × Nat)} {ob : List Bool} : goJ cx N ⟨ts, lp⟩ x j nx0 mx sk ρ skE p = some (some xk, pE, ob) → AllT ob → Loops cx N lp x nx0 mx sk p xk skE pE

def keysT (R : List Ly) : List Nat := R.flatMap fun y => y.t.keys 1 0 []
def keysS (R : List Ly) : List Nat := R.flatMap fun y => y.s.keys 1 0 []
theorem keysT_ok : ∀ {R : List Ly} {t : Nat}, t ∉ keysT R → getT R t = .undef
  | [], _, _ => rfl
  | y :: R, t, h => by
    unfold keysT at h
    rw [List.flatMap_cons, List.mem_append, not_or] at h
    rw [getT_cons, key1 _ _ h.1]
    exact keysT_ok h.2
theorem keysS_ok : ∀ {R : List Ly} {i : Nat}, i ∉ keysS R → getS R i = none
  | [], _, _ => rfl
  | y :: R, t, h => by
    unfold keysS at h
    rw [List.flatMap_cons, List.mem_append, not_or] at h
    rw [getS_cons, key1 _ _ h.1]
    exact keysS_ok h.2
abbrev XO := List (SB × XK × Sk × List LD)
def exitsK (N : Nat) (kt ks : List Nat) (nx : Nat) : XO → (List (SB × XK × Top) → Option Outs) → Option Outs
  | [], f => f []
  | (c, k, sk, p) :: l, f => onK N kt ks sk nx p fun T => exitsK N kt ks nx l fun r => f ((c, k, T) :: r)
/-- The loop, told of by 'F': its ways out, from the data at its head. -/
def loopL (N nx0 mx : Nat) (sk : Sk) (ρ : List (Nat × Nat)) (F : List LD → Option (XO × List Bool)) (R : List Ly) (T : Top) : Option Outs :=
  match Nat.beq T.next nx0 && (rnOk nx0 ρ && (Nat.ble nx0 sk.next && (Nat.ble sk.next mx && Nat.ble 1 nx0))) with
  | false => none
  | true => bindO (mAll ρ sk (getT (T.ly :: R)) (getS (T.ly :: R))) fun p => bindO (F p.1) fun r => exitsK N (keysT R) (keysS R) mx r.1 fun l => some ⟨l, none, p.2 ++ r.2⟩
def pickX : XO → Option (XK × Sk × List LD)
  | [] => none
  | (c, k, sk, p) :: l => if c.val then some (k, sk, p) else pickX l
theorem exitsK_some {N : Nat} {kt ks : List Nat} {nx : Nat} : ∀ {l : XO} {f : List (SB × XK × Top) → Option Outs} {o : Outs}, exitsK N kt ks nx l f = some o → ∃ r, f r = some o ∧ ∀ k sk p, pickX l = some (k, sk, p) →
    ∃ va vb p', bTs sk.tms p = some (va, p') ∧ bSs sk.segs p' = some (vb, []) ∧ sel r none = some (some k, onT N kt ks nx va vb)
  | [], f, o, h => ⟨[], h, fun k sk p hp => by cases hp⟩
  | (c, k, sk, p) :: l, f, o, h => by
    obtain ⟨va, vb, p', h1, h2, h3⟩ := onK_some (show onK N kt ks sk nx p (fun T => exitsK N kt ks nx l fun r => f ((c, k, T) :: r)) = some o from h)
    obtain ⟨r, h4, h5⟩ := exitsK_some h3
    refine ⟨_, h4, fun k' sk' q hq => ?_⟩
    unfold pickX at hq
    split at hq
    · rename_i hc
      cases hq
      exact ⟨va, vb, p', h1, h2, by simp [sel, hc]⟩
    · rename_i hc
      obtain ⟨va', vb', p'', q1, q2, q3⟩ := h5 k' sk' q hq
      exact ⟨va', vb', p'', q1, q2, by simp only [sel]; rw [if_neg hc]; exact q3⟩
section
variable {P : Program} {cx : Cx} {N : Nat} {lp : Nat → Option (List Ly → Top → Option Outs)} {x : Code} {nx0 mx : Nat} {sk : Sk}
theorem loops_wp {Lim : Rg} {w0 : World} {T0 : Nat → Nat → Prop} {E0 : EM} (hx : ∀ ts, CodeOK P N x (sx cx N ⟨ts, lp⟩ x)) {p : List LD} {xk : XK} {skE : Sk} {pE : List LD} (hL : Loops cx N lp x nx0 mx sk p xk skE pE)
    (h3 : mx ≤ Lim.lim) (h4 : ∀ i, nx0 ≤ i → i < Lim.lim → E0 i = none) (h5 : Lim.base ≤ nx0) {R : List Ly} {kt ks : List Nat} (hkt : ∀ t, t ∉ kt → getT R t = .undef) (hks : ∀ i, i ∉ ks → getS R i = none)
    {va : List (Nat × SV)} {vb : List (Nat × Option Seg)} {p' : List LD} (hva : bTs skE.tms pE = some (va, p')) (hvb : bSs skE.segs p' = some (vb, [])) :
    ∃ n, ∀ E a w, Ext E0 E → StR N Lim w0 T0 sk p E a w → Code.rounds P x (Post N Lim w0 T0 E0 R (some xk) (onT N kt ks mx va vb)) n a w := by
  induction hL with
  | done hgo hob =>
    refine ⟨1, fun E a w he hr => ?_⟩
    obtain ⟨g1, g2, g3, g4, g5, g6⟩ := goL_ok (hx _) hgo hob he hr h3
    rw [rounds_succ]
    refine wp_mono g1 fun e a' w' hp => ?_
    obtain ⟨rfl, E', tm, sg, next, ob', he', hr', hm, hob', hn⟩ := hp
    obtain ⟨va', vb', p'', k1, k2, E'', k3, k4⟩ := on_srel (R := R) (kt := kt) (ks := ks) (nx := mx) hr' he' hm hob' g2 g4 g5 (Nat.le_trans g5 h3) (Nat.le_trans hn h3) h4 h5 g6 hkt hks
    rw [hva] at k1; cases k1
    rw [hvb] at k2; cases k2
    rename_i xk _ _ _ _ _
    have hP : Post N Lim w0 T0 E0 R (some xk) (onT N kt ks mx va vb) (exitOf (some xk)) a' w' := ⟨rfl, E'', k3, by rw [onT_next]; exact k4⟩
    cases xk <;> exact hP
  | step hgo hob _ ih =>
    obtain ⟨n, hn⟩ := ih hva hvb
    refine ⟨n + 1, fun E a w he hr => ?_⟩
    obtain ⟨g1, g2, g3, g4, g5, g6⟩ := goL_ok (hx _) hgo hob he hr h3
    rw [rounds_succ]
    refine wp_mono g1 fun e a' w' hp => ?_
    obtain ⟨rfl, hp⟩ := hp
    obtain ⟨E', he', hr'⟩ := hp.st g2 g4 g5 h3 h4 h5 g6
    exact hn E' a' w' he' hr'
  | doneJ hgo hob =>
    refine ⟨1, fun E a w he hr => ?_⟩
    obtain ⟨g1, g2, g3, g4, g5, g6⟩ := goJ_ok (hx _) hgo hob he hr h3
    rw [rounds_succ]
    refine wp_mono g1 fun e a' w' hp => ?_
    obtain ⟨rfl, E', tm, sg, next, ob', he', hr', hm, hob', hn⟩ := hp
    obtain ⟨va', vb', p'', k1, k2, E'', k3, k4⟩ := on_srel (R := R) (kt := kt) (ks := ks) (nx := mx) hr' he' hm hob' g2 g4 g5 (Nat.le_trans g5 h3) (Nat.le_trans hn h3) h4 h5 g6 hkt hks
    rw [hva] at k1; cases k1
    rw [hvb] at k2; cases k2
    rename_i xk _ _ _ _ _ _
    have hP : Post N Lim w0 T0 E0 R (some xk) (onT N kt ks mx va vb) (exitOf (some xk)) a' w' := ⟨rfl, E'', k3, by rw [onT_next]; exact k4⟩
    cases xk <;> exact hP
  | stepJ hgo hob _ ih =>
    obtain ⟨n, hn⟩ := ih hva hvb
    refine ⟨n + 1, fun E a w he hr => ?_⟩
    obtain ⟨g1, g2, g3, g4, g5, g6⟩ := goJ_ok (hx _) hgo hob he hr h3
    rw [rounds_succ]
    refine wp_mono g1 fun e a' w' hp => ?_
    obtain ⟨rfl, hp⟩ := hp
    obtain ⟨E', he', hr'⟩ := hp.st g2 g4 g5 h3 h4 h5 g6
    exact hn E' a' w' he' hr'
theorem loopL_ok {ρ : List (Nat × Nat)} {F : List LD → Option (XO × List Bool)} (hx : ∀ ts, CodeOK P N x (sx cx N ⟨ts, lp⟩ x))
    (hF : ∀ p r, F p = some r → AllT r.2 → ∃ xk skE pE, pickX r.1 = some (xk, skE, pE) ∧ Loops cx N lp x nx0 mx sk p xk skE pE) : CodeOK P N (.loop x) (loopL N nx0 mx sk ρ F) := by
  intro R T o ho hob
  unfold loopL at ho
  split at ho <;> try (cases ho; done)
  rename_i hc
  simp only [Bool.and_eq_true, Nat.ble_eq, beqN] at hc
  obtain ⟨c1, c2, c3, c4, c5⟩ := hc
  obtain ⟨p, hm, ho⟩ := bindO_some ho
  obtain ⟨r, hr, ho⟩ := bindO_some ho
  obtain ⟨l, hl, hsel⟩ := exitsK_some ho
  cases hl
  obtain ⟨hob1, hob2⟩ := hob.append
  obtain ⟨xk, skE, pE, h1, h2⟩ := hF p.1 r hr hob2
  obtain ⟨va, vb, p', g1, g2, g3⟩ := hsel xk skE pE h1
  refine ⟨some xk, _, g3, by rw [onT_next]; omega, fun Lim w0 T0 E a w hs hlim => ?_⟩
  rw [onT_next] at hlim
  have hfresh : ∀ i, nx0 ≤ i → i < Lim.lim → E i = none := fun i hi1 hi2 => hs.fresh i (by omega) hi2
  have hbn : Lim.base ≤ nx0 := by have := hs.bn; omega
  obtain ⟨n, hn⟩ := loops_wp (w0 := w0) (T0 := T0) (E0 := E) hx h2 hlim hfresh hbn (R := R) (kt := keysT R) (ks := keysS R) (fun t => keysT_ok) (fun i => keysS_ok) g1 g2
  obtain ⟨va', vb', p'', k1, k2, E'', k3, k4⟩ := on_srel (R := []) (kt := []) (ks := []) (nx := sk.next) hs (Ext.refl E) hm hob1 c2 c3 (Nat.le_refl _) (by omega) (by omega) hfresh hbn c5 (fun _ _ => rfl) (fun _ _ => rfl)
  exact wp_loop_rounds n (hn E'' a w k3 ⟨va', vb', p'', k1, k2, k4⟩)
end

/-! ### a function with such loops -/
def loopAt (id : Nat) : List Code → Option Code
  | [] => none
  | b :: l => match Nat.beq (regId b) id with
    | true => some b
    | false => loopAt id l
def onceB : List Code → Bool
  | [] => true
  | b :: l => (match loopAt (regId b) l with
    | none => true
    | some _ => false) && onceB l
theorem loopAt_mem {b : Code} : ∀ {l : List Code}, onceB l = true → b ∈ l → loopAt (regId b) l = some b
  | [], _, h => by cases h
  | c :: l, h1, h2 => by
    simp only [onceB, Bool.and_eq_true] at h1
    simp only [loopAt]
    rcases List.mem_cons.1 h2 with rfl | h2
    · rw [beqN.2 rfl]
    · have := loopAt_mem h1.2 h2
      split
      · rename_i hb
        have h3 := h1.1
        rw [beqN.1 hb, this] at h3
        cases h3
      · exact this
abbrev LS := List (Nat × (List Ly → Top → Option Outs))
def lpOf : LS → Nat → Option (List Ly → Top → Option Outs)
  | [], _ => none
  | (i, L) :: l, j => match Nat.beq j i with
    | true => some L
    | false => lpOf l j
def LoopsOK (P : Program) (N : Nat) (c : Code) : LS → Prop
  | [] => True
  | (i, L) :: l => (∃ b, loopAt i (loopsIn c) = some b ∧ CodeOK P N (.loop b) L) ∧ LoopsOK P N c l
theorem LoopsOK.get {P : Program} {N : Nat} {c : Code} : ∀ {l : LS}, LoopsOK P N c l → ∀ i L, lpOf l i = some L → ∃ b, loopAt i (loopsIn c) = some b ∧ CodeOK P N (.loop b) L
  | [], _, i, L, h => by cases h
  | (j, L') :: l, h, i, L, h' => by
    simp only [lpOf] at h'
    split at h'
    · rename_i hb; cases h'; rw [beqN.1 hb]; exact h.1
    · exact LoopsOK.get h.2 i L h'
theorem inlL_of {P : Program} {l : List (Nat × CS)} (ha : AllOK P l) (hmx : P.follows .mixedOrders = true) (n : Nat) {f : FuncId} {fn : Func} (hf : P.funcs[f]? = some fn) (hname : (fn.name == "runtime.NumGoroutine") = false) (ts : Nat → Option Bool) {c : Code} (hc : fn.body = some c) {ls : LS} (h1 : onceB (loopsIn c) = true) (h2 : LoopsOK P fn.ntmps c ls) :
    CallOK P f (inl ⟨P, fops, orcN P fops l n⟩ fn ⟨ts, lpOf ls⟩) :=
  inl_ok (cx := ⟨P, fops, orcN P fops l n⟩) rfl (orcN_ok ha hmx n) hmx hf hname (fun code hb b hm L h => by
    rw [hc] at hb; cases hb
    obtain ⟨b', k1, k2⟩ := h2.get _ L h
    rw [loopAt_mem h1 hm] at k1
    cases k1
    exact k2)
/-- A loop's body, none of whose own loops is told of. -/
theorem body_ok {P : Program} {l : List (Nat × CS)} (ha : AllOK P l) (hmx : P.follows .mixedOrders = true) (n : Nat) {N : Nat} (x : Code) (ts : Nat → Option Bool) : CodeOK P N x (sx ⟨P, fops, orcN P fops l n⟩ N ⟨ts, fun _ => none⟩ x) :=
  sx_ok (cx := ⟨P, fops, orcN P fops l n⟩) rfl (orcN_ok ha hmx n) hmx x (fun _ _ _ h => by cases h)
end
end Go.Proofs.Ytaoeigofmfpamaa
end

/- A call that is made with ids of its own. Nothing is assumed. -/
section
namespace Go.Proofs.Ytaoeigofmfpamaa
open Go
noncomputable section

def rnI (f : Nat → Option Nat) (i : Nat) : Option Nat :=
  match Nat.beq i 0 with
  | true => none
  | false => f i
def rnC (f : Nat → Option Nat) : SC → Option SC
  | .any => some .any
  | .bool b => some (.bool b)
  | .int k n => some (.int k n)
  | .flt k x => some (.flt k x)
  | .str s => some (.str s)
  | .nilp => some .nilp
  | .ptr i o => bindO (rnI f i) fun j => some (.ptr j o)
  | .ptrx i o st c x => bindO (rnI f i) fun j => some (.ptrx j o st c x)
  | .ptrr i o st x => bindO (rnI f i) fun j => some (.ptrr j o st x)
  | .sl i o es n fu => match Nat.beq i 0 with
    | true => some (.sl 0 o es n fu)
    | false => bindO (f i) fun j => some (.sl j o es n fu)
  | .slr _ _ _ _ => none
def rnL (f : Nat → Option Nat) (l : List SC) : Option (List SC) :=
  List.rec (motive := fun _ => Option (List SC)) (some []) (fun x _ ih => bindO (rnC f x) fun a => bindO ih fun b => some (a :: b)) l
def rnE (f : Nat → Option Nat) : SE → Option SE
  | .c x => bindO (rnC f x) fun y => some (.c y)
  | .a l => bindO (rnL f l) fun y => some (.a y)
def rnEs (f : Nat → Option Nat) (l : List SE) : Option (List SE) :=
  List.rec (motive := fun _ => Option (List SE)) (some []) (fun x _ ih => bindO (rnE f x) fun a => bindO ih fun b => some (a :: b)) l
def rnV (f : Nat → Option Nat) : SV → Option SV
  | .any => some .any
  | .undef => some .undef
  | .c x => bindO (rnC f x) fun y => some (.c y)
  | .a l => bindO (rnL f l) fun y => some (.a y)
  | .tup l => bindO (rnEs f l) fun y => some (.tup y)
def rnVs (f : Nat → Option Nat) (l : List SV) : Option (List SV) :=
  List.rec (motive := fun _ => Option (List SV)) (some []) (fun x _ ih => bindO (rnV f x) fun a => bindO ih fun b => some (a :: b)) l
def rnS (f : Nat → Option Nat) (g : Seg) : Option (Seg × List Bool) :=
  match g.body with
  | .cells l => bindO (rnL f l) fun m => some (⟨g.rw, g.own, .cells m⟩, [])
  | .rows st n row => some (⟨g.rw, g.own, .rows st n row⟩, [flatR row])
def rnRd (f : Nat → Option Nat) (l : List (Nat × Seg)) : Option (List (Nat × Seg) × List Bool) :=
  List.rec (motive := fun _ => Option (List (Nat × Seg) × List Bool)) (some ([], [])) (fun p _ ih => bindO (f p.1) fun i => bindO (rnS f p.2) fun a => bindO ih fun b => some ((i, a.1) :: b.1, a.2 ++ b.2)) l
def rnWs (f : Nat → Option Nat) (l : List (Nat × Option Seg)) : Option (List (Nat × Option Seg) × List Bool) :=
  List.rec (motive := fun _ => Option (List (Nat × Option Seg) × List Bool)) (some ([], [])) (fun p _ ih => bindO (f p.1) fun i => match p.2 with
    | some g => bindO (rnS f g) fun a => bindO ih fun b => some ((i, some a.1) :: b.1, a.2 ++ b.2)
    | none => bindO ih fun b => some ((i, none) :: b.1, b.2)) l
def posOf : List Nat → Nat → Nat → Option Nat
  | [], _, _ => none
  | k :: l, i, n => match Nat.beq i k with
    | true => some n
    | false => posOf l i (n + 1)
def nthN : List Nat → Nat → Option Nat
  | [], _ => none
  | i :: l, n => Nat.rec (motive := fun _ => Option Nat) (some i) (fun m _ => nthN l m) n
def distN : List Nat → Bool
  | [] => true
  | i :: l => !memN i l && distN l
/-- From the ids of a call's own to those outside. -/
def backN (ids : List Nat) (m base hi j : Nat) : Option Nat :=
  match Nat.beq j 0 with
  | true => none
  | false => match Nat.ble j m with
    | true => nthN ids (j - 1)
    | false => match Nat.ble (j + 1) hi with
      | true => some (base + (j - (m + 1)))
      | false => none
/-- 'S', with the ids that are handed to it called 1, 2, .. -/
def canS (S : CS) : CS := fun base args rd =>
  match (fstsN rd).all (fun i => Nat.ble (i + 1) base && Nat.ble 1 i) && distN (fstsN rd) with
  | false => none
  | true => bindO (rnVs (fun i => posOf (fstsN rd) i 1) args) fun args' => bindO (rnRd (fun i => posOf (fstsN rd) i 1) rd) fun rd' => bindO (S ((fstsN rd).length + 1) args' rd'.1) fun e =>
    match Nat.ble ((fstsN rd).length + 1) e.next with
    | false => none
    | true => bindO (rnV (backN (fstsN rd) (fstsN rd).length base e.next) e.ret) fun ret => bindO (rnWs (backN (fstsN rd) (fstsN rd).length base e.next) e.ws) fun ws =>
      some ⟨ret, ws.1, base + (e.next - ((fstsN rd).length + 1)), rd'.2 ++ (ws.2 ++ e.obs)⟩

section
variable {f : Nat → Option Nat} {E E' : EM}
/-- 'f' leads from 'E' to 'E''. -/
def Leads (f : Nat → Option Nat) (E E' : EM) : Prop := ∀ i j, i ≠ 0 → f i = some j → E' j = E i ∧ j ≠ 0
theorem rnI_some {i j : Nat} (h : rnI f i = some j) : i ≠ 0 ∧ f i = some j := by
  unfold rnI at h
  split at h
  · cases h
  · rename_i hb; exact ⟨fun e => by (rw [beqN.2 e] at hb; cases hb), h⟩
theorem rnC_ok (hf : Leads f E E') {x y : SC} {v : Value} (h : rnC f x = some y) (hv : RelC E x v) : RelC E' y v := by
  cases x with
  | any => cases h; exact hv
  | bool => cases h; exact hv
  | int => cases h; exact hv
  | flt => cases h; exact hv
  | str => cases h; exact hv
  | nilp => cases h; exact hv
  | ptr i o =>
    obtain ⟨j, hj, h⟩ := bindO_some h
    cases h
    obtain ⟨b, q, z, e, hv⟩ := hv
    obtain ⟨h0, hj⟩ := rnI_some hj
    exact ⟨b, q, z, (hf i j h0 hj).1.trans e, hv⟩
  | ptrx i o st c n =>
    obtain ⟨j, hj, h⟩ := bindO_some h
    cases h
    obtain ⟨b, q, z, e, hv⟩ := hv
    obtain ⟨h0, hj⟩ := rnI_some hj
    exact ⟨b, q, z, (hf i j h0 hj).1.trans e, hv⟩
  | ptrr i o st n =>
    obtain ⟨j, hj, h⟩ := bindO_some h
    cases h
    obtain ⟨b, q, z, e, hv⟩ := hv
    obtain ⟨h0, hj⟩ := rnI_some hj
    exact ⟨b, q, z, (hf i j h0 hj).1.trans e, hv⟩
  | slr => cases h
  | sl i o es n fu =>
    simp only [rnC] at h
    split at h
    · rename_i hb
      cases h
      cases beqN.1 hb
      obtain ⟨base, m, cap, h1, h2, h3, h4, h5⟩ := hv
      exact ⟨base, m, cap, h1, h2, h3, h4, fun a ha => absurd rfl (h5 a ha).1⟩
    · rename_i hb
      obtain ⟨j, hj, h⟩ := bindO_some h
      cases h
      have h0 : i ≠ 0 := fun e => by rw [beqN.2 e] at hb; cases hb
      obtain ⟨base, m, cap, h1, h2, h3, h4, h5⟩ := hv
      refine ⟨base, m, cap, h1, h2, h3, h4, fun a ha => ?_⟩
      obtain ⟨_, b, q, z, e, g2, g3⟩ := h5 a ha
      exact ⟨(hf i j h0 hj).2, b, q, z, (hf i j h0 hj).1.trans e, g2, g3⟩
theorem rnL_ok (hf : Leads f E E') : ∀ {l m : List SC} {vs : List Value}, rnL f l = some m → RelL E l vs → RelL E' m vs
  | [], m, [], h, _ => by cases h; trivial
  | [], m, _ :: _, h, hv => hv.elim
  | _ :: _, m, [], h, hv => hv.elim
  | x :: l, m, v :: vs, h, hv => by
    replace h : (bindO (rnC f x) fun a => bindO (rnL f l) fun b => some (a :: b)) = some m := h
    obtain ⟨a, ha, h⟩ := bindO_some h
    obtain ⟨b, hb, h⟩ := bindO_some h
    cases h
    exact ⟨rnC_ok hf ha hv.1, rnL_ok hf hb hv.2⟩
theorem rnL_get (hf : Leads f E E') : ∀ {l m : List SC}, rnL f l = some m → m.length = l.length ∧ ∀ k v, k < l.length → RelC E (l.getD k .any) v → RelC E' (m.getD k .any) v
  | [], m, h => by cases h; exact ⟨rfl, fun k v hk => by simp at hk⟩
  | x :: l, m, h => by
    replace h : (bindO (rnC f x) fun a => bindO (rnL f l) fun b => some (a :: b)) = some m := h
    obtain ⟨a, ha, h⟩ := bindO_some h
    obtain ⟨b, hb, h⟩ := bindO_some h
    cases h
    obtain ⟨h1, h2⟩ := rnL_get hf hb
    refine ⟨by simp [h1], fun k v hk hv => ?_⟩
    cases k with
    | zero => exact rnC_ok hf ha hv
    | succ k => exact h2 k v (by simpa using hk) hv
theorem rnE_ok (hf : Leads f E E') {x y : SE} {v : Value} (h : rnE f x = some y) (hv : RelE E x v) : RelE E' y v := by
  cases x with
  | c x => obtain ⟨a, ha, h⟩ := bindO_some h; cases h; exact rnC_ok hf ha hv
  | a l =>
    obtain ⟨a, ha, h⟩ := bindO_some h; cases h
    obtain ⟨vs, h1, h2⟩ := hv
    exact ⟨vs, h1, rnL_ok hf ha h2⟩
theorem rnEs_ok (hf : Leads f E E') : ∀ {l m : List SE} {vs : List Value}, rnEs f l = some m → RelEs E l vs → RelEs E' m vs
  | [], m, [], h, _ => by cases h; trivial
  | [], m, _ :: _, h, hv => hv.elim
  | _ :: _, m, [], h, hv => hv.elim
  | x :: l, m, v :: vs, h, hv => by
    replace h : (bindO (rnE f x) fun a => bindO (rnEs f l) fun b => some (a :: b)) = some m := h
    obtain ⟨a, ha, h⟩ := bindO_some h
    obtain ⟨b, hb, h⟩ := bindO_some h
    cases h
    exact ⟨rnE_ok hf ha hv.1, rnEs_ok hf hb hv.2⟩
theorem rnV_ok (hf : Leads f E E') {x y : SV} {v : Value} (h : rnV f x = some y) (hv : RelV E x v) : RelV E' y v := by
  cases x with
  | any => cases h; trivial
  | undef => cases h; exact hv
  | c x => obtain ⟨a, ha, h⟩ := bindO_some h; cases h; exact rnC_ok hf ha hv
  | a l =>
    obtain ⟨a, ha, h⟩ := bindO_some h; cases h
    obtain ⟨vs, h1, h2⟩ := hv
    exact ⟨vs, h1, rnL_ok hf ha h2⟩
  | tup l =>
    obtain ⟨a, ha, h⟩ := bindO_some h; cases h
    obtain ⟨vs, h1, h2⟩ := hv
    exact ⟨vs, h1, rnEs_ok hf ha h2⟩
theorem rnVs_ok (hf : Leads f E E') : ∀ {l m : List SV} {vs : List Value}, rnVs f l = some m → RelVs E l vs → RelVs E' m vs
  | [], m, [], h, _ => by cases h; trivial
  | [], m, _ :: _, h, hv => hv.elim
  | _ :: _, m, [], h, hv => hv.elim
  | x :: l, m, v :: vs, h, hv => by
    replace h : (bindO (rnV f x) fun a => bindO (rnVs f l) fun b => some (a :: b)) = some m := h
    obtain ⟨a, ha, h⟩ := bindO_some h
    obtain ⟨b, hb, h⟩ := bindO_some h
    cases h
    exact ⟨rnV_ok hf ha hv.1, rnVs_ok hf hb hv.2⟩
structure SegRn (E E' : EM) (g g' : Seg) : Prop where
  rw : g'.rw = g.rw
  own : g'.own = g.own
  len : g'.body.len = g.body.len
  at_ : ∀ k v, k < g.body.len → RelC E (g.body.at k) v → RelC E' (g'.body.at k) v
theorem rnS_ok (hf : Leads f E E') {g g' : Seg} {ob : List Bool} (h : rnS f g = some (g', ob)) (hob : AllT ob) : SegRn E E' g g' := by
  unfold rnS at h
  split at h
  · rename_i l hb
    obtain ⟨m, hm, h⟩ := bindO_some h
    cases h
    obtain ⟨h1, h2⟩ := rnL_get hf hm
    refine ⟨rfl, rfl, by rw [hb]; exact h1, fun k v hk hv => ?_⟩
    rw [hb] at hk hv
    exact h2 k v hk hv
  · rename_i st n row hb
    cases h
    refine ⟨rfl, rfl, by rw [hb], fun k v hk hv => ?_⟩
    rw [hb] at hv
    exact flatC_ok (flatL_getD (flatR_ok hob.head _) _) hv
theorem SegAt.rn {b o z : Nat} {g g' : Seg} {w : World} {cs : Array Value} {T : TypeId} {fr : Nat × Nat} (s : SegAt E b o z g w cs T fr) (h : SegRn E E' g g') : SegAt E' b o z g' w cs T fr :=
  ⟨s.heap, by rw [h.len]; exact s.le, s.fit, fun ho => s.own (h.own ▸ ho), fun hr => s.fz (h.rw ▸ hr), fun k hk => by
    rw [h.len] at hk
    obtain ⟨v, h1, h2⟩ := s.cell k hk
    exact ⟨v, h1, h.at_ k v hk h2⟩⟩
end
/-- And back. -/
def LeadsB (f : Nat → Option Nat) (E' E : EM) : Prop := ∀ i j, f i = some j → E i = E' j ∧ i ≠ 0
section
variable {f : Nat → Option Nat} {E E' : EM}
theorem rnC_back (hf : LeadsB f E' E) {x y : SC} {v : Value} (h : rnC f x = some y) (hv : RelC E' y v) : RelC E x v := by
  cases x with
  | any => cases h; exact hv
  | bool => cases h; exact hv
  | int => cases h; exact hv
  | flt => cases h; exact hv
  | str => cases h; exact hv
  | nilp => cases h; exact hv
  | ptr i o =>
    obtain ⟨j, hj, h⟩ := bindO_some h
    cases h
    obtain ⟨b, q, z, e, hv⟩ := hv
    exact ⟨b, q, z, (hf i j (rnI_some hj).2).1.trans e, hv⟩
  | ptrx i o st c n =>
    obtain ⟨j, hj, h⟩ := bindO_some h
    cases h
    obtain ⟨b, q, z, e, hv⟩ := hv
    exact ⟨b, q, z, (hf i j (rnI_some hj).2).1.trans e, hv⟩
  | ptrr i o st n =>
    obtain ⟨j, hj, h⟩ := bindO_some h
    cases h
    obtain ⟨b, q, z, e, hv⟩ := hv
    exact ⟨b, q, z, (hf i j (rnI_some hj).2).1.trans e, hv⟩
  | slr => cases h
  | sl i o es n fu =>
    simp only [rnC] at h
    split at h
    · rename_i hb
      cases h
      cases beqN.1 hb
      obtain ⟨base, m, cap, h1, h2, h3, h4, h5⟩ := hv
      exact ⟨base, m, cap, h1, h2, h3, h4, fun a ha => absurd rfl (h5 a ha).1⟩
    · obtain ⟨j, hj, h⟩ := bindO_some h
      cases h
      obtain ⟨base, m, cap, h1, h2, h3, h4, h5⟩ := hv
      refine ⟨base, m, cap, h1, h2, h3, h4, fun a ha => ?_⟩
      obtain ⟨_, b, q, z, e, g2, g3⟩ := h5 a ha
      exact ⟨(hf i j hj).2, b, q, z, (hf i j hj).1.trans e, g2, g3⟩
theorem rnL_back (hf : LeadsB f E' E) : ∀ {l m : List SC}, rnL f l = some m → m.length = l.length ∧ ∀ k v, k < l.length → RelC E' (m.getD k .any) v → RelC E (l.getD k .any) v
  | [], m, h => by cases h; exact ⟨rfl, fun k v hk => by simp at hk⟩
  | x :: l, m, h => by
    replace h : (bindO (rnC f x) fun a => bindO (rnL f l) fun b => some (a :: b)) = some m := h
    obtain ⟨a, ha, h⟩ := bindO_some h
    obtain ⟨b, hb, h⟩ := bindO_some h
    cases h
    obtain ⟨h1, h2⟩ := rnL_back hf hb
    refine ⟨by simp [h1], fun k v hk hv => ?_⟩
    cases k with
    | zero => exact rnC_back hf ha hv
    | succ k => exact h2 k v (by simpa using hk) hv
theorem rnS_back (hf : LeadsB f E' E) {g g' : Seg} {ob : List Bool} (h : rnS f g = some (g', ob)) (hob : AllT ob) : SegRn E' E g' g := by
  unfold rnS at h
  split at h
  · rename_i l hb
    obtain ⟨m, hm, h⟩ := bindO_some h
    cases h
    obtain ⟨h1, h2⟩ := rnL_back hf hm
    refine ⟨rfl, rfl, by rw [hb]; exact h1.symm, fun k v hk hv => ?_⟩
    rw [hb]
    exact h2 k v (by show k < l.length; rw [← h1]; exact hk) hv
  · rename_i st n row hb
    cases h
    refine ⟨rfl, rfl, by rw [hb], fun k v hk hv => ?_⟩
    rw [hb]
    exact flatC_ok (flatL_getD (flatR_ok hob.head _) _) hv
theorem rnRd_back (hf : LeadsB f E' E) (hinj : ∀ i i' j, f i = some j → f i' = some j → i = i') : ∀ {l m : List (Nat × Seg)} {ob : List Bool}, rnRd f l = some (m, ob) → AllT ob →
    ∀ i g, findS i l = some g → ∃ j g', f i = some j ∧ findS j m = some g' ∧ SegRn E' E g' g
  | [], m, ob, h, _, i, g, hi => by cases hi
  | p :: l, m, ob, h, hob, i, g, hi => by
    replace h : (bindO (f p.1) fun i => bindO (rnS f p.2) fun a => bindO (rnRd f l) fun b => some ((i, a.1) :: b.1, a.2 ++ b.2)) = some (m, ob) := h
    obtain ⟨j, hj, h⟩ := bindO_some h
    obtain ⟨a, ha, h⟩ := bindO_some h
    obtain ⟨b, hb, h⟩ := bindO_some h
    cases h
    obtain ⟨i0, g0⟩ := p
    simp only [findS] at hi
    split at hi
    · rename_i hb'
      cases hi
      rw [beqN.1 hb']
      exact ⟨j, a.1, hj, by simp only [findS, beqN.2 rfl], rnS_back hf ha hob.append.1⟩
    · rename_i hb'
      obtain ⟨j', g', h1, h2, h3⟩ := rnRd_back hf hinj hb hob.append.2 i g hi
      refine ⟨j', g', h1, ?_, h3⟩
      simp only [findS]
      split
      · rename_i hb2
        exfalso
        rw [beqN.1 hb2] at h1
        rw [hinj i i0 j h1 hj, beqN.2 rfl] at hb'; cases hb'
      · exact h2
end
theorem posOf_ok : ∀ {l : List Nat} {i n j : Nat}, posOf l i n = some j → n ≤ j ∧ nthN l (j - n) = some i ∧ j < n + l.length
  | [], i, n, j, h => by cases h
  | k :: l, i, n, j, h => by
    simp only [posOf] at h
    split at h
    · rename_i hb; cases h
      rw [Nat.sub_self, beqN.1 hb]
      exact ⟨Nat.le_refl _, rfl, by simp⟩
    · obtain ⟨h1, h2, h3⟩ := posOf_ok h
      refine ⟨by omega, ?_, by simp; omega⟩
      rw [show j - n = (j - (n + 1)) + 1 by omega]
      exact h2
theorem nthN_mem : ∀ {l : List Nat} {n i : Nat}, nthN l n = some i → i ∈ l ∧ n < l.length
  | [], n, i, h => by cases h
  | k :: l, 0, i, h => by cases h; simp
  | k :: l, n + 1, i, h => by
    obtain ⟨h1, h2⟩ := nthN_mem (l := l) (n := n) h
    exact ⟨by simp [h1], by simpa using h2⟩
theorem nthN_inj : ∀ {l : List Nat} {n m i : Nat}, distN l = true → nthN l n = some i → nthN l m = some i → n = m
  | [], n, m, i, _, h, _ => by cases h
  | k :: l, 0, 0, i, _, _, _ => rfl
  | k :: l, 0, m + 1, i, hd, h, h' => by
    cases h
    have := (nthN_mem (l := l) (n := m) h').1
    simp only [distN, Bool.and_eq_true, Bool.not_eq_true'] at hd
    rw [memN_iff.2 this] at hd
    cases hd.1
  | k :: l, n + 1, 0, i, hd, h, h' => by
    cases h'
    have := (nthN_mem (l := l) (n := n) h).1
    simp only [distN, Bool.and_eq_true, Bool.not_eq_true'] at hd
    rw [memN_iff.2 this] at hd
    cases hd.1
  | k :: l, n + 1, m + 1, i, hd, h, h' => by
    simp only [distN, Bool.and_eq_true] at hd
    exact congrArg (· + 1) (nthN_inj (l := l) hd.2 h h')
theorem rnRd_get {f : Nat → Option Nat} {E E' : EM} (hf : Leads f E E') : ∀ {l m : List (Nat × Seg)} {ob : List Bool}, rnRd f l = some (m, ob) → AllT ob → (∀ i i' j, i ∈ fstsN l → i' ∈ fstsN l → f i = some j → f i' = some j → i = i') → distN (fstsN l) = true →
    ∀ j g', findS j m = some g' → ∃ i g, f i = some j ∧ findS i l = some g ∧ SegRn E E' g g'
  | [], m, ob, h, _, _, _, j, g', hj => by cases h; cases hj
  | p :: l, m, ob, h, hob, hinj, hd, j, g', hj => by
    replace h : (bindO (f p.1) fun i => bindO (rnS f p.2) fun a => bindO (rnRd f l) fun b => some ((i, a.1) :: b.1, a.2 ++ b.2)) = some (m, ob) := h
    obtain ⟨i, hi, h⟩ := bindO_some h
    obtain ⟨a, ha, h⟩ := bindO_some h
    obtain ⟨b, hb, h⟩ := bindO_some h
    cases h
    obtain ⟨i0, g0⟩ := p
    simp only [findS] at hj
    split at hj
    · rename_i hb'
      cases hj
      rw [beqN.1 hb']
      exact ⟨i0, g0, hi, by simp only [findS, beqN.2 rfl], rnS_ok hf ha hob.append.1⟩
    · rename_i hb'
      simp only [fstsN, distN, Bool.and_eq_true, Bool.not_eq_true'] at hd
      obtain ⟨i', g, h1, h2, h3⟩ := rnRd_get hf hb hob.append.2 (fun i i' j hi hi' => hinj i i' j (by simp [fstsN, hi]) (by simp [fstsN, hi'])) hd.2 j g' hj
      refine ⟨i', g, h1, ?_, h3⟩
      simp only [findS]
      split
      · rename_i hb2
        exfalso
        rw [beqN.1 hb2] at h1
        rw [hi] at h1
        cases h1
        rw [beqN.2 rfl] at hb'; cases hb'
      · exact h2
theorem Fr.mono {w w' : World} {T T' : Nat → Nat → Prop} (h : Fr w w' T) (ht : ∀ b k, T b k → T' b k) : Fr w w' T' :=
  ⟨h.os, h.out, h.size, fun b hb => (h.old b hb).imp (fun ⟨cs, t, fr, cs', h1, h2, h3, h4⟩ => ⟨cs, t, fr, cs', h1, h2, h3, fun j hj => h4 j fun hT => hj (ht b j hT)⟩) id, h.frz⟩
theorem rnWs_get {f : Nat → Option Nat} {E E' : EM} (hf : Leads f E E') (hinj : ∀ j j' i, f j = some i → f j' = some i → j = j') : ∀ {l m : List (Nat × Option Seg)} {ob : List Bool}, rnWs f l = some (m, ob) → AllT ob → ∀ {F G : Nat → Option Seg},
    (∀ i g', G i = some g' → ∃ j g, f j = some i ∧ F j = some g ∧ SegRn E E' g g') → ∀ i g', updSs G m i = some g' → ∃ j g, f j = some i ∧ updSs F l j = some g ∧ SegRn E E' g g'
  | [], m, ob, h, _, F, G, hFG, i, g', hg => by cases h; exact hFG i g' hg
  | p :: l, m, ob, h, hob, F, G, hFG, i, g', hg => by
    have step : ∀ (j0 i0 : Nat) (v v' : Option Seg), f j0 = some i0 → (∀ g', v' = some g' → ∃ g, v = some g ∧ SegRn E E' g g') → ∀ i g', upd G i0 v' i = some g' → ∃ j g, f j = some i ∧ upd F j0 v j = some g ∧ SegRn E E' g g' := by
      intro j0 i0 v v' hj hv i g' hg
      by_cases e : i = i0
      · subst e
        rw [upd_same] at hg
        obtain ⟨g, h1, h2⟩ := hv g' hg
        exact ⟨j0, g, hj, by rw [upd_same]; exact h1, h2⟩
      · rw [upd_other _ _ e] at hg
        obtain ⟨j, g, h1, h2, h3⟩ := hFG i g' hg
        refine ⟨j, g, h1, ?_, h3⟩
        rw [upd_other]
        · exact h2
        · intro e2; rw [e2, hj] at h1; cases h1; exact e rfl
    obtain ⟨j0, v⟩ := p
    cases v with
    | some g0 =>
      replace h : (bindO (f j0) fun i => bindO (rnS f g0) fun a => bindO (rnWs f l) fun b => some ((i, some a.1) :: b.1, a.2 ++ b.2)) = some (m, ob) := h
      obtain ⟨i0, hi, h⟩ := bindO_some h
      obtain ⟨a, ha, h⟩ := bindO_some h
      obtain ⟨b, hb, h⟩ := bindO_some h
      cases h
      exact rnWs_get hf hinj hb hob.append.2 (F := upd F j0 (some g0)) (G := upd G i0 (some a.1)) (step j0 i0 _ _ hi fun g' hg' => by cases hg'; exact ⟨g0, rfl, rnS_ok hf ha hob.append.1⟩) i g' hg
    | none =>
      replace h : (bindO (f j0) fun i => bindO (rnWs f l) fun b => some ((i, none) :: b.1, b.2)) = some (m, ob) := h
      obtain ⟨i0, hi, h⟩ := bindO_some h
      obtain ⟨b, hb, h⟩ := bindO_some h
      cases h
      exact rnWs_get hf hinj hb hob (F := upd F j0 none) (G := upd G i0 none) (step j0 i0 _ _ hi fun g' hg' => by cases hg') i g' hg
theorem CallOK.can {P : Program} {f : FuncId} {S : CS} (h : CallOK P f S) : CallOK P f (canS S) := by
  intro E base args vals rd w e hs hob hargs hb1 hbe hfr hmem
  unfold canS at hs
  split at hs <;> try (cases hs; done)
  rename_i hids
  simp only [Bool.and_eq_true, List.all_eq_true, Nat.ble_eq] at hids
  obtain ⟨hlt, hdist⟩ := hids
  obtain ⟨args', hargs', hs⟩ := bindO_some hs
  obtain ⟨rd', hrd', hs⟩ := bindO_some hs
  obtain ⟨e1, he1, hs⟩ := bindO_some hs
  split at hs <;> try (cases hs; done)
  rename_i hnx
  rw [Nat.ble_eq] at hnx
  obtain ⟨ret, hret, hs⟩ := bindO_some hs
  obtain ⟨ws, hws, hs⟩ := bindO_some hs
  cases hs
  simp only at hob hbe hfr
  obtain ⟨hob1, hob2⟩ := hob.append
  obtain ⟨hob2, hob3⟩ := hob2.append
  generalize hm : (fstsN rd).length = m at *
  -- the ids of the call's own
  let E1 : EM := fun j => if 1 ≤ j ∧ j ≤ m then (match nthN (fstsN rd) (j - 1) with
    | some i => E i
    | none => none) else none
  have hE1 : ∀ i j, posOf (fstsN rd) i 1 = some j → E1 j = E i := by
    intro i j hj
    obtain ⟨h1, h2, h3⟩ := posOf_ok hj
    show (if 1 ≤ j ∧ j ≤ m then _ else none) = _
    rw [if_pos (by omega), h2]
  have hl1 : Leads (fun i => posOf (fstsN rd) i 1) E E1 := fun i j _ hj => ⟨hE1 i j hj, by have := (posOf_ok hj).1; omega⟩
  have hpinj : ∀ i i' j, posOf (fstsN rd) i 1 = some j → posOf (fstsN rd) i' 1 = some j → i = i' := by
    intro i i' j hi hi'
    have h1 := (posOf_ok hi).2.1
    rw [(posOf_ok hi').2.1] at h1
    exact (Option.some.inj h1).symm
  have hget := rnRd_get hl1 hrd' hob1 (fun i i' j _ _ => hpinj i i' j) hdist
  have hT : ∀ b k, Tch E1 rd'.1 b k → Tch E rd b k := by
    rintro b k ⟨j, g', o, z, h1, h2, h3, h4⟩
    obtain ⟨i, g, k1, k2, k3⟩ := hget j g' h1
    exact ⟨i, g, o, z, k2, by rw [← k3.rw]; exact h2, by rw [← hE1 i j k1]; exact h3, h4⟩
  have hmem1 : MemRel w (Tch E1 rd'.1) E1 (fun j => findS j rd'.1) w := by
    refine ⟨fun j g' hj => ?_, fun i j g k b o z b' o' z' hij hi hj hrw hEi hEj => ?_, fun j g' b o z hj hrw hEj => .inr fun k h1 h2 => ⟨j, g', o, z, hj, hrw, hEj, h1, h2⟩, Fr.refl _ _, hmem.tab.1, fun b k hb hk => hmem.tab.2 b k hb (hT b k hk)⟩
    · obtain ⟨i, g, k1, k2, k3⟩ := hget j g' hj
      obtain ⟨b, o, z, cs, T, fr, e, s⟩ := hmem.segs i g k2
      exact ⟨b, o, z, cs, T, fr, (hE1 i j k1).trans e, s.rn k3⟩
    · obtain ⟨i1, g1, a1, a2, a3⟩ := hget i g hi
      obtain ⟨i2, g2, b1, b2, b3⟩ := hget j k hj
      rw [hE1 i1 i a1] at hEi
      rw [hE1 i2 j b1] at hEj
      refine hmem.disj i1 i2 g1 g2 b o z b' o' z' (fun e => ?_) a2 b2 (by rw [← a3.rw, ← b3.rw]; exact hrw) hEi hEj
      rw [e, b1] at a1
      cases a1; exact hij rfl
  refine (h E1 (m + 1) args' vals rd'.1 w e1 he1 hob3 (rnVs_ok hl1 hargs' hargs) (by omega) hnx (fun i hi _ => if_neg (by omega)) hmem1).mono fun v w' hp => ?_
  obtain ⟨E1', p1, p2, p3, p4⟩ := hp
  let E' : EM := fun i => if base ≤ i ∧ i < base + (e1.next - (m + 1)) then E1' (i - base + (m + 1)) else E i
  have hback : ∀ j i, backN (fstsN rd) m base e1.next j = some i → j ≠ 0 ∧ ((j ≤ m ∧ nthN (fstsN rd) (j - 1) = some i) ∨ (m < j ∧ j < e1.next ∧ i = base + (j - (m + 1)))) := by
    intro j i hji
    unfold backN at hji
    split at hji
    · cases hji
    · rename_i h0
      refine ⟨fun e => by (rw [beqN.2 e] at h0; cases h0), ?_⟩
      split at hji
      · rename_i hb; rw [Nat.ble_eq] at hb; exact .inl ⟨hb, hji⟩
      · rename_i hb
        split at hji
        · rename_i hb2
          rw [Nat.ble_eq] at hb2
          cases hji
          exact .inr ⟨Nat.lt_of_not_le fun hl => by (rw [Nat.ble_eq_true_of_le hl] at hb; cases hb), by omega, rfl⟩
        · cases hji
  have hbE : Leads (backN (fstsN rd) m base e1.next) E1' E' := by
    intro j i h0 hji
    rcases (hback j i hji).2 with ⟨h1, h2⟩ | ⟨h1, h2, rfl⟩
    · have hi := hlt i (nthN_mem h2).1
      refine ⟨?_, by omega⟩
      show (if _ then _ else _) = _
      rw [if_neg (by omega)]
      have e1j : E1 j = E i := by
        show (if 1 ≤ j ∧ j ≤ m then _ else none) = _
        rw [if_pos (by omega), h2]
      cases hx : E i with
      | some x => rw [p1 j x (by rw [e1j, hx])]
      | none =>
        cases hy : E1' j with
        | none => rfl
        | some y =>
          rcases p2 j (by rw [hy]; simp) with h3 | h3
          · rw [e1j, hx] at h3; exact absurd rfl h3
          · omega
    · refine ⟨?_, by omega⟩
      show (if _ then _ else _) = _
      rw [if_pos (by omega)]
      congr 1; omega
  have hinj : ∀ j j' i, backN (fstsN rd) m base e1.next j = some i → backN (fstsN rd) m base e1.next j' = some i → j = j' := by
    intro j j' i h1 h2
    obtain ⟨h0, h1⟩ := hback j i h1
    obtain ⟨h0', h2⟩ := hback j' i h2
    rcases h1 with ⟨a1, a2⟩ | ⟨a1, a2, a3⟩ <;> rcases h2 with ⟨b1, b2⟩ | ⟨b1, b2, b3⟩
    · have := nthN_inj hdist a2 b2; omega
    · have := hlt i (nthN_mem a2).1; omega
    · have := hlt i (nthN_mem b2).1; omega
    · omega
  have hpb : ∀ i j, posOf (fstsN rd) i 1 = some j → backN (fstsN rd) m base e1.next j = some i := by
    intro i j hj
    obtain ⟨h1, h2, h3⟩ := posOf_ok hj
    unfold backN
    split
    · rename_i h0; rw [beqN] at h0; omega
    · split
      · exact h2
      · rename_i hb; rw [Nat.ble_eq_true_of_le (by omega)] at hb; cases hb
  have hlb : LeadsB (fun i => posOf (fstsN rd) i 1) E1' E' := fun i j hj => by
    have h1 := hpb i j hj
    have h2 := hlt i (nthN_mem (posOf_ok hj).2.1).1
    exact ⟨(hbE j i (hback j i h1).1 h1).1, by omega⟩
  have hG : ∀ i g', findS i rd = some g' → ∃ j g, backN (fstsN rd) m base e1.next j = some i ∧ findS j rd'.1 = some g ∧ SegRn E1' E' g g' := by
    intro i g' hg
    obtain ⟨j, g, h1, h2, h3⟩ := rnRd_back hlb hpinj hrd' hob1 i g' hg
    exact ⟨j, g, hpb i j h1, h2, h3⟩
  have hGet := rnWs_get hbE hinj hws hob2 (F := fun j => findS j rd'.1) (G := fun i => findS i rd) hG
  refine ⟨E', fun i x hx => ?_, fun i hi => ?_, rnV_ok hbE hret p3, fun i g' hg => ?_, fun i j g k b o z b' o' z' hij hi hj hrw hEi hEj => ?_, fun i g' b o z hi hrw hEi => ?_, p4.fr.mono hT, hmem.tab⟩
  · show (if _ then _ else _) = _
    rw [if_neg]
    · exact hx
    · intro h; rw [hfr i h.1 h.2] at hx; cases hx
  · by_cases h : base ≤ i ∧ i < base + (e1.next - (m + 1))
    · exact .inr h
    · left
      have : E' i = E i := if_neg h
      rwa [this] at hi
  · obtain ⟨j, g, h1, h2, h3⟩ := hGet i g' hg
    obtain ⟨b, o, z, cs, T, fr, e, s⟩ := p4.segs j g h2
    exact ⟨b, o, z, cs, T, fr, (hbE j i (hback j i h1).1 h1).1.trans e, s.rn h3⟩
  · obtain ⟨j1, g1, a1, a2, a3⟩ := hGet i g hi
    obtain ⟨j2, g2, b1, b2, b3⟩ := hGet j k hj
    rw [(hbE j1 i (hback j1 i a1).1 a1).1] at hEi
    rw [(hbE j2 j (hback j2 j b1).1 b1).1] at hEj
    refine p4.disj j1 j2 g1 g2 b o z b' o' z' (fun e => ?_) a2 b2 (by rw [← a3.rw, ← b3.rw]; exact hrw) hEi hEj
    rw [e, b1] at a1
    cases a1; exact hij rfl
  · obtain ⟨j, g, h1, h2, h3⟩ := hGet i g' hi
    rw [(hbE j i (hback j i h1).1 h1).1] at hEi
    exact (p4.tch j g b o z h2 (by rw [← h3.rw]; exact hrw) hEi).imp id fun h k h4 h5 => hT b k (h k h4 h5)
end
end Go.Proofs.Ytaoeigofmfpamaa
end

/- A contract of what is computed alone, where some arguments are addresses of numbers. Nothing is assumed. -/
section
namespace Go.Proofs.Ytaoeigofmfpamaa
open Go
noncomputable section

/-- A plain value; the address of some cells; a slice whose length is known. -/
inductive Shp where
  | v
  | p (n : Nat)
  | s (es : Nat)
def Shp.adr : Shp → Bool
  | .v => false
  | _ => true
/-- Where an argument leads to, and how many cells it leads to. -/
def adrOf : Shp → SV → Option (SC × Nat)
  | .p n, .c p => some (p, n)
  | .s es, .c (.sl i o es' (.c (.ofNat n)) _) => match Nat.beq es es' with
    | true => some (.ptr i o, n * es)
    | false => none
  | _, _ => none
def derefS (rd : List (Nat × Seg)) : List Shp → List SV → Option (List SV × List Bool)
  | [], [] => some ([], [])
  | .v :: sh, v :: l => match flatV v with
    | true => bindO (derefS rd sh l) fun r => some (v :: r.1, r.2)
    | false => none
  | sh0 :: sh, v :: l => bindO (adrOf sh0 v) fun q => bindO (ptrId q.1) fun i => bindO (findS i rd) fun g => bindO (sLoad g.body q.1 q.2) fun c => match flatL c.1 && Nat.ble 1 q.2 with
    | true => bindO (derefS rd sh l) fun r => some (.a c.1 :: r.1, c.2 ++ r.2)
    | false => none
  | _, _ => none
/-- The argument that leads to cells of its own. -/
def ownA : Shp → SV → Nat → SC
  | .s es, .a l, k => .sl k 0 es (.c (.ofNat (l.length / es))) false
  | _, _, k => .ptr k 0
def canA : List Shp → List SV → Nat → List SV
  | .v :: sh, v :: r, k => v :: canA sh r k
  | s :: sh, v :: r, k => .c (ownA s v k) :: canA sh r (k + 1)
  | _, _, _ => []
def canR : List Shp → List SV → Nat → List (Nat × Seg)
  | .v :: sh, _ :: r, k => canR sh r k
  | _ :: sh, .a l :: r, k => (k, ⟨false, false, .cells l⟩) :: canR sh r (k + 1)
  | _, _, _ => []
def cntP : List Shp → Nat
  | [] => 0
  | .v :: sh => cntP sh
  | _ :: sh => cntP sh + 1
def gQ (sh : List Shp) (G : List SV → Option SV) : CS := fun base args rd =>
  bindO (derefS rd sh args) fun d => bindO (G d.1) fun r => some ⟨r, [], base, d.2⟩

theorem adrOf_ok {E : EM} {s : Shp} {v : SV} {q : SC × Nat} (h : adrOf s v = some q) (hn : 1 ≤ q.2) {u : Value} (hv : RelV E v u) : ∃ pv, RelC E q.1 pv ∧ ∀ b o', pv = .pointer (some ⟨b, o', none⟩) → ∀ (E1 : EM) k l, k ≠ 0 → E1 k = some (b, o', q.2) → l.length = q.2 → RelV E1 (.c (ownA s (.a l) k)) u := by
  have pcase : ∀ n p, s = .p n → v = .c p → ∃ pv, RelC E q.1 pv ∧ ∀ b o', pv = .pointer (some ⟨b, o', none⟩) → ∀ (E1 : EM) k l, k ≠ 0 → E1 k = some (b, o', q.2) → l.length = q.2 → RelV E1 (.c (ownA s (.a l) k)) u := by
    intro n p hs hp
    subst hs; subst hp
    cases h
    exact ⟨u, hv, fun b o' hu E1 k l hk hE hl => ⟨b, o', n, hE, by rw [hu]; simp⟩⟩
  have scase : ∀ es i o es' n fu, s = .s es → v = .c (.sl i o es' (.c (.ofNat n)) fu) → ∃ pv, RelC E q.1 pv ∧ ∀ b o', pv = .pointer (some ⟨b, o', none⟩) → ∀ (E1 : EM) k l, k ≠ 0 → E1 k = some (b, o', q.2) → l.length = q.2 → RelV E1 (.c (ownA s (.a l) k)) u := by
    intro es i o es' n fu hs hp
    subst hs; subst hp
    simp only [adrOf] at h
    split at h <;> cases h
    rename_i hb
    rw [beqN] at hb
    subst hb
    obtain ⟨base, m, cap, rfl, h1, h2, h3, h4⟩ := hv
    have hm : m = n := by
      have : (n : Int) = m := h1
      omega
    subst hm
    cases base with
    | none =>
      have := h3 rfl
      have hm0 : m = 0 := by omega
      rw [hm0] at hn; simp at hn
    | some a =>
      obtain ⟨g1, b, o1, z, g2, g3, g4⟩ := h4 a rfl
      have hm0 : m ≠ 0 := fun e => by rw [e] at hn; simp at hn
      have hc : cap ≠ 0 := by omega
      refine ⟨.pointer (some a), ⟨b, o1, z, g2, by rw [g3 hc]⟩, fun b' o' hu E1 k l hk hE hl => ?_⟩
      cases hu
      have hes : 0 < es := Nat.pos_of_ne_zero fun e => by rw [e] at hn; simp at hn
      have hdiv : l.length / es = m := by rw [hl]; exact Nat.mul_div_cancel _ hes
      refine ⟨some ⟨b', o', none⟩, m, cap, rfl, ?_, h2, fun h => (by cases h), fun a ha => ?_⟩
      · show ((l.length / es : Nat) : Int) = m
        rw [hdiv]
      · cases ha
        exact ⟨hk, b', o', m * es, hE, fun _ => rfl, fun hf => (by cases hf)⟩
  cases s with
  | v => cases v <;> cases h
  | p n => cases v with
    | c x => exact pcase _ _ rfl rfl
    | _ => cases h
  | s es => cases v with
    | c x => cases x with
      | sl i o es' n fu => cases n with
        | c z => cases z with
          | ofNat n => exact scase _ _ _ _ _ _ rfl rfl
          | negSucc n => cases h
        | s z => cases h
      | _ => cases h
    | _ => cases h
theorem deref_adr {w w0 : World} {T0 : Nat → Nat → Prop} {E : EM} {rd : List (Nat × Seg)} (hm : MemRel w0 T0 E (fun i => findS i rd) w) {sh : List Shp} {l : List SV}
    (ih : ∀ {dl : List SV} {vals : List Value} {ob : List Bool}, derefS rd sh l = some (dl, ob) → AllT ob → RelVs E l vals →
      ∀ k, 1 ≤ k → ∃ E1 : EM, (∀ i, E1 i ≠ none → k ≤ i ∧ i < k + cntP sh) ∧ RelVs E1 (canA sh dl k) vals ∧
        (∀ i g, findS i (canR sh dl k) = some g → g.rw = false ∧ ∃ b o z cs T fr, E1 i = some (b, o, z) ∧ SegAt E1 b o z g w cs T fr) ∧ ∀ v ∈ dl, ∃ u, RelV E v u)
    {s0 : Shp} (hs0 : s0.adr = true) {v : SV} {dl : List SV} {vals : List Value} {ob : List Bool} (h : derefS rd (s0 :: sh) (v :: l) = some (dl, ob)) (hob : AllT ob) (hr : RelVs E (v :: l) vals) (k : Nat) (hk : 1 ≤ k) :
    ∃ E1 : EM, (∀ i, E1 i ≠ none → k ≤ i ∧ i < k + cntP (s0 :: sh)) ∧ RelVs E1 (canA (s0 :: sh) dl k) vals ∧
      (∀ i g, findS i (canR (s0 :: sh) dl k) = some g → g.rw = false ∧ ∃ b o z cs T fr, E1 i = some (b, o, z) ∧ SegAt E1 b o z g w cs T fr) ∧ ∀ v ∈ dl, ∃ u, RelV E v u := by
  replace h : (bindO (adrOf s0 v) fun q => bindO (ptrId q.1) fun i => bindO (findS i rd) fun g => bindO (sLoad g.body q.1 q.2) fun c => match flatL c.1 && Nat.ble 1 q.2 with
    | true => bindO (derefS rd sh l) fun r => some (.a c.1 :: r.1, c.2 ++ r.2)
    | false => none) = some (dl, ob) := by
    cases s0 <;> first | exact h | cases hs0
  obtain ⟨q, hq, h⟩ := bindO_some h
  obtain ⟨i, hi, h⟩ := bindO_some h
  obtain ⟨g, hg, h⟩ := bindO_some h
  obtain ⟨c, hc, h⟩ := bindO_some h
  split at h <;> try (cases h; done)
  rename_i hfl
  simp only [Bool.and_eq_true, Nat.ble_eq] at hfl
  obtain ⟨r, hd, h⟩ := bindO_some h
  cases h
  cases vals with
  | nil => exact hr.elim
  | cons u us =>
    obtain ⟨hob1, hob2⟩ := hob.append
    obtain ⟨pv, hpv, hown⟩ := adrOf_ok hq hfl.2 hr.1
    obtain ⟨b, o', hpe, vs, hlen, hrel, hcell⟩ := sLoad_ok hm hg hi hpv hc hob1
    obtain ⟨E1, h1, h2, h3, h4⟩ := ih hd hob2 hr.2 (k + 1) (by omega)
    have hk0 : E1 k = none := by
      cases hE : E1 k with
      | none => rfl
      | some x => have := (h1 k (by rw [hE]; simp)).1; omega
    have hext := Ext.upd (E := E1) (b, o', q.2) hk0
    have hblk : ∃ cs T fr, w.heap[b]? = some (.cells cs T fr) ∧ ∀ j, j < q.2 → cs[o' + j]? = vs[j]? := by
      have h0 := hcell 0 (by omega)
      rw [List.getElem?_eq_getElem (by omega)] at h0
      unfold World.cell? at h0
      split at h0
      · rename_i cs T fr hh
        refine ⟨cs, T, fr, hh, fun j hj => ?_⟩
        have := hcell j hj
        simp only [World.cell?, hh] at this
        simpa using this
      · cases h0
    obtain ⟨cs, T, fr, hh, hcs⟩ := hblk
    have hcnt : cntP (s0 :: sh) = cntP sh + 1 := by cases s0 <;> first | rfl | cases hs0
    have hcA : canA (s0 :: sh) (.a c.1 :: r.1) k = .c (ownA s0 (.a c.1) k) :: canA sh r.1 (k + 1) := by cases s0 <;> first | rfl | cases hs0
    have hcR : canR (s0 :: sh) (.a c.1 :: r.1) k = (k, ⟨false, false, .cells c.1⟩) :: canR sh r.1 (k + 1) := by cases s0 <;> first | rfl | cases hs0
    refine ⟨upd E1 k (some (b, o', q.2)), fun i hi => ?_, ?_, fun j g' hj => ?_, fun x hx => ?_⟩
    · by_cases e : i = k
      · subst e; omega
      · rw [upd_other _ _ e] at hi
        have := h1 i hi
        omega
    · rw [hcA]
      exact ⟨hown b o' hpe _ k c.1 (by omega) (upd_same _ _ _) (by rw [hrel.len, hlen]), RelVs.mono hext h2⟩
    · rw [hcR] at hj
      simp only [findS] at hj
      split at hj
      · rename_i hb
        cases hj
        rw [beqN.1 hb]
        refine ⟨rfl, b, o', q.2, cs, T, fr, upd_same _ _ _, hh, ?_, ?_, fun ho => (by cases ho), fun hrw => (by cases hrw), fun m hm' => ?_⟩
        · show c.1.length ≤ q.2
          rw [hrel.len, hlen]; exact Nat.le_refl _
        · have h5 := hcs (q.2 - 1) (by omega)
          rw [List.getElem?_eq_getElem (by omega)] at h5
          have := (Array.getElem?_eq_some_iff.1 h5).1
          omega
        · have hm2 : m < c.1.length := hm'
          obtain ⟨v, h6, h7⟩ := hrel.getD m hm2
          refine ⟨v, ?_, flatC_ok (flatL_getD hfl.1 m) h7⟩
          rw [hcs m (by rw [← hlen, ← hrel.len]; exact hm2)]; exact h6
      · obtain ⟨q1, b', o2, z', cs', T', fr', q2, q3⟩ := h3 j g' hj
        exact ⟨q1, b', o2, z', cs', T', fr', hext j _ q2, q3.mono hext⟩
    · rcases List.mem_cons.1 hx with rfl | hx
      · exact ⟨.agg vs.toArray, vs.toArray, rfl, by simpa using hrel⟩
      · exact h4 x hx
theorem deref_ok {w w0 : World} {T0 : Nat → Nat → Prop} {E : EM} {rd : List (Nat × Seg)} (hm : MemRel w0 T0 E (fun i => findS i rd) w) : ∀ {sh : List Shp} {args dl : List SV} {vals : List Value} {ob : List Bool}, derefS rd sh args = some (dl, ob) → AllT ob → RelVs E args vals →
    ∀ k, 1 ≤ k → ∃ E1 : EM, (∀ i, E1 i ≠ none → k ≤ i ∧ i < k + cntP sh) ∧ RelVs E1 (canA sh dl k) vals ∧
      (∀ i g, findS i (canR sh dl k) = some g → g.rw = false ∧ ∃ b o z cs T fr, E1 i = some (b, o, z) ∧ SegAt E1 b o z g w cs T fr) ∧ ∀ v ∈ dl, ∃ u, RelV E v u
  | [], [], dl, vals, ob, h, _, hr, k, _ => by
    cases h
    cases vals with
    | nil => exact ⟨fun _ => none, fun i hi => absurd rfl hi, trivial, fun i g hg => (by cases hg), fun v hv => (by cases hv)⟩
    | cons _ _ => exact hr.elim
  | [], _ :: _, dl, vals, ob, h, _, _, _, _ => by simp [derefS] at h
  | _ :: _, [], dl, vals, ob, h, _, _, _, _ => by simp [derefS] at h
  | .v :: sh, v :: l, dl, vals, ob, h, hob, hr, k, hk => by
    simp only [derefS] at h
    split at h <;> try (cases h; done)
    rename_i hfl
    obtain ⟨r, hd, h⟩ := bindO_some h
    cases h
    cases vals with
    | nil => exact hr.elim
    | cons u us =>
      obtain ⟨E1, h1, h2, h3, h4⟩ := deref_ok hm hd hob hr.2 k hk
      refine ⟨E1, h1, ⟨flatV_ok hfl hr.1, h2⟩, h3, fun x hx => ?_⟩
      rcases List.mem_cons.1 hx with rfl | hx
      · exact ⟨u, hr.1⟩
      · exact h4 x hx
  | .p n :: sh, v :: l, dl, vals, ob, h, hob, hr, k, hk => deref_adr hm (fun hd hob hr k hk => deref_ok hm hd hob hr k hk) (s0 := .p n) rfl h hob hr k hk
  | .s n :: sh, v :: l, dl, vals, ob, h, hob, hr, k, hk => deref_adr hm (fun hd hob hr k hk => deref_ok hm hd hob hr k hk) (s0 := .s n) rfl h hob hr k hk
theorem gQ_of {P : Program} {f : FuncId} {S : CS} (h : CallOK P f S) {sh : List Shp} {G : List SV → Option SV}
    (hG : ∀ dl r (E : EM), G dl = some r → (∀ v ∈ dl, ∃ u, RelV E v u) → ∃ e0, S (cntP sh + 1) (canA sh dl 1) (canR sh dl 1) = some e0 ∧ flatV e0.ret = true ∧ Nat.ble (cntP sh + 1) e0.next = true ∧ AllT e0.obs ∧ ∀ E v, RelV E e0.ret v → RelV E r v) : CallOK P f (gQ sh G) := by
  intro E base args vals rd w e hs hob hargs hb1 hbe hfr hmem
  unfold gQ at hs
  obtain ⟨d, hd, hs⟩ := bindO_some hs
  obtain ⟨r, hr, hs⟩ := bindO_some hs
  cases hs
  obtain ⟨E1, h1, h2, h3, h4⟩ := deref_ok hmem hd hob hargs 1 (Nat.le_refl _)
  obtain ⟨e0, g1, g2, g3, g4, g5⟩ := hG d.1 r E hr h4
  rw [Nat.ble_eq] at g3
  have hT : ∀ b k, ¬ Tch E1 (canR sh d.1 1) b k := fun b k ⟨i, g, o, z, q1, q2, _⟩ => by
    rw [(h3 i g q1).1] at q2; cases q2
  have hm1 : MemRel w (Tch E1 (canR sh d.1 1)) E1 (fun i => findS i (canR sh d.1 1)) w :=
    ⟨fun i g hg => (h3 i g hg).2, fun i j g k b o z b' o' z' _ hg hk hrw => (by
      rw [(h3 i g hg).1, (h3 j k hk).1] at hrw
      rcases hrw with hrw | hrw <;> cases hrw), fun i g b o z hg hrw => (by rw [(h3 i g hg).1] at hrw; cases hrw), Fr.refl _ _, hmem.tab.1, fun b k _ => hT b k⟩
  refine (h E1 _ _ vals _ w e0 g1 g4 h2 (by omega) g3 (fun i hi _ => ?_) hm1).mono fun v w' hp => ?_
  · cases hE : E1 i with
    | none => rfl
    | some x => have := h1 i (by rw [hE]; simp); omega
  obtain ⟨E', k1, k2, k3, k4⟩ := hp
  have hfr' := k4.fr
  refine ⟨E, Ext.refl E, fun i hi => .inl hi, g5 E v (flatV_ok g2 k3), ?_⟩
  have hseg : ∀ i g, findS i rd = some g → ∃ b o z cs T fr, E i = some (b, o, z) ∧ SegAt E b o z g w' cs T fr := by
    intro i g hg
    obtain ⟨b, o, z, cs, T, fr, q1, q2⟩ := hmem.segs i g hg
    obtain ⟨cs', q3⟩ := q2.frame hfr' (fun k _ _ => hT b k)
    exact ⟨b, o, z, cs', T, fr, q1, q3⟩
  refine ⟨fun i g hg => hseg i g hg, hmem.disj, hmem.tch, ?_, hmem.tab⟩
  refine ⟨hfr'.os, hfr'.out, hfr'.size, fun b hb => ?_, hfr'.frz⟩
  rcases hfr'.old b hb with ⟨cs, t, fr, cs', q1, q2, q3, q4⟩ | q1
  · exact .inl ⟨cs, t, fr, cs', q1, q2, q3, fun j _ => q4 j (hT b j)⟩
  · exact .inr q1
end
end Go.Proofs.Ytaoeigofmfpamaa
end

/- From a contract to a law's walk. Nothing is assumed. -/
section
namespace Go.Proofs.Ytaoeigofmfpamaa
open Go Go.RowKit

theorem grown_of {w w' : World} {T : Nat → Nat → Prop} (h : Fr w w' T) (hT : ∀ b k, b < w.heap.size → ¬ T b k) : Grown w w' := by
  have same : ∀ b, b < w.heap.size → w'.heap[b]? = w.heap[b]? := by
    intro b hb
    rcases h.old b hb with ⟨cs, t, fr, cs', g1, g2, g3, g4⟩ | g1
    · rw [g1, g2]
      have : cs' = cs := Array.ext (by omega) fun i h1 h2 => by
        have := g4 i (hT b i hb)
        rw [Array.getElem?_eq_getElem h1, Array.getElem?_eq_getElem h2] at this
        exact Option.some.inj this
      rw [this]
    · exact g1
  refine ⟨⟨h.os, h.out, fun i hi => ?_⟩, fun a => ?_, h.size⟩
  · rw [same i hi]
    split
    · rename_i h1 h2
      rw [h1] at h2; cases h2
      exact ⟨rfl, rfl, rfl, fun _ _ => rfl⟩
    · rename_i h1 h2
      rw [h1] at h2; cases h2
      exact .inr ⟨rfl, rfl⟩
    · rfl
  · by_cases hb : a.block < w.heap.size
    · unfold World.frozen?
      rw [same _ hb]
    · have h1 := h.frz trivial a.block a.off (by omega)
      have h2 : w.heap[a.block]? = none := Array.getElem?_eq_none (by omega)
      unfold World.frozen? at h1 ⊢
      rw [h2]; exact h1
theorem calls_of {P : Program} {f : FuncId} {fn : Func} (hf : P.funcs[f]? = some fn) (hname : (fn.name == "runtime.NumGoroutine") = false) (hb : fn.body.isSome = true) {vals : Array Value} {w : World} {post : Value → World → Prop} (h : NextOK P ((callFunc f vals).run P w) post) :
    Calls P f vals w fun e w' => ∃ v, e = .returned v ∧ post v w' := by
  have hne : ¬ fn.name = "runtime.NumGoroutine" := by simpa using hname
  obtain ⟨c, hc⟩ := Option.isSome_iff_exists.1 hb
  have hr : (callFunc f vals).run P w = .ok (.enter f vals) w := by simp [callFunc, hf, hne, hc]
  rw [hr] at h
  exact h
/-- No memory at all. -/
theorem mem_nil (w : World) (E : EM)
    :
    MemRel w (Tch E []) E (fun i => findS i []) w := by
  have htab := tab_none w
  exact ⟨fun i g hg => (by cases hg), fun i j g k b o z b' o' z' _ hg => (by cases hg), fun i g b o z hg => (by cases hg), Fr.refl _ _, htab, fun b k _ ⟨i, g, o, z, hg, _⟩ => by cases hg⟩
/-- A law whose arguments lead to no memory. -/
theorem law_of {P : Program} {f : FuncId} {S : CS} (h : CallOK P f S) {fn : Func} (hf : P.funcs[f]? = some fn) (hname : (fn.name == "runtime.NumGoroutine") = false) (hb : fn.body.isSome = true) {args : List SV} {vals : Array Value} {e : CEff} {b : SB}
    (he : S 1 args [] = some e) (hob : AllT e.obs) (hret : e.ret = .c (.bool b)) (hbv : b.val = true) (hn : 1 ≤ e.next) (hvals : RelVs (fun _ => none) args vals.toList) (w : World)
    :
    Calls P f vals w fun e w' => e = .returned (.bool true) ∧ Grown w w' := by
  have hm0 : MemRel w (Tch (fun _ => none) []) (fun _ => none) (fun i => findS i []) w :=
    mem_nil w (fun _ => none)
  refine (calls_of hf hname hb (h (fun _ => none) 1 args vals [] w e he hob hvals (Nat.le_refl _) hn (fun _ _ _ => rfl) hm0)).mono fun x w' hx => ?_
  obtain ⟨v, hv, E', k1, k2, k3, k4⟩ := hx
  rw [hret] at k3
  have k3' : v = .bool b.val := k3
  rw [hbv] at k3'
  refine ⟨by rw [hv, k3'], grown_of k4.fr fun b k _ ⟨i, g, o, z, hg, _⟩ => by cases hg⟩
end Go.Proofs.Ytaoeigofmfpamaa
end

/- Facts of floats up to the bits of a NaN. Nothing is assumed. -/
section
namespace Go.Proofs.Ytaoeigofmfpamaa
open Go

def nanb (k : FloatKind) (x : Nat) : Bool := (k.decode x).isNaN
/-- The bits that stand for a float. -/
def Cn (k : FloatKind) (x : Nat) : Prop := ∃ r, r < 2 ^ k.format.width ∧ can k r = x
theorem FR.cn {k : FloatKind} {x : Nat} {v : Value} (h : FR k x v) : Cn k x := let ⟨r, _, h2, h3⟩ := h; ⟨r, h2, h3⟩
theorem Cn.nan {k : FloatKind} {x : Nat} (h : Cn k x) : nanb k x = Nat.beq x (qnan k) := by
  obtain ⟨r, _, rfl⟩ := h
  unfold nanb
  rcases can_cases k r with ⟨h1, h2⟩ | ⟨h1, h2⟩
  · rw [h2, qnan_nan, beqN.2 rfl]
  · rw [h2, h1]
    cases hb : Nat.beq r (qnan k)
    · rfl
    · rw [beqN.1 hb, qnan_nan] at h1; cases h1
theorem Cn.lt {k : FloatKind} {x : Nat} (h : Cn k x) : x < 2 ^ k.format.width := by
  obtain ⟨r, h1, rfl⟩ := h
  rcases can_cases k r with ⟨_, h2⟩ | ⟨_, h2⟩
  · rw [h2]; cases k <;> decide +kernel
  · rw [h2]; exact h1
theorem order_self (d : Ieee.Datum) : d.order d = if d.isNaN then none else some .eq := by
  cases d with
  | nan s t => rfl
  | infinity s => cases s <;> rfl
  | number s m i =>
    simp only [Ieee.Datum.order, Ieee.Datum.isNaN]
    simp [compare, compareOfLessAndEq]
theorem cmp_neq_self (k : FloatKind) (x : Nat) : fops.cmp .neq k x x = nanb k x := by
  show cmpOrd .neq (k.format.order x x) = _
  unfold Ieee.Format.order nanb FloatKind.decode
  rw [order_self]
  cases (k.format.read x).isNaN <;> rfl
theorem cmp_eql_self (k : FloatKind) (x : Nat) : fops.cmp .eql k x x = !nanb k x := by
  show cmpOrd .eql (k.format.order x x) = _
  unfold Ieee.Format.order nanb FloatKind.decode
  rw [order_self]
  cases (k.format.read x).isNaN <;> rfl

/-- 'sameFloat' over what is told of floats. -/
noncomputable def sf (O : FOps) (x y : Nat) : Bool :=
  bif (bif O.cmp .neq .f64 x x then true else O.cmp .neq .f64 y y) then (bif O.cmp .neq .f64 x x then O.cmp .neq .f64 y y else false)
  else bif (bif O.cmp .eql .f64 x 0 then O.cmp .eql .f64 y 0 else false) then (O.cmp .gtr .f64 (O.bin .quo .f64 4607182418800017408 x) 0 == O.cmp .gtr .f64 (O.bin .quo .f64 4607182418800017408 y) 0)
  else O.cmp .eql .f64 x y
theorem sf_self (x : Nat) : sf fops x x = true := by
  unfold sf
  rw [cmp_neq_self]
  cases h : nanb .f64 x
  · simp only [cond_false, cond_true, Bool.cond_self]
    cases fops.cmp .eql .f64 x 0
    · simp only [cond_false, cmp_eql_self, h]; rfl
    · simp
  · rfl
noncomputable def sfG (O : FOps) : List SV → Option SV
  | [.c (.flt .f64 x), .c (.flt .f64 y)] => some (.c (.bool (.s (sf O x y))))
  | _ => none

/-- Two numbers are the same. -/
def sameS : CS := fun base args rd => match args, rd with
  | [.c (.flt .f32 x), .c (.flt .f32 y)], [] => some ⟨.c (.bool (.s (Nat.beq x y))), [], base, []⟩
  | _, _ => none
theorem same_val {x y : Nat} (hx : Cn .f32 x) (hy : Cn .f32 y) :
    (bif (bif fops.cmp .neq .f32 x x then true else fops.cmp .neq .f32 y y) then (bif fops.cmp .neq .f32 x x then fops.cmp .neq .f32 y y else false) else decide ((x : Int) = y)) = Nat.beq x y := by
  rw [cmp_neq_self, cmp_neq_self, hx.nan, hy.nan]
  cases h1 : Nat.beq x (qnan .f32) <;> cases h2 : Nat.beq y (qnan .f32)
  · simp only [cond_false]
    cases h3 : Nat.beq x y
    · have : x ≠ y := fun e => by rw [beqN.2 e] at h3; cases h3
      simp; omega
    · rw [beqN.1 h3]; simp
  · have : Nat.beq x y = false := by
      cases h3 : Nat.beq x y
      · rfl
      · rw [beqN.1 h3, h2] at h1; cases h1
    rw [this]; rfl
  · have : Nat.beq x y = false := by
      cases h3 : Nat.beq x y
      · rfl
      · rw [← beqN.1 h3, h1] at h2; cases h2
    rw [this]; rfl
  · rw [beqN.1 h1, beqN.1 h2, beqN.2 rfl]; rfl
theorem AllT.cons {b : Bool} {l : List Bool} (h1 : b = true) (h2 : AllT l) : AllT (b :: l) := fun c hc => by
  rcases List.mem_cons.1 hc with rfl | h
  · exact h1
  · exact h2 c h
/-- What such a function's run comes to. -/
def sameR (O : FOps) (x y : Nat) : CEff :=
  ⟨.c (.bool (.s (bif (bif O.cmp .neq .f32 x x then true else O.cmp .neq .f32 y y) then (bif O.cmp .neq .f32 x x then O.cmp .neq .f32 y y else false) else decide ((x : Int) = y)))), [], 1,
    [(bif O.cmp .neq .f32 x x then true else O.cmp .neq .f32 y y) || !Nat.beq x (qnan .f32), (bif O.cmp .neq .f32 x x then true else O.cmp .neq .f32 y y) || !Nat.beq y (qnan .f32)]⟩
theorem same_ok {P : Program} {f : FuncId} {S : CS} (h : CallOK P f S) (he : ∀ x y, S 1 [.c (.flt .f32 x), .c (.flt .f32 y)] [] = some (sameR fops x y)) : CallOK P f sameS := by
  refine h.flat.weak fun base args rd e E vals hs hob hargs => ?_
  unfold sameS at hs
  split at hs <;> cases hs
  rename_i x y
  have hx : Cn .f32 x := by
    match vals, hargs with
    | v :: _, hargs => exact FR.cn hargs.1
  have hy : Cn .f32 y := by
    match vals, hargs with
    | _ :: v :: _, hargs => exact FR.cn hargs.2.1
  have hobs : AllT (sameR fops x y).obs := by
    refine AllT.cons ?_ (AllT.cons ?_ AllT.nil)
    · rw [cmp_neq_self, cmp_neq_self, hx.nan, hy.nan]
      cases Nat.beq x (qnan .f32) <;> cases Nat.beq y (qnan .f32) <;> rfl
    · rw [cmp_neq_self, cmp_neq_self, hx.nan, hy.nan]
      cases Nat.beq x (qnan .f32) <;> cases Nat.beq y (qnan .f32) <;> rfl
  refine ⟨⟨(sameR fops x y).ret, [], base, (sameR fops x y).obs⟩, flatS_eq (he x y) rfl rfl rfl, hobs, fun E v hv => ?_, rfl, Nat.le_refl _, Nat.le_refl _⟩
  have hv' : v = .bool _ := hv
  rw [hv']
  exact congrArg Value.bool (same_val hx hy)
end Go.Proofs.Ytaoeigofmfpamaa
end

/- A law's row: what stays, what an argument is. Nothing is assumed. -/
section
namespace Go.Proofs.Ytaoeigofmfpamaa
open Go Go.RowKit Go.ChangeShapes Go.WideShapes

theorem grown_heap {w w' : World} (h : Grown w w') {i : Nat} (hi : i < w.heap.size) : w'.heap[i]? = w.heap[i]? := by
  have := h.1.2.2 i hi
  cases ho : w.heap[i]? with
  | none => rw [Array.getElem?_eq_none_iff] at ho; omega
  | some o =>
    cases ho' : w'.heap[i]? with
    | none =>
      rw [ho, ho'] at this
      cases o <;> simp at this
    | some o' =>
      rw [ho, ho'] at this
      cases o with
      | cells c t fr =>
        cases o' with
        | cells c' t' fr' =>
          obtain ⟨rfl, rfl, h3, h4⟩ := this
          have : c' = c := Array.ext h3 fun j h1 h2 => by
            have := h4 j (fun h => h)
            rw [Array.getElem?_eq_getElem h1, Array.getElem?_eq_getElem h2] at this
            exact Option.some.inj this
          rw [this]
        | _ => simp at this
      | map es c =>
        cases o' with
        | map es' c' =>
          rcases this with h | ⟨rfl, rfl⟩
          · exact h.elim
          · rfl
        | _ => simp at this
      | _ => simp at this; rw [this]
theorem grown_same {w w' : World} (h : Grown w w') {p : MemPlace} (hp : p.block < w.heap.size) : w.sameAt w' p := by
  cases p with
  | cell b off =>
    show w'.cell? ⟨b, off, none⟩ = w.cell? ⟨b, off, none⟩
    unfold World.cell?
    have e : w'.heap[b]? = w.heap[b]? := grown_heap h hp
    simp only [e]
  | map b => exact grown_heap h hp
section
variable {H : Type} {enc : TypeId × Value → H} {P : Program} {w w' : World}
theorem args_stay (K : Kids P (· < P.types.size)) (hz : ∀ t e, t < P.types.size → P.underlying t = some (.slice e) → 0 < P.cellsOf e) {sp : Nat → Bool} (hg : Grown w w') :
    ∀ {ts : List TypeId} {vs : List Value} {ds : List (DataW H)} {ps : List MemPlace}, (∀ t ∈ ts, t < P.types.size) → DataW.TrodAll enc P w 0 (fun _ => true) true ts vs ds ps → (∀ p ∈ ps, p.block < w.heap.size) → (∀ p ∈ ps, sp p.block = true) → DataW.TrodAll enc P w' 0 sp true ts vs ds ps
  | [], [], [], _, _, h, _, _ => h
  | t :: _, v :: _, d :: _, _, hT, ⟨p, q, ⟨n, h1⟩, h2, e⟩, hl, hs =>
    ⟨p, q, ⟨n, DataW.trod_stays K (fun {t e} => hz t e) (fun h => by cases h) (hT _ (List.mem_cons.2 (.inl rfl))) h1 (fun x hx => grown_same hg (hl x (by rw [e]; exact List.mem_append_left _ hx))) (fun x hx => hs x (by rw [e]; exact List.mem_append_left _ hx))⟩,
      args_stay K hz hg (fun t ht => hT t (List.mem_cons.2 (.inr ht))) h2 (fun x hx => hl x (by rw [e]; exact List.mem_append_right _ hx)) (fun x hx => hs x (by rw [e]; exact List.mem_append_right _ hx)), e⟩
theorem trodAll_len : ∀ {ts : List TypeId} {vs : List Value} {ds : List (DataW H)} {ps : List MemPlace} {sp : Nat → Bool}, DataW.TrodAll enc P w 0 sp true ts vs ds ps → vs.length = ts.length ∧ ds.length = ts.length
  | [], [], [], _, _, _ => ⟨rfl, rfl⟩
  | _ :: _, _ :: _, _ :: _, _, _, ⟨_, _, _, h2, _⟩ => by
    have := trodAll_len h2
    exact ⟨by simp [this.1], by simp [this.2]⟩
  | [], _ :: _, _, _, _, h => h.elim
  | [], [], _ :: _, _, _, h => h.elim
  | _ :: _, [], _, _, _, h => h.elim
  | _ :: _, _ :: _, [], _, _, h => h.elim
end

/-! ### what an argument is -/
section
variable {P : Program} {W : World} {base : Nat} {E : EM}
theorem has_lt {k : FloatKind} {b : Nat} (h : k.has b) : b < 2 ^ k.format.width := by
  cases k
  · rw [show 2 ^ FloatKind.f32.format.width = 2 ^ 32 from rfl]; simpa [FloatKind.has] using h
  · rw [show 2 ^ FloatKind.f64.format.width = 2 ^ 64 from rfl]; simpa [FloatKind.has] using h
theorem cell_flt {t : TypeId} {k : FloatKind} {v : Value} (ht : P.underlying t = some (.float k)) (h : Cell.okWide P W .any base t v) : ∃ x, Cn k x ∧ FR k x v := by
  simp only [Cell.okWide, ht] at h
  have h' : ∃ b, v = .float k b ∧ k.has b := by
    cases v <;> simp_all [Cell.ok]
  obtain ⟨b, rfl, hb⟩ := h'
  exact ⟨can k b, ⟨b, has_lt hb, rfl⟩, b, rfl, has_lt hb, rfl⟩
theorem val_flt {t : TypeId} {k : FloatKind} {v : Value} (ht : P.underlying t = some (.float k)) (h : Value.okWide P W .any base t v) : ∃ x, Cn k x ∧ FR k x v := by
  simp only [Value.okWide, ht] at h
  exact cell_flt ht h
theorem val_int {t : TypeId} {k : IntKind} {v : Value} (ht : P.underlying t = some (.int k)) (h : Value.okWide P W .any base t v) : ∃ n, v = .int k n ∧ k.min ≤ n ∧ n ≤ k.max := by
  simp only [Value.okWide, ht, Cell.okWide] at h
  cases v <;> simp only [Cell.ok, ht] at h
  obtain ⟨rfl, h1, h2⟩ := h
  exact ⟨_, rfl, h1, h2⟩
theorem cn0 (k : FloatKind) : Cn k 0 := ⟨0, Nat.two_pow_pos _, by cases k <;> decide +kernel⟩
/-- A struct or an array of numbers alone. -/
theorem val_floats {t tf : TypeId} {k : FloatKind} {n : Nat} {v : Value} (ht : tagg P t = some true) (hts : P.cellTypes P.depth t = some (List.replicate n tf)) (htf : P.underlying tf = some (.float k)) (hc : P.cellsOf t = n) (h : Value.okWide P W .any base t v) :
    ∃ f : Nat → Nat, (∀ i, Cn k (f i)) ∧ RelV E (.a ((List.range n).map fun i => .flt k (f i))) v := by
  have h' : ∃ cs, v = .agg cs ∧ cs.size = P.cellsOf t ∧ Row.okWide P W .any base t cs := by
    unfold tagg at ht
    unfold Value.okWide at h
    split at h
    · exact h
    · exact h
    · rename_i h1 h2
      split at ht
      · rename_i hu; exact absurd hu (h1 _)
      · rename_i hu; exact absurd hu (h2 _ _)
      · cases ht
      · cases ht
  obtain ⟨cs, rfl, hsz, ts, hts', _, hall⟩ := h'
  rw [hts] at hts'
  cases hts'
  rw [hc] at hsz
  have hcell : ∀ i, i < n → ∃ x, Cn k x ∧ ∃ u, cs[i]? = some u ∧ FR k x u := by
    intro i hi
    have hcs : cs[i]? = some cs[i] := Array.getElem?_eq_getElem (by omega)
    obtain ⟨u, hu, hok⟩ := hall i _ hcs
    rw [List.length_replicate, Nat.mod_eq_of_lt hi, List.getElem?_replicate, if_pos hi] at hu
    cases hu
    obtain ⟨x, h1, h2⟩ := cell_flt htf hok
    exact ⟨x, h1, _, hcs, h2⟩
  refine ⟨fun i => if h : i < n then Classical.choose (hcell i h) else 0, fun i => ?_, cs, rfl, RelL.of_get (by simp [hsz]) fun i hi => ?_⟩
  · dsimp only
    split
    · rename_i h; exact (Classical.choose_spec (hcell i h)).1
    · exact cn0 k
  · simp only [List.length_map, List.length_range] at hi
    obtain ⟨_, u, hu, hr⟩ := Classical.choose_spec (hcell i hi)
    refine ⟨u, by rw [Array.getElem?_toList]; exact hu, ?_⟩
    simp only [List.getElem_map, List.getElem_range, dif_pos hi]
    exact hr
end
end Go.Proofs.Ytaoeigofmfpamaa
end

/- What an argument is: structs, slices of structs. Nothing is assumed. -/
section
namespace Go.Proofs.Ytaoeigofmfpamaa
open Go Go.RowKit Go.ChangeShapes Go.WideShapes

inductive KK where
  | bool
  | int (k : IntKind)
  | flt (k : FloatKind)
  | sl (t e : TypeId)
def KK.scalar : KK → Bool
  | .sl _ _ => false
  | _ => true
def kdsF (P : Program) (r : TypeId → Option (List KK)) : List Field → List KK → Option (List KK)
  | [], acc => some acc
  | f :: fs, acc => match r f.type with
    | some ts => match Nat.beq f.offset acc.length && Nat.beq (P.cellsOf f.type) ts.length with
      | true => kdsF P r fs (acc ++ ts)
      | false => none
    | none => none
def repK (ts : List KK) : Nat → List KK
  | 0 => []
  | n + 1 => repK ts n ++ ts
/-- The kinds of a type's cells. -/
def kds (P : Program) : Nat → TypeId → Option (List KK)
  | 0, _ => none
  | d + 1, t => match P.underlying t with
    | some .bool => some [.bool]
    | some (.int k) => some [.int k]
    | some (.float k) => some [.flt k]
    | some (.slice e) => some [.sl t e]
    | some (.struct fs) => kdsF P (kds P d) fs.toList []
    | some (.array n e) => match kds P d e with
      | some ts => match Nat.beq (P.cellsOf e) ts.length with
        | true => some (repK ts n)
        | false => none
      | none => none
    | _ => none
theorem repK_len (ts : List KK) : ∀ n, (repK ts n).length = n * ts.length
  | 0 => by simp [repK]
  | n + 1 => by rw [repK, List.length_append, repK_len ts n, Nat.succ_mul]

section
variable {H : Type} {enc : TypeId × Value → H} {P : Program} {w : World} {base : Nat} {spare : Nat → Bool} {held : Bool}
/-- What a cell is. -/
def kok (enc : TypeId × Value → H) (P : Program) (w : World) (base : Nat) (spare : Nat → Bool) (held : Bool) : KK → Value → Prop
  | .bool, v => ∃ b, v = .bool b
  | .int k, v => ∃ n, v = .int k n ∧ k.min ≤ n ∧ n ≤ k.max
  | .flt k, v => ∃ b, v = .float k b ∧ b < 2 ^ k.format.width
  | .sl t e, v => P.underlying t = some (.slice e) ∧ ∃ n x, DataW.trod enc P w base spare held n t [v] = some x
def KOK (enc : TypeId × Value → H) (P : Program) (w : World) (base : Nat) (spare : Nat → Bool) (held : Bool) (ts : List KK) (cs : List Value) (o : Nat) : Prop :=
  ∀ i u, ts[i]? = some u → ∃ v, cs[o + i]? = some v ∧ kok enc P w base spare held u v
theorem KOK.append {ts us : List KK} {cs : List Value} {o : Nat} (h1 : KOK enc P w base spare held ts cs o) (h2 : KOK enc P w base spare held us cs (o + ts.length)) : KOK enc P w base spare held (ts ++ us) cs o := by
  intro i u hi
  rw [List.getElem?_append] at hi
  split at hi
  · exact h1 i u hi
  · rename_i hl
    obtain ⟨v, hv, hk⟩ := h2 _ u hi
    exact ⟨v, by rw [← hv]; congr 1; omega, hk⟩
theorem KOK.sub {ts : List KK} {cs : List Value} {o n : Nat} (h : KOK enc P w base spare held ts ((cs.drop o).take n) 0) : KOK enc P w base spare held ts cs o := by
  intro i u hi
  obtain ⟨v, hv, hk⟩ := h i u hi
  rw [Nat.zero_add, List.getElem?_take] at hv
  split at hv
  · rw [List.getElem?_drop] at hv; exact ⟨v, hv, hk⟩
  · cases hv
theorem trod_kds : ∀ (d : Nat) (t : TypeId) (ts : List KK), kds P d t = some ts → ∀ (fuel : Nat) (cs : List Value) (x : DataW H × List MemPlace), DataW.trod enc P w base spare held fuel t cs = some x → KOK enc P w base spare held ts cs 0
  | 0, t, ts, h, _, _, _, _ => by cases h
  | d + 1, t, ts, h, fuel, cs, x, hx => by
    have one : ∀ {k : KK} {c : Value}, kok enc P w base spare held k c → KOK enc P w base spare held [k] [c] 0 := by
      intro k c hk i u hi
      cases i with
      | zero => cases hi; exact ⟨c, rfl, hk⟩
      | succ i => simp at hi
    unfold kds at h
    split at h
    · rename_i ht; cases h
      obtain ⟨b, rfl, _⟩ := DataW.trod_bool ht hx
      exact one ⟨b, rfl⟩
    · rename_i k ht; cases h
      obtain ⟨n, rfl, _, hw⟩ := DataW.trod_int ht hx
      refine one ⟨n, rfl, ?_⟩
      simpa [Lit.wf] using hw
    · rename_i k ht; cases h
      cases fuel with
      | zero => simp [DataW.trod] at hx
      | succ n =>
        unfold DataW.trod at hx
        rw [ht] at hx
        split at hx <;> simp_all
        rename_i k' b _
        obtain ⟨⟨rfl, hb⟩, _⟩ := hx
        refine one ⟨b, rfl, ?_⟩
        cases k'
        · rw [show 2 ^ FloatKind.f32.format.width = 2 ^ 32 from rfl]; simpa [Lit.wf] using hb
        · rw [show 2 ^ FloatKind.f64.format.width = 2 ^ 64 from rfl]; simpa [Lit.wf] using hb
    · rename_i e ht; cases h
      have hx' := hx
      rcases DataW.trod_slice ht hx with ⟨rfl, _⟩ | ⟨a, len, cap, elems, rest, n, _, rfl, _⟩
      · exact one ⟨ht, fuel, x, hx'⟩
      · exact one ⟨ht, fuel, x, hx'⟩
    · rename_i fs ht
      obtain ⟨xs, n, rfl, _, hl, hxs, hf⟩ := DataW.trod_struct ht hx
      have key : ∀ (l : List Field) (acc : List KK), (∀ f ∈ l, ∃ y, DataW.trod enc P w base spare held n f.type ((cs.drop f.offset).take (P.cellsOf f.type)) = some y) → KOK enc P w base spare held acc cs 0 → kdsF P (kds P d) l acc = some ts → KOK enc P w base spare held ts cs 0 := by
        intro l
        induction l with
        | nil => intro acc _ hacc h; cases h; exact hacc
        | cons f l ih =>
          intro acc hl hacc h
          simp only [kdsF] at h
          split at h <;> try (cases h; done)
          rename_i us hus
          split at h <;> try (cases h; done)
          rename_i hb
          simp only [Bool.and_eq_true, beqN] at hb
          obtain ⟨y, hy⟩ := hl f (by simp)
          refine ih _ (fun g hg => hl g (by simp [hg])) (hacc.append ?_) h
          have := (trod_kds d f.type us hus n _ y hy).sub
          rw [hb.1] at this
          rwa [Nat.zero_add]
      refine key fs.toList [] (fun f hf' => ?_) (fun i u hi => by simp at hi) h
      obtain ⟨i, hi, he⟩ := List.getElem_of_mem hf'
      have hfi : fs[i]? = some f := by
        have : i < fs.size := by simpa using hi
        rw [Array.getElem?_eq_getElem this]
        simpa using he
      have hi' : i < xs.length := by rw [hxs]; simpa using hi
      exact ⟨xs[i], by rw [hf i f hfi, List.getElem?_eq_getElem hi']⟩
    · rename_i m e ht
      split at h <;> try (cases h; done)
      rename_i us hus
      split at h <;> cases h
      rename_i hb
      obtain ⟨xs, n, rfl, _, hl, hxs, hf⟩ := DataW.trod_array ht hx
      have key : ∀ j, j ≤ m → KOK enc P w base spare held (repK us j) cs 0 := by
        intro j
        induction j with
        | zero => intro _ i u hi; simp [repK] at hi
        | succ j ih =>
          intro hj
          refine (ih (by omega)).append ?_
          rw [repK_len, Nat.zero_add]
          have h1 : j < xs.length := by omega
          have h2 := hf j (by omega)
          rw [List.getElem?_eq_getElem h1, beqN.1 hb] at h2
          exact (trod_kds d e us hus n _ _ h2).sub
      exact key m (Nat.le_refl _)
    · cases h

/-! ### its data -/
def mkL (F : Nat → Nat) (G : Nat → Int) (B : Nat → Bool) : List KK → Nat → List SC
  | [], _ => []
  | .flt k :: l, j => .flt k (F j) :: mkL F G B l (j + 1)
  | .int k :: l, j => .int k (.s (G j)) :: mkL F G B l (j + 1)
  | .bool :: l, j => .bool (.s (B j)) :: mkL F G B l (j + 1)
  | .sl _ _ :: l, j => .any :: mkL F G B l (j + 1)
theorem mkL_flat (F : Nat → Nat) (G : Nat → Int) (B : Nat → Bool) : ∀ (l : List KK) (j : Nat), flatL (mkL F G B l j) = true
  | [], _ => rfl
  | .flt _ :: l, j => mkL_flat F G B l (j + 1)
  | .int _ :: l, j => mkL_flat F G B l (j + 1)
  | .bool :: l, j => mkL_flat F G B l (j + 1)
  | .sl _ _ :: l, j => mkL_flat F G B l (j + 1)
theorem mkL_len (F : Nat → Nat) (G : Nat → Int) (B : Nat → Bool) : ∀ (l : List KK) (j : Nat), (mkL F G B l j).length = l.length
  | [], _ => rfl
  | .flt _ :: l, j => congrArg (· + 1) (mkL_len F G B l (j + 1))
  | .int _ :: l, j => congrArg (· + 1) (mkL_len F G B l (j + 1))
  | .bool :: l, j => congrArg (· + 1) (mkL_len F G B l (j + 1))
  | .sl _ _ :: l, j => congrArg (· + 1) (mkL_len F G B l (j + 1))
/-- The data that a scalar cell holds. -/
def kdat (E : EM) : KK → Value → Nat → Int → Bool → Prop
  | .bool, v, _, _, b => v = .bool b
  | .int k, v, _, n, _ => v = .int k n ∧ k.min ≤ n ∧ n ≤ k.max
  | .flt k, v, x, _, _ => FR k x v
  | .sl _ _, v, _, _, _ => v.oneCell' = true
theorem kok_dat {E : EM} {k : KK} {v : Value} (h : kok enc P w base spare held k v) : ∃ x n b, kdat E k v x n b := by
  cases k with
  | bool => obtain ⟨b, rfl⟩ := h; exact ⟨0, 0, b, rfl⟩
  | int k => obtain ⟨n, rfl, h1, h2⟩ := h; exact ⟨0, n, true, rfl, h1, h2⟩
  | flt k => obtain ⟨b, rfl, hb⟩ := h; exact ⟨can k b, 0, true, b, rfl, hb, rfl⟩
  | sl t e =>
    obtain ⟨ht, n, x, hx⟩ := h
    rcases DataW.trod_slice ht hx with ⟨h1, _⟩ | ⟨a, len, cap, elems, rest, n, _, h1, _⟩
    · cases h1; exact ⟨0, 0, true, rfl⟩
    · cases h1; exact ⟨0, 0, true, rfl⟩
theorem mkL_rel {E : EM} {F : Nat → Nat} {G : Nat → Int} {B : Nat → Bool} : ∀ {ts : List KK} {j : Nat} {vs : List Value}, vs.length = ts.length → (∀ i u v, ts[i]? = some u → vs[i]? = some v → kdat E u v (F (j + i)) (G (j + i)) (B (j + i))) → RelL E (mkL F G B ts j) vs
  | [], j, [], _, _ => trivial
  | [], j, _ :: _, h, _ => by simp at h
  | _ :: _, j, [], h, _ => by simp at h
  | t :: ts, j, v :: vs, h, hd => by
    have h1 := hd 0 t v rfl rfl
    have h2 := mkL_rel (E := E) (F := F) (G := G) (B := B) (ts := ts) (j := j + 1) (vs := vs) (by simpa using h) fun i u v' hu hv => by
      have := hd (i + 1) u v' (by simpa using hu) (by simpa using hv)
      rw [show j + 1 + i = j + (i + 1) by omega]; exact this
    rw [Nat.add_zero] at h1
    cases t with
    | bool => exact ⟨h1, h2⟩
    | int k => exact ⟨h1.1, h2⟩
    | flt k => exact ⟨h1, h2⟩
    | sl t e => exact ⟨h1, h2⟩
/-- What is known of the data. -/
def DataOK (ts : List KK) (n : Nat) (F : Nat → Int → Nat) (G : Nat → Int → Int) : Prop :=
  ∀ (i j : Nat) u, i < n → ts[j]? = some u → (∀ k, u = .flt k → Cn k (F j i)) ∧ (∀ k, u = .int k → k.min ≤ G j i ∧ G j i ≤ k.max)
/-- The rows of a slice. -/
theorem rows_data {E : EM} {ts : List KK} {n : Nat} {cell : Nat → Nat → Value} (h : ∀ i, i < n → ∀ j u, ts[j]? = some u → kok enc P w base spare held u (cell i j)) :
    ∃ (F : Nat → Int → Nat) (G : Nat → Int → Int) (B : Nat → Int → Bool), DataOK ts n F G ∧ ∀ i, i < n → RelL E (mkL (fun j => F j i) (fun j => G j i) (fun j => B j i) ts 0) ((List.range ts.length).map (cell i)) := by
  have key : ∀ i j : Nat, ∃ y : Nat × Int × Bool, i < n → ∀ u, ts[j]? = some u → kdat E u (cell i j) y.1 y.2.1 y.2.2 := by
    intro i j
    by_cases hi : i < n
    · cases hu : ts[j]? with
      | none => exact ⟨(0, 0, true), fun _ u hu' => by cases hu'⟩
      | some u =>
        obtain ⟨x, m, b, hd⟩ := kok_dat (E := E) (h i hi j u hu)
        exact ⟨(x, m, b), fun _ u' hu' => by cases hu'; exact hd⟩
    · exact ⟨(0, 0, true), fun hi' => absurd hi' hi⟩
  let Y : Nat → Nat → Nat × Int × Bool := fun i j => Classical.choose (key i j)
  have hY : ∀ i j, i < n → ∀ u, ts[j]? = some u → kdat E u (cell i j) (Y i j).1 (Y i j).2.1 (Y i j).2.2 := fun i j => Classical.choose_spec (key i j)
  refine ⟨fun j i => (Y i.toNat j).1, fun j i => (Y i.toNat j).2.1, fun j i => (Y i.toNat j).2.2, fun i j u hi hu => ?_, fun i hi => mkL_rel (by simp) fun j u v hu hv => ?_⟩
  · have := hY i j hi u hu
    refine ⟨fun k e => ?_, fun k e => ?_⟩
    · subst e
      simp only [Int.toNat_natCast]
      exact FR.cn this
    · subst e
      simp only [Int.toNat_natCast]
      exact this.2
  · simp only [Nat.zero_add, Int.toNat_natCast]
    have hj : j < ts.length := by
      have := List.getElem?_eq_some_iff.1 hu; exact this.1
    rw [List.getElem?_map, List.getElem?_range hj] at hv
    cases hv
    exact hY i j hi u hu
/-- A slice, as an argument. -/
structure SlArg (w : World) (es : Nat) (ts : List KK) (v : Value) (n : Nat) (F : Nat → Int → Nat) (G : Nat → Int → Int) (B : Nat → Int → Bool) : Prop where
  len : ∃ b cap, v = .slice b n cap ∧ n ≤ cap ∧ cap ≤ maxLen ∧ (b = none → cap = 0)
  none_ : (∃ b, v = .slice b n 0) ∨ ∃ b o cap cs T fr, v = .slice (some ⟨b, o, none⟩) n cap ∧ cap ≠ 0 ∧ w.heap[b]? = some (.cells cs T fr) ∧ o + n * es ≤ cs.size ∧
    ∀ (E : EM) k, k < es * n → ∃ u, cs[o + k]? = some u ∧ RelC E ((mkL (fun j => F j ((k / es : Nat) : Int)) (fun j => G j ((k / es : Nat) : Int)) (fun j => B j ((k / es : Nat) : Int)) ts 0).getD (k % es) .any) u
  dat : DataOK ts n F G
theorem cells_get {w : World} {a : Addr} {n : Nat} {cs : List Value} (h : w.cells? base a n = some cs) : cs.length = n ∧ ∀ i, i < n → w.cell? (a.add i) = cs[i]? := by
  unfold World.cells? at h
  split at h <;> try (cases h; done)
  exact ⟨by simpa using mapM_some_length h, fun i hi => mapM_some_get h i i (by simp [hi])⟩
theorem kdat_E {E E' : EM} {k : KK} (hs : k.scalar = true) {v : Value} {x : Nat} {n : Int} {b : Bool} (h : kdat E k v x n b) : kdat E' k v x n b := by
  cases k <;> exact h
theorem sl_arg {t e : TypeId} (ht : P.underlying t = some (.slice e)) {d : Nat} {ts : List KK} (hk : kds P d e = some ts) (hc : P.cellsOf e = ts.length) (hpos : 0 < ts.length) (hsc : ts.all KK.scalar = true) {v : Value} {fuel : Nat} {x : DataW H × List MemPlace} (hx : DataW.trod enc P w base (fun _ => true) held fuel t [v] = some x) :
    ∃ n F G B, SlArg w ts.length ts v n F G B := by
  rcases DataW.trod_slice ht hx with ⟨h1, _⟩ | ⟨a, len, cap, elems, rest, m, _, h1, _, hb, hl, hcap, hel, hget, hrest, _⟩
  · cases h1
    exact ⟨0, fun _ _ => 0, fun _ _ => 0, fun _ _ => true, ⟨none, 0, rfl, Nat.le_refl _, Nat.zero_le _, fun _ => rfl⟩, .inl ⟨none, rfl⟩, fun i j u hi => by omega⟩
  · cases h1
    obtain ⟨hrl, hrest⟩ := hrest rfl
    rw [hc] at hget hrest
    have hcells : ∀ i, i < cap → ∃ cs, w.cells? base (a.add (i * ts.length)) ts.length = some cs ∧ KOK enc P w base (fun _ => true) held ts cs 0 := by
      intro i hi
      have h2 : ∃ y, (w.cells? base (a.add (i * ts.length)) ts.length).bind (DataW.trod enc P w base (fun _ => true) held m e) = some y := by
        by_cases hil : i < len
        · exact ⟨_, (hget i hil).trans (List.getElem?_eq_getElem (by omega))⟩
        · have := hrest (i - len) (by omega)
          rw [show len + (i - len) = i by omega] at this
          exact ⟨_, this.trans (List.getElem?_eq_getElem (by omega))⟩
      obtain ⟨y, h2⟩ := h2
      cases h3 : w.cells? base (a.add (i * ts.length)) ts.length with
      | none => rw [h3] at h2; cases h2
      | some cs =>
        rw [h3] at h2
        exact ⟨cs, rfl, trod_kds d e ts hk m cs _ h2⟩
    by_cases h0 : cap = 0
    · subst h0
      have : len = 0 := by omega
      subst this
      refine ⟨0, fun _ _ => 0, fun _ _ => 0, fun _ _ => true, ⟨some a, 0, rfl, Nat.zero_le _, hcap, fun h => (by cases h)⟩, .inl ⟨some a, rfl⟩, fun i j u hi => by omega⟩
    · -- the block
      obtain ⟨cs0, hcs0, _⟩ := hcells 0 (by omega)
      have hz := (cells_get hcs0).2 0 hpos
      have hlen0 := (cells_get hcs0).1
      rw [List.getElem?_eq_getElem (by omega)] at hz
      obtain ⟨b, o, sp⟩ := a
      cases sp with
      | some s => simp [World.cell?, Addr.add] at hz; split at hz <;> simp_all
      | none =>
        have hadd : ∀ k, (⟨b, o, none⟩ : Addr).add k = ⟨b, o + k, none⟩ := fun k => addr_add b o k
        have hblock : ∃ cs T fr, w.heap[b]? = some (.cells cs T fr) := by
          rw [hadd, addr_add] at hz
          unfold World.cell? at hz
          split at hz
          · rename_i c T fr hh; exact ⟨c, T, fr, hh⟩
          · cases hz
        obtain ⟨cs, T, fr, hh⟩ := hblock
        have hcell : ∀ i j, i < cap → j < ts.length → ∀ l, w.cells? base ((⟨b, o, none⟩ : Addr).add (i * ts.length)) ts.length = some l → cs[o + i * ts.length + j]? = l[j]? := by
          intro i j hi hj l hl'
          have := (cells_get hl').2 j hj
          rw [hadd, addr_add] at this
          rw [← this]
          simp [World.cell?, hh]
        let cell : Nat → Nat → Value := fun i j => (cs[o + i * ts.length + j]?).getD undef
        have hkok : ∀ i, i < cap → ∀ j u, ts[j]? = some u → kok enc P w base (fun _ => true) held u (cell i j) ∧ cs[o + i * ts.length + j]? = some (cell i j) := by
          intro i hi j u hu
          obtain ⟨l, hl1, hl2⟩ := hcells i hi
          obtain ⟨c, hc1, hc2⟩ := hl2 j u hu
          rw [Nat.zero_add] at hc1
          have hj : j < ts.length := (List.getElem?_eq_some_iff.1 hu).1
          have h4 := hcell i j hi hj l hl1
          rw [hc1] at h4
          have : cell i j = c := by show (cs[o + i * ts.length + j]?).getD undef = c; rw [h4]; rfl
          rw [this]
          exact ⟨hc2, h4⟩
        obtain ⟨F, G, B, hd, hr⟩ := rows_data (E := fun _ => none) (n := len) (cell := cell) (fun i hi j u hu => (hkok i (by omega) j u hu).1)
        refine ⟨len, F, G, B, ⟨some ⟨b, o, none⟩, cap, rfl, hl, hcap, fun h => (by cases h)⟩, .inr ⟨b, o, cap, cs, T, fr, rfl, h0, hh, ?_, fun E k hk' => ?_⟩, hd⟩
        · have h5 := (hkok (cap - 1) (by omega) (ts.length - 1) _ (List.getElem?_eq_getElem (by omega))).2
          have h6 := (Array.getElem?_eq_some_iff.1 h5).1
          have h7 : (cap - 1) * ts.length + ts.length = cap * ts.length := by
            rw [← Nat.succ_mul]; congr 1; omega
          have h8 : len * ts.length ≤ cap * ts.length := Nat.mul_le_mul_right _ hl
          omega
        · have hi : k / ts.length < len := Nat.div_lt_of_lt_mul hk'
          have hj : k % ts.length < ts.length := Nat.mod_lt _ hpos
          have h8 := hkok (k / ts.length) (by omega) (k % ts.length) _ (List.getElem?_eq_getElem hj)
          have h9 : o + k / ts.length * ts.length + k % ts.length = o + k := by
            have := Nat.div_add_mod k ts.length
            rw [Nat.mul_comm] at this; omega
          rw [h9] at h8
          refine ⟨_, h8.2, ?_⟩
          obtain ⟨u, hu1, hu2⟩ := (hr (k / ts.length) hi).getD (k % ts.length) (by rw [mkL_len]; exact hj)
          rw [List.getElem?_map, List.getElem?_range hj] at hu1
          cases hu1
          exact flatC_ok (flatL_getD (mkL_flat _ _ _ _ _) _) hu2
/-- A struct of scalars, as an argument. -/
theorem st_arg {E : EM} {t : TypeId} {d : Nat} {ts : List KK} (hk : kds P d t = some ts) {vs : Array Value} (hl : vs.size = ts.length) {fuel : Nat} {x : DataW H × List MemPlace} (hx : DataW.trod enc P w base spare held fuel t vs.toList = some x) :
    ∃ (F : Nat → Nat) (G : Nat → Int) (B : Nat → Bool), (∀ (j : Nat) u, ts[j]? = some u → (∀ k, u = .flt k → Cn k (F j)) ∧ (∀ k, u = .int k → k.min ≤ G j ∧ G j ≤ k.max)) ∧ RelL E (mkL F G B ts 0) vs.toList := by
  have h1 := trod_kds d t ts hk fuel _ x hx
  have hkok : ∀ (j : Nat) u, ts[j]? = some u → kok enc P w base spare held u ((vs.toList[j]?).getD undef) ∧ vs.toList[j]? = some ((vs.toList[j]?).getD undef) := by
    intro j u hu
    obtain ⟨v, hv, hk'⟩ := h1 j u hu
    rw [Nat.zero_add] at hv
    rw [hv]; exact ⟨hk', rfl⟩
  obtain ⟨F, G, B, hd, hr⟩ := rows_data (enc := enc) (P := P) (w := w) (base := base) (spare := spare) (held := held) (E := E) (n := 1) (cell := fun _ j => (vs.toList[j]?).getD undef) (ts := ts) (fun i hi j u hu => (hkok j u hu).1)
  refine ⟨fun j => F j (0 : Nat), fun j => G j (0 : Nat), fun j => B j (0 : Nat), fun j u hu => hd 0 j u (by omega) hu, ?_⟩
  have h2 := hr 0 (by omega)
  have : (List.range ts.length).map (fun j => (vs.toList[j]?).getD undef) = vs.toList := by
    refine List.ext_getElem? fun j => ?_
    rw [List.getElem?_map]
    by_cases hj : j < ts.length
    · rw [List.getElem?_range hj, (hkok j _ (List.getElem?_eq_getElem hj)).2]; rfl
    · rw [List.getElem?_eq_none (by simpa using hj), List.getElem?_eq_none (by simp; omega)]; rfl
  rw [this] at h2
  exact h2
end
end Go.Proofs.Ytaoeigofmfpamaa
end

/- From a contract to a law's walk, where arguments lead to memory. Nothing is assumed. -/
section
namespace Go.Proofs.Ytaoeigofmfpamaa
open Go Go.RowKit

/-- A law whose arguments lead to memory that it only reads. -/
theorem law_mem {P : Program} {f : FuncId} {S : CS} (h : CallOK P f S) {fn : Func} (hf : P.funcs[f]? = some fn) (hname : (fn.name == "runtime.NumGoroutine") = false) (hb : fn.body.isSome = true) {args : List SV} {vals : Array Value} {e : CEff} {b : SB} {E : EM} {rd : List (Nat × Seg)} {n : Nat} {w : World}
    (he : S n args rd = some e) (hob : AllT e.obs) (hret : e.ret = .c (.bool b)) (hbv : b.val = true) (h1 : 1 ≤ n) (hn : n ≤ e.next) (hvals : RelVs E args vals.toList) (hE : ∀ i, n ≤ i → E i = none) (hro : ∀ i g, findS i rd = some g → g.rw = false) (hm : MemRel w (Tch E rd) E (fun i => findS i rd) w) :
    Calls P f vals w fun e w' => e = .returned (.bool true) ∧ Grown w w' := by
  refine (calls_of hf hname hb (h E n args vals rd w e he hob hvals h1 hn (fun i hi _ => hE i hi) hm)).mono fun x w' hx => ?_
  obtain ⟨v, hv, E', k1, k2, k3, k4⟩ := hx
  rw [hret] at k3
  have k3' : v = .bool b.val := k3
  rw [hbv] at k3'
  refine ⟨by rw [hv, k3'], grown_of k4.fr fun b k _ ⟨i, g, o, z, hg, hrw, _⟩ => ?_⟩
  rw [hro i g hg] at hrw; cases hrw

/-! ### several slices -/
structure SA where
  v : Value
  n : Nat
  ts : List KK
  F : Nat → Int → Nat
  G : Nat → Int → Int
  B : Nat → Int → Bool
def SA.ok (w : World) (s : SA) : Prop := SlArg w s.ts.length s.ts s.v s.n s.F s.G s.B
def SA.row (s : SA) (j : Int) : List SC := mkL (fun c => s.F c j) (fun c => s.G c j) (fun c => s.B c j) s.ts 0
def SA.seg (s : SA) : Seg := ⟨false, false, .rows s.ts.length s.n s.row⟩
/-- The rows, one behind the other. -/
def cat (row : Int → List SC) : Nat → Nat → List SC
  | _, 0 => []
  | i, n + 1 => row i ++ cat row (i + 1) n
def SA.segC (s : SA) : Seg := ⟨false, false, .cells (cat s.row 0 s.n)⟩
def SA.arg (s : SA) (i : Nat) : SC := .sl i 0 s.ts.length (.s s.n) false
def SA.argC (s : SA) (i : Nat) : SC := .sl i 0 s.ts.length (.c s.n) false
theorem cat_len {row : Int → List SC} {es : Nat} (h : ∀ j, (row j).length = es) : ∀ i n, (cat row i n).length = es * n
  | _, 0 => by simp [cat]
  | i, n + 1 => by rw [cat, List.length_append, h, cat_len h (i + 1) n, Nat.mul_succ]; omega
theorem cat_get {row : Int → List SC} {es : Nat} (hp : 0 < es) (h : ∀ j, (row j).length = es) : ∀ n i k, k < es * n → (cat row i n).getD k .any = (row ((i + k / es : Nat) : Int)).getD (k % es) .any
  | 0, i, k, hk => by simp at hk
  | n + 1, i, k, hk => by
    rw [cat, List.getD_eq_getElem?_getD, List.getElem?_append, h]
    split
    · rename_i hl
      rw [Nat.div_eq_of_lt hl, Nat.mod_eq_of_lt hl, ← List.getD_eq_getElem?_getD]; rfl
    · rename_i hl
      rw [← List.getD_eq_getElem?_getD, cat_get hp h n (i + 1) (k - es) (by rw [Nat.mul_succ] at hk; omega)]
      have e : k = (k - es) + es := by omega
      have e1 : k / es = (k - es) / es + 1 := by
        conv => lhs; rw [e]
        exact Nat.add_div_right _ hp
      have e2 : k % es = (k - es) % es := by
        conv => lhs; rw [e]
        exact Nat.add_mod_right _ _
      rw [e1, e2]
      congr 2; omega
theorem seg_cells (s : SA) (hp : 0 < s.ts.length) : SegLe s.seg s.segC := by
  have hl : ∀ j, (s.row j).length = s.ts.length := fun j => mkL_len _ _ _ _ _
  refine ⟨id, id, ?_, fun E k v hk hv => ?_⟩
  · show (cat s.row 0 s.n).length = s.ts.length * (s.n : Int).toNat
    rw [cat_len hl, Int.toNat_natCast]
  · have hk' : k < s.ts.length * s.n := hk
    show RelC E ((cat s.row 0 s.n).getD k .any) v
    rw [cat_get hp hl s.n 0 k hk', Nat.zero_add]
    exact hv
/-- Where the slices lie: 'd' is a block that stands. -/
noncomputable def plc (d : Nat) (s : SA) : Nat × Nat × Nat :=
  match s.v with
  | .slice (some a) n cap => if cap = 0 then (d, 0, 0) else (a.block, a.off, n * s.ts.length)
  | _ => (d, 0, 0)
noncomputable def emOf (d : Nat) (l : List SA) : EM := fun i => if i = 0 then none else (l[i - 1]?).map (plc d)
theorem emOf_get {d : Nat} {l : List SA} {i : Nat} {s : SA} (h : l[i]? = some s) : emOf d l (i + 1) = some (plc d s) := by
  unfold emOf
  rw [if_neg (by omega), Nat.add_sub_cancel, h]; rfl
theorem emOf_none {d : Nat} {l : List SA} {i : Nat} (h : l.length + 1 ≤ i) : emOf d l i = none := by
  unfold emOf
  rw [if_neg (by omega), List.getElem?_eq_none (by omega)]; rfl
def rdOf : List SA → Nat → List (Nat × Seg)
  | [], _ => []
  | s :: l, i => (i, s.seg) :: rdOf l (i + 1)
theorem findS_rdOf : ∀ {l : List SA} {i j : Nat} {g : Seg}, findS j (rdOf l i) = some g → i ≤ j ∧ ∃ s, l[j - i]? = some s ∧ g = s.seg
  | [], i, j, g, h => by cases h
  | s :: l, i, j, g, h => by
    simp only [rdOf, findS] at h
    split at h
    · rename_i hb; cases h
      rw [beqN] at hb; subst hb
      exact ⟨Nat.le_refl _, s, by simp, rfl⟩
    · obtain ⟨h1, s', h2, h3⟩ := findS_rdOf h
      refine ⟨by omega, s', ?_, h3⟩
      rw [show j - i = (j - (i + 1)) + 1 by omega, List.getElem?_cons_succ]; exact h2
theorem SA.rel {w : World} {d : Nat} {l : List SA} {s : SA} {i : Nat} (hi : l[i]? = some s) (h : s.ok w) : RelC (emOf d l) (s.arg (i + 1)) s.v := by
  obtain ⟨b, cap, hv, h1, h2, h3⟩ := h.len
  refine ⟨b, s.n, cap, hv, rfl, h1, h3, fun a ha => ⟨by omega, ?_⟩⟩
  subst ha
  refine ⟨(plc d s).1, (plc d s).2.1, (plc d s).2.2, emOf_get hi, fun hcap => ?_, fun hf => by cases hf⟩
  rcases h.none_ with ⟨b, h0⟩ | ⟨b, o, cap', cs, T, fr, hv', hne, hh, hfit, hc⟩
  · rw [hv] at h0; cases h0; exact absurd rfl hcap
  · rw [hv] at hv'; cases hv'
    unfold plc; rw [hv]
    simp [hcap]
/-- A block stands. -/
def Stands (w : World) (d : Nat) : Prop := ∃ cs T fr, w.heap[d]? = some (.cells cs T fr)
theorem SA.segAt {w : World} {d : Nat} {E : EM} {s : SA} (hp : 0 < s.ts.length) (h : s.ok w) (hd : Stands w d) : ∃ cs T fr, SegAt E (plc d s).1 (plc d s).2.1 (plc d s).2.2 s.seg w cs T fr := by
  rcases h.none_ with ⟨b, h0⟩ | ⟨b, o, cap', cs, T, fr, hv', hne, hh, hfit, hc⟩
  · obtain ⟨cs, T, fr, hd⟩ := hd
    have hn : s.n = 0 := by
      obtain ⟨b', cap, hv, h1, _⟩ := h.len
      rw [h0] at hv; cases hv; omega
    have hpl : plc d s = (d, 0, 0) := by
      unfold plc; rw [h0]; cases b <;> simp
    have hl : s.seg.body.len = 0 := by
      show s.ts.length * (s.n : Int).toNat = 0
      rw [hn]; simp
    rw [hpl]
    exact ⟨cs, T, fr, hd, by rw [hl]; exact Nat.le_refl _, by simp, fun ho => (by cases ho), fun hr => (by cases hr), fun k hk => (by rw [hl] at hk; omega)⟩
  · have hpl : plc d s = (b, o, s.n * s.ts.length) := by
      unfold plc; rw [hv']; simp [hne]
    have hl : s.seg.body.len = s.ts.length * s.n := by
      show s.ts.length * (s.n : Int).toNat = _
      rw [Int.toNat_natCast]
    rw [hpl]
    refine ⟨cs, T, fr, hh, by rw [hl, Nat.mul_comm]; exact Nat.le_refl _, hfit, fun ho => (by cases ho), fun hr => (by cases hr), fun k hk => ?_⟩
    rw [hl] at hk
    obtain ⟨u, h1, h2⟩ := hc E k hk
    exact ⟨u, h1, h2⟩
/-- The memory that slices lead to. -/
theorem mem_of {w : World} {d : Nat} {l : List SA} (h : ∀ s ∈ l, s.ok w ∧ 0 < s.ts.length) (hd : Stands w d)
    : MemRel w (Tch (emOf d l) (rdOf l 1)) (emOf d l) (fun i => findS i (rdOf l 1)) w := by
  have ro : ∀ i g, findS i (rdOf l 1) = some g → g.rw = false := fun i g hg => by
    obtain ⟨_, s, _, rfl⟩ := findS_rdOf hg; rfl
  have htab := tab_none w
  refine ⟨fun i g hg => ?_, fun i j g k b o z b' o' z' _ hg hk hr => ?_, fun i g b o z hg hr => ?_, Fr.refl _ _, htab, fun b k _ ⟨i, g, o, z, hg, hr, _⟩ => by rw [ro i g hg] at hr; cases hr⟩
  · obtain ⟨h1, s, h2, rfl⟩ := findS_rdOf hg
    obtain ⟨h3, h4⟩ := h s (List.mem_of_getElem? h2)
    obtain ⟨cs, T, fr, h5⟩ := SA.segAt (E := emOf d l) h4 h3 hd
    refine ⟨_, _, _, cs, T, fr, ?_, h5⟩
    have := emOf_get (d := d) h2
    rw [show i - 1 + 1 = i by omega] at this
    exact this
  · rw [ro i g hg, ro j k hk] at hr
    rcases hr with hr | hr <;> cases hr
  · rw [ro i g hg] at hr; cases hr
/-- One of some slices leads to a block, or none has a cell. -/
theorem stands_or {w : World} {l : List SA} (h : ∀ s ∈ l, s.ok w) : (∃ d, Stands w d) ∨ ∀ s ∈ l, s.n = 0 := by
  by_cases hd : ∃ d, Stands w d
  · exact .inl hd
  · refine .inr fun s hs => ?_
    rcases (h s hs).none_ with ⟨b, h0⟩ | ⟨b, o, cap', cs, T, fr, _, _, hh, _⟩
    · obtain ⟨b', cap, hv, h1, _⟩ := (h s hs).len
      rw [h0] at hv; cases hv; omega
    · exact absurd ⟨b, cs, T, fr, hh⟩ hd
/-- A slice without cells. -/
theorem SA.rel0 {w : World} {E : EM} {s : SA} {i : Nat} (h : s.ok w) (h0 : s.n = 0) (hd : ¬ ∃ d, Stands w d) (hi : i ≠ 0) (hE : E i = some (0, 0, 0)) : RelC E (.sl i 0 s.ts.length (.c 0) false) s.v := by
  obtain ⟨b, cap, hv, h1, h2, h3⟩ := h.len
  refine ⟨b, s.n, cap, hv, by rw [h0]; rfl, h1, h3, fun a ha => ⟨hi, 0, 0, 0, hE, fun hc => ?_, fun hf => by cases hf⟩⟩
  rcases h.none_ with ⟨b, h0⟩ | ⟨b, o, cap', cs, T, fr, _, _, hh, _⟩
  · rw [hv] at h0; cases h0; exact absurd rfl hc
  · exact absurd ⟨b, cs, T, fr, hh⟩ hd
end Go.Proofs.Ytaoeigofmfpamaa
end

/- What a run comes to, without its numbers. Nothing is assumed. -/
section
namespace Go.Proofs.Ytaoeigofmfpamaa
open Go Go.RowKit
noncomputable section

/-! ### rows of numbers -/
def flts : List SC → Option (List Nat)
  | [] => some []
  | .flt .f32 x :: l => match flts l with
    | some r => some (x :: r)
    | none => none
  | _ :: _ => none
theorem flts_ok : ∀ {l : List SC} {xs : List Nat}, flts l = some xs → l = xs.map (SC.flt .f32 ·)
  | [], xs, h => by cases h; rfl
  | .flt .f32 x :: l, xs, h => by
    simp only [flts] at h
    split at h <;> cases h
    rename_i r hr
    rw [flts_ok hr]; rfl
  | .flt .f64 _ :: _, _, h => by cases h
  | .any :: _, _, h => by cases h
  | .bool _ :: _, _, h => by cases h
  | .int _ _ :: _, _, h => by cases h
  | .str _ :: _, _, h => by cases h
  | .nilp :: _, _, h => by cases h
  | .ptr _ _ :: _, _, h => by cases h
  | .ptrx _ _ _ _ _ :: _, _, h => by cases h
  | .ptrr _ _ _ _ :: _, _, h => by cases h
  | .sl _ _ _ _ _ :: _, _, h => by cases h
  | .slr _ _ _ _ :: _, _, h => by cases h
def rE (n : Nat) : Option CEff → Option (SV × List Bool)
  | some e => match Nat.ble n e.next with
    | true => some (e.ret, e.obs)
    | false => none
  | none => none
theorem rE_some {n : Nat} {x : Option CEff} {r : SV} {ob : List Bool} (h : rE n x = some (r, ob)) : ∃ e, x = some e ∧ e.ret = r ∧ e.obs = ob ∧ Nat.ble n e.next = true := by
  cases x with
  | none => cases h
  | some e =>
    simp only [rE] at h
    cases hb : Nat.ble n e.next with
    | true => rw [hb] at h; cases h; exact ⟨e, rfl, rfl, rfl, hb⟩
    | false => rw [hb] at h; cases h
theorem gS_of2 {P : Program} {f : FuncId} {S : CS} (h : CallOK P f S) {G : List SV → Option SV} (hG : ∀ args r (E : EM) vals, G args = some r → RelVs E args vals → flatVs args = true ∧ ∃ r0 ob, rE 1 (S 1 args []) = some (r0, ob) ∧ flatV r0 = true ∧ AllT ob ∧ ∀ E v, RelV E r0 v → RelV E r v) : CallOK P f (gS G) :=
  gS_of h fun args r E vals hr hv => by
    obtain ⟨h1, r0, ob, h2, h3, h4, h5⟩ := hG args r E vals hr hv
    obtain ⟨e, e1, e2, e3, e4⟩ := rE_some h2
    subst e2; subst e3
    exact ⟨h1, e, e1, h3, e4, h4, h5⟩
theorem gQ_of2 {P : Program} {f : FuncId} {S : CS} (h : CallOK P f S) {sh : List Shp} {G : List SV → Option SV}
    (hG : ∀ dl r (E : EM), G dl = some r → (∀ v ∈ dl, ∃ u, RelV E v u) → ∃ r0 ob, rE (cntP sh + 1) (S (cntP sh + 1) (canA sh dl 1) (canR sh dl 1)) = some (r0, ob) ∧ flatV r0 = true ∧ AllT ob ∧ ∀ E v, RelV E r0 v → RelV E r v) : CallOK P f (gQ sh G) :=
  gQ_of h fun dl r E hr hv => by
    obtain ⟨r0, ob, h2, h3, h4, h5⟩ := hG dl r E hr hv
    obtain ⟨e, e1, e2, e3, e4⟩ := rE_some h2
    subst e2; subst e3
    exact ⟨e, e1, h3, e4, h4, h5⟩
/-- A law whose arguments lead to no memory. -/
theorem law_of2 {P : Program} {f : FuncId} {S : CS} (h : CallOK P f S) {fn : Func} (hf : P.funcs[f]? = some fn) (hname : (fn.name == "runtime.NumGoroutine") = false) (hb : fn.body.isSome = true) {args : List SV} {vals : Array Value} {b : Bool} {ob : List Bool}
    (he : rE 1 (S 1 args []) = some (.c (.bool (.s b)), ob)) (hob : AllT ob) (hbv : b = true) (hvals : RelVs (fun _ => none) args vals.toList) (w : World)
    :
    Calls P f vals w fun e w' => e = .returned (.bool true) ∧ Grown w w' := by
  obtain ⟨e, e1, e2, e3, e4⟩ := rE_some he
  subst e3
  exact law_of h hf hname hb e1 hob e2 hbv (Nat.le_of_ble_eq_true e4) hvals w
/-- What is at a place of a result. -/
def seAt (r : Option (SV × List Bool)) (j : Nat) : Option SE :=
  match r with
  | some (.tup l, _) => l[j]?
  | some (.c x, _) => some (.c x)
  | some (.a l, _) => some (.a l)
  | _ => none
def fltAt (r : Option (SV × List Bool)) (j : Nat) : Nat :=
  match seAt r j with
  | some (.c (.flt _ x)) => x
  | _ => 0
def intAt (r : Option (SV × List Bool)) (j : Nat) : Int :=
  match seAt r j with
  | some (.c (.int _ n)) => n.val
  | _ => 0
def boolAt (r : Option (SV × List Bool)) (j : Nat) : Bool :=
  match seAt r j with
  | some (.c (.bool b)) => b.val
  | _ => true
def fltsAt (r : Option (SV × List Bool)) (j : Nat) : Nat → Nat :=
  match seAt r j with
  | some (.a l) => fun i => match l[i]? with
    | some (.flt _ x) => x
    | _ => 0
  | _ => fun _ => 0
/-- It is plain, and nothing is left to show. -/
def plainR (r : Option (SV × List Bool)) : Bool :=
  match r with
  | some (v, []) => flatV v
  | _ => false
theorem plainR_some {r : Option (SV × List Bool)} (h : plainR r = true) : ∃ v, r = some (v, []) ∧ flatV v = true := by
  unfold plainR at h
  split at h
  · rename_i v; exact ⟨v, rfl, h⟩
  · cases h
/-- A contract that is the run itself. -/
def runG (r : List SV → Option (SV × List Bool)) : List SV → Option SV := fun args => (r args).map (·.1)
theorem runG_ok {P : Program} {f : FuncId} {S : CS} (h : CallOK P f S) {r : List SV → Option (SV × List Bool)} (hr : ∀ args x, r args = some x → flatVs args = true ∧ rE 1 (S 1 args []) = some x ∧ flatV x.1 = true ∧ x.2 = []) : CallOK P f (gS (runG r)) :=
  gS_of2 h fun args v E vals hv _ => by
    unfold runG at hv
    cases hx : r args with
    | none => rw [hx] at hv; cases hv
    | some x =>
      rw [hx] at hv; cases hv
      obtain ⟨h1, h2, h3, h4⟩ := hr args x hx
      exact ⟨h1, x.1, x.2, h2, h3, by rw [h4]; exact AllT.nil, fun _ _ h => h⟩
theorem runG_ok' {P : Program} {f : FuncId} {S : CS} (h : CallOK P f S) {r : List SV → Option (SV × List Bool)} (hr : ∀ args x (E : EM) vals, r args = some x → RelVs E args vals → flatVs args = true ∧ rE 1 (S 1 args []) = some x ∧ flatV x.1 = true ∧ x.2 = []) : CallOK P f (gS (runG r)) :=
  gS_of2 h fun args v E vals hv hrel => by
    unfold runG at hv
    cases hx : r args with
    | none => rw [hx] at hv; cases hv
    | some x =>
      rw [hx] at hv; cases hv
      obtain ⟨h1, h2, h3, h4⟩ := hr args x E vals hx hrel
      exact ⟨h1, x.1, x.2, h2, h3, by rw [h4]; exact AllT.nil, fun _ _ h => h⟩
end
end Go.Proofs.Ytaoeigofmfpamaa
end

/- Rows of numbers, and the loops that run over them. Nothing is assumed. -/
section
namespace Go.Proofs.Ytaoeigofmfpamaa
open Go
noncomputable section
/-- A proposition as a test. -/
def pB (p : Prop) : Bool := @decide p (Classical.propDecidable p)
theorem pB_iff {p : Prop} : pB p = true ↔ p := @decide_eq_true_iff p (Classical.propDecidable p)
def fltC : SC → Nat
  | .flt _ x => x
  | _ => 0
def intC : SC → Int
  | .int _ n => n.val
  | _ => 0
def datF (row : Int → List SC) (c : Nat) (j : Int) : Nat := fltC ((row j).getD c .any)
def datG (row : Int → List SC) (c : Nat) (j : Int) : Int := intC ((row j).getD c .any)
def noB : Nat → Int → Bool := fun _ _ => true
/-- Rows with the kinds 'ts'. -/
def rowK (ts : List KK) (F : Nat → Int → Nat) (G : Nat → Int → Int) (j : Int) : List SC := mkL (fun c => F c j) (fun c => G c j) (fun _ => true) ts 0
theorem rowK_flat (ts : List KK) (F : Nat → Int → Nat) (G : Nat → Int → Int) : flatR (rowK ts F G) = true :=
  @decide_eq_true _ (Classical.propDecidable _) fun _ => mkL_flat _ _ _ _ _
def Shape (ts : List KK) (row : Int → List SC) : Prop := row = rowK ts (datF row) (datG row)
def clF (n : Int) (F : Nat → Int → Nat) (c : Nat) (j : Int) : Nat := bif decide (0 ≤ j) && decide (j < n) then F c j else 0
def clG (n : Int) (F : Nat → Int → Int) (c : Nat) (j : Int) : Int := bif decide (0 ≤ j) && decide (j < n) then F c j else 0
theorem clF_step {k : Int} (hk : 0 ≤ k) (F : Nat → Int → Nat) : (fun c j => bif decide (j = k) then F c k else clF k F c j) = clF (k + 1) F := by
  funext c j
  unfold clF
  by_cases e : j = k
  · subst e
    have h1 : j < j + 1 := by omega
    simp [hk, h1]
  · rw [decide_eq_false e]
    by_cases h : j < k
    · rw [decide_eq_true h, decide_eq_true (by omega : j < k + 1)]; rfl
    · rw [decide_eq_false h, decide_eq_false (by omega : ¬ j < k + 1)]; rfl
theorem clG_step {k : Int} (hk : 0 ≤ k) (F : Nat → Int → Int) : (fun c j => bif decide (j = k) then F c k else clG k F c j) = clG (k + 1) F := by
  funext c j
  unfold clG
  by_cases e : j = k
  · subst e
    have h1 : j < j + 1 := by omega
    simp [hk, h1]
  · rw [decide_eq_false e]
    by_cases h : j < k
    · rw [decide_eq_true h, decide_eq_true (by omega : j < k + 1)]; rfl
    · rw [decide_eq_false h, decide_eq_false (by omega : ¬ j < k + 1)]; rfl
theorem clF_zero (F : Nat → Int → Nat) : clF 0 F = fun _ _ => 0 := by
  funext c j
  unfold clF
  by_cases h : 0 ≤ j
  · rw [decide_eq_false (by omega : ¬ j < 0), Bool.and_false]; rfl
  · rw [decide_eq_false h]; rfl
theorem clG_zero (F : Nat → Int → Int) : clG 0 F = fun _ _ => 0 := by
  funext c j
  unfold clG
  by_cases h : 0 ≤ j
  · rw [decide_eq_false (by omega : ¬ j < 0), Bool.and_false]; rfl
  · rw [decide_eq_false h]; rfl
theorem wrap_succ {k : Int} (h0 : 0 ≤ k) (h1 : k ≤ 100000000) : IntKind.i64.wrap (k + 1) = k + 1 := wrap_small (by omega) (by omega)
def bodyOf (fn : Func) (id : Nat) : Code :=
  match fn.body with
  | some c => match loopAt id (loopsIn c) with
    | some b => b
    | none => .skip
  | none => .skip
theorem bodyOf_at {fn : Func} {c : Code} (hc : fn.body = some c) {id : Nat} (h : (match loopAt id (loopsIn c) with | some _ => true | none => false) = true) : loopAt id (loopsIn c) = some (bodyOf fn id) := by
  unfold bodyOf
  rw [hc]
  cases hl : loopAt id (loopsIn c) with
  | some b => simp only [hl]
  | none => rw [hl] at h; cases h
/-- A hint, or else the loop run through. -/
def orIter (cx : Cx) (N : Nat) (b : Code) (L : List Ly → Top → Option Outs) : List Ly → Top → Option Outs := fun R T =>
  match L R T with
  | some o => some o
  | none => iter (sx cx N noH b) R 60 T
theorem orIter_ok {P : Program} {l : List (Nat × CS)} (ha : AllOK P l) (hmx : P.follows .mixedOrders = true) (n : Nat) {N : Nat} {b : Code} {L : List Ly → Top → Option Outs} (h : CodeOK P N (.loop b) L) : CodeOK P N (.loop b) (orIter ⟨P, fops, orcN P fops l n⟩ N b L) := by
  intro R T o ho hob
  unfold orIter at ho
  split at ho
  · rename_i o' h'
    cases ho
    exact h R T _ h' hob
  · exact loop_ok (body_ok ha hmx n b (fun _ => none)) 60 R T o ho hob
/-- All up to 'm', from 'k' on. -/
def eqFrom (q : Int → Bool) : Int → Nat → Bool
  | _, 0 => true
  | k, m + 1 => bif q k then eqFrom q (k + 1) m else false
theorem eqFrom_all {q : Int → Bool} (h : ∀ k, q k = true) : ∀ (m : Nat) (k : Int), eqFrom q k m = true
  | 0, _ => rfl
  | m + 1, k => by
    show (bif q k then eqFrom q (k + 1) m else false) = true
    rw [h k, cond_true]; exact eqFrom_all h m (k + 1)
/-- Counting on. -/
def wr (q : Int) : Nat → Int
  | 0 => q
  | c + 1 => IntKind.i64.wrap (wr q c + 1)
theorem wr_eq {q : Int} (h0 : 0 ≤ q) : ∀ {c : Nat}, q + c ≤ 100000000000 → wr q c = q + c
  | 0, _ => by simp [wr]
  | c + 1, h => by
    have h' : q + c ≤ 100000000000 := by omega
    show IntKind.i64.wrap (wr q c + 1) = _
    rw [wr_eq h0 h', wrap_small (by omega) (by omega)]
    omega
theorem AllT.rep {b : Bool} (h : b = true) (n : Nat) : AllT (List.replicate n b) := fun c hc => by rw [List.eq_of_mem_replicate hc, h]
theorem AllT.app {l m : List Bool} (h : AllT l) (h' : AllT m) : AllT (l ++ m) := fun c hc => by
  rcases List.mem_append.1 hc with hc | hc
  · exact h c hc
  · exact h' c hc
end
end Go.Proofs.Ytaoeigofmfpamaa
end

/- A loop whose rounds have contexts of their own. Nothing is assumed. -/
section
namespace Go.Proofs.Ytaoeigofmfpamaa
open Go
noncomputable section
/-- From data at the loop's head to a way out and its data; each round in a context of its own. -/
inductive LoopsX (P : Program) (N : Nat) (x : Code) (nx0 mx : Nat) (sk : Sk) : List LD → XK → Sk → List LD → Prop where
  | step {cx : Cx} {h : Hn} {p p' : List LD} {xk : XK} {skE : Sk} {pE : List LD} {ρ : List (Nat × Nat)} {ob : List Bool} : CodeOK P N x (sx cx N h x) → goL cx N h x nx0 mx sk ρ sk p = some (none, p', ob) → AllT ob → LoopsX P N x nx0 mx sk p' xk skE pE → LoopsX P N x nx0 mx sk p xk skE pE
  | done {cx : Cx} {h : Hn} {p : List LD} {xk : XK} {skE : Sk} {pE : List LD} {ρ : List (Nat × Nat)} {ob : List Bool} : CodeOK P N x (sx cx N h x) → goL cx N h x nx0 mx sk ρ skE p = some (some xk, pE, ob) → AllT ob → LoopsX P N x nx0 mx sk p xk skE pE
  | stepJ {cx : Cx} {h : Hn} {p p' : List LD} {xk : XK} {skE : Sk} {pE : List LD} {j : Nat} {ρ : List (Nat × Nat)} {ob : List Bool} : CodeOK P N x (sx cx N h x) → goJ cx N h x j nx0 mx sk ρ sk p = some (none, p', ob) → AllT ob → LoopsX P N x nx0 mx sk p' xk skE pE → LoopsX P N x nx0 mx sk p xk skE pE
  | doneJ {cx : Cx} {h : Hn} {p : List LD} {xk : XK} {skE : Sk} {pE : List LD} {j : Nat} {ρ : List (Nat × Nat)} {ob : List Bool} : CodeOK P N x (sx cx N h x) → goJ cx N h x j nx0 mx sk ρ skE p = some (some xk, pE, ob) → AllT ob → LoopsX P N x nx0 mx sk p xk skE pE
section
variable {P : Program} {N : Nat} {x : Code} {nx0 mx : Nat} {sk : Sk}
theorem loopsX_wp {Lim : Rg} {w0 : World} {T0 : Nat → Nat → Prop} {E0 : EM} {p : List LD} {xk : XK} {skE : Sk} {pE : List LD} (hL : LoopsX P N x nx0 mx sk p xk skE pE)
    (h3 : mx ≤ Lim.lim) (h4 : ∀ i, nx0 ≤ i → i < Lim.lim → E0 i = none) (h5 : Lim.base ≤ nx0) {R : List Ly} {kt ks : List Nat} (hkt : ∀ t, t ∉ kt → getT R t = .undef) (hks : ∀ i, i ∉ ks → getS R i = none)
    {va : List (Nat × SV)} {vb : List (Nat × Option Seg)} {p' : List LD} (hva : bTs skE.tms pE = some (va, p')) (hvb : bSs skE.segs p' = some (vb, [])) :
    ∃ n, ∀ E a w, Ext E0 E → StR N Lim w0 T0 sk p E a w → Code.rounds P x (Post N Lim w0 T0 E0 R (some xk) (onT N kt ks mx va vb)) n a w := by
  induction hL with
  | done hx hgo hob =>
    refine ⟨1, fun E a w he hr => ?_⟩
    obtain ⟨g1, g2, g3, g4, g5, g6⟩ := goL_ok hx hgo hob he hr h3
    rw [rounds_succ]
    refine wp_mono g1 fun e a' w' hp => ?_
    obtain ⟨rfl, E', tm, sg, next, ob', he', hr', hm, hob', hn⟩ := hp
    obtain ⟨va', vb', p'', k1, k2, E'', k3, k4⟩ := on_srel (R := R) (kt := kt) (ks := ks) (nx := mx) hr' he' hm hob' g2 g4 g5 (Nat.le_trans g5 h3) (Nat.le_trans hn h3) h4 h5 g6 hkt hks
    rw [hva] at k1; cases k1
    rw [hvb] at k2; cases k2
    rename_i xk _ _ _ _
    have hP : Post N Lim w0 T0 E0 R (some xk) (onT N kt ks mx va vb) (exitOf (some xk)) a' w' := ⟨rfl, E'', k3, by rw [onT_next]; exact k4⟩
    cases xk <;> exact hP
  | step hx hgo hob _ ih =>
    obtain ⟨n, hn⟩ := ih hva hvb
    refine ⟨n + 1, fun E a w he hr => ?_⟩
    obtain ⟨g1, g2, g3, g4, g5, g6⟩ := goL_ok hx hgo hob he hr h3
    rw [rounds_succ]
    refine wp_mono g1 fun e a' w' hp => ?_
    obtain ⟨rfl, hp⟩ := hp
    obtain ⟨E', he', hr'⟩ := hp.st g2 g4 g5 h3 h4 h5 g6
    exact hn E' a' w' he' hr'
  | doneJ hx hgo hob =>
    refine ⟨1, fun E a w he hr => ?_⟩
    obtain ⟨g1, g2, g3, g4, g5, g6⟩ := goJ_ok hx hgo hob he hr h3
    rw [rounds_succ]
    refine wp_mono g1 fun e a' w' hp => ?_
    obtain ⟨rfl, E', tm, sg, next, ob', he', hr', hm, hob', hn⟩ := hp
    obtain ⟨va', vb', p'', k1, k2, E'', k3, k4⟩ := on_srel (R := R) (kt := kt) (ks := ks) (nx := mx) hr' he' hm hob' g2 g4 g5 (Nat.le_trans g5 h3) (Nat.le_trans hn h3) h4 h5 g6 hkt hks
    rw [hva] at k1; cases k1
    rw [hvb] at k2; cases k2
    rename_i xk _ _ _ _ _
    have hP : Post N Lim w0 T0 E0 R (some xk) (onT N kt ks mx va vb) (exitOf (some xk)) a' w' := ⟨rfl, E'', k3, by rw [onT_next]; exact k4⟩
    cases xk <;> exact hP
  | stepJ hx hgo hob _ ih =>
    obtain ⟨n, hn⟩ := ih hva hvb
    refine ⟨n + 1, fun E a w he hr => ?_⟩
    obtain ⟨g1, g2, g3, g4, g5, g6⟩ := goJ_ok hx hgo hob he hr h3
    rw [rounds_succ]
    refine wp_mono g1 fun e a' w' hp => ?_
    obtain ⟨rfl, hp⟩ := hp
    obtain ⟨E', he', hr'⟩ := hp.st g2 g4 g5 h3 h4 h5 g6
    exact hn E' a' w' he' hr'
theorem loopX_ok {ρ : List (Nat × Nat)} {F : List LD → Option (XO × List Bool)} 
    (hF : ∀ p r, F p = some r → AllT r.2 → ∃ xk skE pE, pickX r.1 = some (xk, skE, pE) ∧ LoopsX P N x nx0 mx sk p xk skE pE) : CodeOK P N (.loop x) (loopL N nx0 mx sk ρ F) := by
  intro R T o ho hob
  unfold loopL at ho
  split at ho <;> try (cases ho; done)
  rename_i hc
  simp only [Bool.and_eq_true, Nat.ble_eq, beqN] at hc
  obtain ⟨c1, c2, c3, c4, c5⟩ := hc
  obtain ⟨p, hm, ho⟩ := bindO_some ho
  obtain ⟨r, hr, ho⟩ := bindO_some ho
  obtain ⟨l, hl, hsel⟩ := exitsK_some ho
  cases hl
  obtain ⟨hob1, hob2⟩ := hob.append
  obtain ⟨xk, skE, pE, h1, h2⟩ := hF p.1 r hr hob2
  obtain ⟨va, vb, p', g1, g2, g3⟩ := hsel xk skE pE h1
  refine ⟨some xk, _, g3, by rw [onT_next]; omega, fun Lim w0 T0 E a w hs hlim => ?_⟩
  rw [onT_next] at hlim
  have hfresh : ∀ i, nx0 ≤ i → i < Lim.lim → E i = none := fun i hi1 hi2 => hs.fresh i (by omega) hi2
  have hbn : Lim.base ≤ nx0 := by have := hs.bn; omega
  obtain ⟨n, hn⟩ := loopsX_wp (w0 := w0) (T0 := T0) (E0 := E) h2 hlim hfresh hbn (R := R) (kt := keysT R) (ks := keysS R) (fun t => keysT_ok) (fun i => keysS_ok) g1 g2
  obtain ⟨va', vb', p'', k1, k2, E'', k3, k4⟩ := on_srel (R := []) (kt := []) (ks := []) (nx := sk.next) hs (Ext.refl E) hm hob1 c2 c3 (Nat.le_refl _) (by omega) (by omega) hfresh hbn c5 (fun _ _ => rfl) (fun _ _ => rfl)
  exact wp_loop_rounds n (hn E'' a w k3 ⟨va', vb', p'', k1, k2, k4⟩)
end
/-- A loop's body, some of whose own loops are told of. -/
theorem bodyL_ok {P : Program} {l : List (Nat × CS)} (ha : AllOK P l) (hmx : P.follows .mixedOrders = true) (n : Nat) {N : Nat} {x : Code} (ts : Nat → Option Bool) {ls : LS} (h1 : onceB (loopsIn x) = true) (h2 : LoopsOK P N x ls) : CodeOK P N x (sx ⟨P, fops, orcN P fops l n⟩ N ⟨ts, lpOf ls⟩ x) :=
  sx_ok (cx := ⟨P, fops, orcN P fops l n⟩) rfl (orcN_ok ha hmx n) hmx x (fun b hm L h => by
    obtain ⟨b', k1, k2⟩ := h2.get _ L h
    rw [loopAt_mem h1 hm] at k1
    cases k1
    exact k2)
end
end Go.Proofs.Ytaoeigofmfpamaa
end

/- A contract of a function that only reads what is handed to it: nothing of it changes. Nothing is assumed. -/
section
namespace Go.Proofs.Ytaoeigofmfpamaa
open Go
noncomputable section

def roSeg (p : Nat × Seg) : Nat × Seg := (p.1, ⟨false, false, p.2.body⟩)
def roL (l : List (Nat × Seg)) : List (Nat × Seg) := List.rec (motive := fun _ => List (Nat × Seg)) [] (fun p _ ih => roSeg p :: ih) l
/-- 'S', handed what may only be read. -/
def roS (S : CS) : CS := fun base args rd => bindO (S base args (roL rd)) fun e => match flatV e.ret with
  | true => some ⟨e.ret, [], e.next, e.obs⟩
  | false => none
theorem roL_find {i : Nat} {g' : Seg} : ∀ {rd : List (Nat × Seg)}, findS i (roL rd) = some g' → ∃ g, findS i rd = some g ∧ g' = ⟨false, false, g.body⟩
  | [], h => by cases h
  | (j, g) :: l, h => by
    have h' : (match Nat.beq i j with | true => some (⟨false, false, g.body⟩ : Seg) | false => findS i (roL l)) = some g' := h
    show ∃ g1, (match Nat.beq i j with | true => some g | false => findS i l) = some g1 ∧ _
    cases hb : Nat.beq i j with
    | true =>
      rw [hb] at h'
      cases h'
      exact ⟨g, rfl, rfl⟩
    | false =>
      rw [hb] at h'
      exact roL_find h'
theorem CallOK.ro {P : Program} {f : FuncId} {S : CS} (h : CallOK P f S) : CallOK P f (roS S) := by
  intro E base args vals rd w e hs hob hargs hb1 hbe hfr hmem
  unfold roS at hs
  obtain ⟨e0, he, hs⟩ := bindO_some hs
  split at hs <;> cases hs
  rename_i hfl
  have hT : ∀ b k, ¬ Tch E (roL rd) b k := fun b k ⟨i, g, o, z, q1, q2, _⟩ => by
    obtain ⟨g0, _, rfl⟩ := roL_find q1
    cases q2
  have hm1 : MemRel w (Tch E (roL rd)) E (fun i => findS i (roL rd)) w := by
    refine ⟨fun i g hg => ?_, fun i j g k b o z b' o' z' _ hg hk hrw => ?_, fun i g b o z hg hrw => ?_, Fr.refl _ _, hmem.tab.1, fun b k _ => hT b k⟩
    · obtain ⟨g0, hg0, rfl⟩ := roL_find hg
      obtain ⟨b, o, z, cs, T, fr, q1, q2⟩ := hmem.segs i g0 hg0
      exact ⟨b, o, z, cs, T, fr, q1, ⟨q2.heap, q2.le, q2.fit, fun h => (by cases h), fun h => (by cases h), q2.cell⟩⟩
    · obtain ⟨g0, _, rfl⟩ := roL_find hg
      obtain ⟨g1, _, rfl⟩ := roL_find hk
      rcases hrw with hrw | hrw <;> cases hrw
    · obtain ⟨g0, _, rfl⟩ := roL_find hg
      cases hrw
  refine (h E base args vals (roL rd) w e0 he hob hargs hb1 hbe hfr hm1).mono fun v w' hp => ?_
  obtain ⟨E', k1, k2, k3, k4⟩ := hp
  have hfr' := k4.fr
  refine ⟨E, Ext.refl E, fun i hi => .inl hi, flatV_ok hfl k3, ?_⟩
  have hseg : ∀ i g, findS i rd = some g → ∃ b o z cs T fr, E i = some (b, o, z) ∧ SegAt E b o z g w' cs T fr := by
    intro i g hg
    obtain ⟨b, o, z, cs, T, fr, q1, q2⟩ := hmem.segs i g hg
    obtain ⟨cs', q3⟩ := q2.frame hfr' (fun k _ _ => hT b k)
    exact ⟨b, o, z, cs', T, fr, q1, q3⟩
  refine ⟨fun i g hg => hseg i g hg, hmem.disj, hmem.tch, ?_, hmem.tab⟩
  refine ⟨hfr'.os, hfr'.out, hfr'.size, fun b hb => ?_, hfr'.frz⟩
  rcases hfr'.old b hb with ⟨cs, t, fr, cs', q1, q2, q3, q4⟩ | q1
  · exact .inl ⟨cs, t, fr, cs', q1, q2, q3, fun j _ => q4 j (hT b j)⟩
  · exact .inr q1
end
end Go.Proofs.Ytaoeigofmfpamaa
end

/- Contracts told by hand: what a call gives and asks for, in short. Nothing is assumed. -/
section
namespace Go.Proofs.Ytaoeigofmfpamaa
open Go
noncomputable section

/-- 'H' tells the same as 'S', and asks for enough. -/
theorem CallOK.hand {P : Program} {f : FuncId} {S H : CS} (h : CallOK P f S) (hH : ∀ b args rd e, H b args rd = some e → AllT e.obs → ∃ ob, S b args rd = some ⟨e.ret, e.ws, e.next, ob⟩ ∧ AllT ob) : CallOK P f H := by
  intro E base args vals rd w e hs hob hargs hb1 hbe hfr hmem
  obtain ⟨ob, h1, h2⟩ := hH _ _ _ _ hs hob
  exact h E base args vals rd w ⟨e.ret, e.ws, e.next, ob⟩ h1 h2 hargs hb1 hbe hfr hmem
/-- One contract, or else another one. -/
def orS (S1 S2 : CS) : CS := fun b args rd => match S1 b args rd with
  | some e => some e
  | none => S2 b args rd
theorem CallOK.or {P : Program} {f : FuncId} {S1 S2 : CS} (h1 : CallOK P f S1) (h2 : CallOK P f S2) : CallOK P f (orS S1 S2) := by
  intro E base args vals rd w e hs hob hargs hb1 hbe hfr hmem
  unfold orS at hs
  split at hs
  · rename_i he
    cases hs
    exact h1 E base args vals rd w _ he hob hargs hb1 hbe hfr hmem
  · exact h2 E base args vals rd w _ hs hob hargs hb1 hbe hfr hmem

/-! ### what is handed over is only read, what is new stays -/
def newOnly (base : Nat) (l : List (Nat × Option Seg)) : List (Nat × Option Seg) :=
  List.rec (motive := fun _ => List (Nat × Option Seg)) [] (fun p _ ih => match Nat.ble base p.1 with
    | true => p :: ih
    | false => ih) l
def newOk1 (base : Nat) (p : Nat × Option Seg) : Bool :=
  match p.2 with
  | some g => match Nat.ble base p.1 with
    | true => g.rw
    | false => true
  | none => Nat.ble base p.1
def newOk (base : Nat) (l : List (Nat × Option Seg)) : Bool :=
  List.rec (motive := fun _ => Bool) true (fun p _ ih => newOk1 base p && ih) l
def nwS (S : CS) : CS := fun base args rd => match (fstsN rd).all (fun i => Nat.ble (i + 1) base) with
  | true => bindO (S base args (roL rd)) fun e => match newOk base e.ws with
    | true => some ⟨e.ret, newOnly base e.ws, e.next, e.obs⟩
    | false => none
  | false => none
theorem findS_mem {i : Nat} {g : Seg} : ∀ {rd : List (Nat × Seg)}, findS i rd = some g → i ∈ fstsN rd
  | [], h => by cases h
  | (j, s) :: l, h => by
    have h' : (match Nat.beq i j with | true => some s | false => findS i l) = some g := h
    cases hb : Nat.beq i j with
    | true => rw [beqN.1 hb]; simp [fstsN]
    | false =>
      rw [hb] at h'
      exact List.mem_cons_of_mem _ (findS_mem h')
theorem roL_find' {i : Nat} {g : Seg} : ∀ {rd : List (Nat × Seg)}, findS i rd = some g → findS i (roL rd) = some ⟨false, false, g.body⟩
  | [], h => by cases h
  | (j, s) :: l, h => by
    have h' : (match Nat.beq i j with | true => some s | false => findS i l) = some g := h
    show (match Nat.beq i j with | true => some (⟨false, false, s.body⟩ : Seg) | false => findS i (roL l)) = _
    cases hb : Nat.beq i j with
    | true => rw [hb] at h'; cases h'; rfl
    | false =>
      rw [hb] at h'
      exact roL_find' h'
theorem newOnly_lt {base : Nat} {i : Nat} (hi : i < base) : ∀ (l : List (Nat × Option Seg)) (f : Nat → Option Seg), updSs f (newOnly base l) i = f i
  | [], f => rfl
  | (j, v) :: l, f => by
    show updSs f (match Nat.ble base j with | true => (j, v) :: newOnly base l | false => newOnly base l) i = f i
    cases hb : Nat.ble base j with
    | true =>
      have hj : base ≤ j := Nat.le_of_ble_eq_true hb
      show updSs (upd f j v) (newOnly base l) i = f i
      rw [newOnly_lt hi l, upd_other _ _ (by omega)]
    | false => exact newOnly_lt hi l f
theorem newOnly_ge {base : Nat} {i : Nat} (hi : base ≤ i) : ∀ (l : List (Nat × Option Seg)) (f g : Nat → Option Seg), f i = g i → updSs f (newOnly base l) i = updSs g l i
  | [], f, g, h => h
  | (j, v) :: l, f, g, h => by
    show updSs f (match Nat.ble base j with | true => (j, v) :: newOnly base l | false => newOnly base l) i = updSs (upd g j v) l i
    cases hb : Nat.ble base j with
    | true =>
      show updSs (upd f j v) (newOnly base l) i = _
      refine newOnly_ge hi l _ _ ?_
      by_cases e : i = j
      · subst e; rw [upd_same, upd_same]
      · rw [upd_other _ _ e, upd_other _ _ e]; exact h
    | false =>
      have hj : i ≠ j := fun e => by
        subst e
        rw [Nat.ble_eq_true_of_le hi] at hb; cases hb
      refine newOnly_ge hi l _ _ ?_
      rw [upd_other _ _ hj]; exact h
theorem newOk_mem {base : Nat} : ∀ {l : List (Nat × Option Seg)}, newOk base l = true → ∀ p ∈ l, newOk1 base p = true
  | [], _, p, h => by cases h
  | q :: l, h, p, hp => by
    have h' : (newOk1 base q && newOk base l) = true := h
    rw [Bool.and_eq_true] at h'
    rcases List.mem_cons.1 hp with rfl | hp
    · exact h'.1
    · exact newOk_mem h'.2 p hp
theorem CallOK.nw {P : Program} {f : FuncId} {S : CS} (h : CallOK P f S) : CallOK P f (nwS S) := by
  intro E base args vals rd w e hs hob hargs hb1 hbe hfr hmem
  unfold nwS at hs
  split at hs <;> try (cases hs; done)
  rename_i hlt
  obtain ⟨e0, he, hs⟩ := bindO_some hs
  split at hs <;> cases hs
  rename_i hok
  have hrd : ∀ i g, findS i rd = some g → i < base := fun i g hg => by
    have := List.all_eq_true.1 hlt i (findS_mem hg)
    exact Nat.le_of_ble_eq_true this
  have hT : ∀ b k, ¬ Tch E (roL rd) b k := fun b k ⟨i, g, o, z, q1, q2, _⟩ => by
    obtain ⟨g0, _, rfl⟩ := roL_find q1
    cases q2
  have hm1 : MemRel w (Tch E (roL rd)) E (fun i => findS i (roL rd)) w := by
    refine ⟨fun i g hg => ?_, fun i j g k b o z b' o' z' _ hg hk hrw => ?_, fun i g b o z hg hrw => ?_, Fr.refl _ _, hmem.tab.1, fun b k _ => hT b k⟩
    · obtain ⟨g0, hg0, rfl⟩ := roL_find hg
      obtain ⟨b, o, z, cs, T, fr, q1, q2⟩ := hmem.segs i g0 hg0
      exact ⟨b, o, z, cs, T, fr, q1, ⟨q2.heap, q2.le, q2.fit, fun h => (by cases h), fun h => (by cases h), q2.cell⟩⟩
    · obtain ⟨g0, _, rfl⟩ := roL_find hg
      obtain ⟨g1, _, rfl⟩ := roL_find hk
      rcases hrw with hrw | hrw <;> cases hrw
    · obtain ⟨g0, _, rfl⟩ := roL_find hg
      cases hrw
  refine (h E base args vals (roL rd) w e0 he hob hargs hb1 hbe hfr hm1).mono fun v w' hp => ?_
  obtain ⟨E', k1, k2, k3, k4⟩ := hp
  have hfr' := k4.fr
  refine ⟨E', k1, k2, k3, ?_⟩
  -- the last state of a segment, by its id
  have hge : ∀ i, base ≤ i → updSs (fun i => findS i rd) (newOnly base e0.ws) i = updSs (fun i => findS i (roL rd)) e0.ws i := fun i hi => newOnly_ge hi _ _ _ (by
    have h1 : findS i rd = none := by
      cases hf : findS i rd with
      | none => rfl
      | some g => exact absurd (hrd i g hf) (by omega)
    have h2 : findS i (roL rd) = none := by
      cases hf : findS i (roL rd) with
      | none => rfl
      | some g =>
        obtain ⟨g0, h3, _⟩ := roL_find hf
        rw [h1] at h3; cases h3
    show findS i rd = findS i (roL rd)
    rw [h1, h2])
  have hlo : ∀ i, i < base → updSs (fun i => findS i rd) (newOnly base e0.ws) i = findS i rd := fun i hi => newOnly_lt hi _ _
  have hin : ∀ i g, i < base → findS i rd = some g → ∃ g', updSs (fun i => findS i (roL rd)) e0.ws i = some g' := by
    intro i g hi hg
    rcases updSs_cases (fun i => findS i (roL rd)) (fun _ => none) e0.ws i with ⟨v, h1, _, h3⟩ | ⟨h1, _, _⟩
    · have := newOk_mem hok _ h3
      cases v with
      | some g' => exact ⟨g', h1⟩
      | none =>
        have h4 : Nat.ble base i = true := this
        have := Nat.le_of_ble_eq_true h4
        omega
    · exact ⟨_, h1.trans (roL_find' hg)⟩
  have hnew : ∀ i g, base ≤ i → updSs (fun i => findS i (roL rd)) e0.ws i = some g → g.rw = true := by
    intro i g hi hg
    rcases updSs_cases (fun i => findS i (roL rd)) (fun _ => none) e0.ws i with ⟨v, h1, _, h3⟩ | ⟨h1, _, _⟩
    · rw [h1] at hg
      subst hg
      have h4 : (match Nat.ble base i with | true => g.rw | false => true) = true := newOk_mem hok _ h3
      rw [Nat.ble_eq_true_of_le hi] at h4
      exact h4
    · rw [h1] at hg
      obtain ⟨g0, h3, _⟩ := roL_find hg
      exact absurd (hrd i g0 h3) (by omega)
  refine ⟨fun i g hg => ?_, fun i j g k b o z b' o' z' hij hg hk hrw hb hb' => ?_, fun i g b o z hg hrw hb => ?_, ?_, hmem.tab⟩
  · by_cases hi : i < base
    · rw [hlo i hi] at hg
      obtain ⟨b, o, z, cs, T, fr, q1, q2⟩ := hmem.segs i g hg
      obtain ⟨cs', q3⟩ := q2.frame hfr' (fun k _ _ => hT b k)
      exact ⟨b, o, z, cs', T, fr, k1 _ _ q1, q3.mono k1⟩
    · rw [hge i (by omega)] at hg
      exact k4.segs i g hg
  · have hEi : ∀ i g, findS i rd = some g → ∃ x, E i = some x ∧ E' i = some x := fun i g hg => by
      obtain ⟨b, o, z, cs, T, fr, q1, q2⟩ := hmem.segs i g hg
      exact ⟨_, q1, k1 _ _ q1⟩
    by_cases hi : i < base
    · rw [hlo i hi] at hg
      obtain ⟨x, q1, q2⟩ := hEi i g hg
      rw [q2] at hb
      cases hb
      by_cases hj : j < base
      · rw [hlo j hj] at hk
        obtain ⟨y, q3, q4⟩ := hEi j k hk
        rw [q4] at hb'
        cases hb'
        exact hmem.disj i j g k b o z b' o' z' hij hg hk hrw q1 q3
      · rw [hge j (by omega)] at hk
        obtain ⟨g', hg'⟩ := hin i g hi hg
        exact k4.disj i j g' k b o z b' o' z' hij hg' hk (.inr (hnew j k (by omega) hk)) q2 hb'
    · rw [hge i (by omega)] at hg
      by_cases hj : j < base
      · rw [hlo j hj] at hk
        obtain ⟨y, q3, q4⟩ := hEi j k hk
        rw [q4] at hb'
        cases hb'
        obtain ⟨g', hg'⟩ := hin j k hj hk
        exact k4.disj i j g g' b o z b' o' z' hij hg hg' (.inl (hnew i g (by omega) hg)) hb q4
      · rw [hge j (by omega)] at hk
        exact k4.disj i j g k b o z b' o' z' hij hg hk (.inl (hnew i g (by omega) hg)) hb hb'
  · by_cases hi : i < base
    · rw [hlo i hi] at hg
      obtain ⟨b1, o1, z1, cs, T, fr, q1, q2⟩ := hmem.segs i g hg
      rw [k1 _ _ q1] at hb
      cases hb
      exact hmem.tch i g b o z hg hrw q1
    · rw [hge i (by omega)] at hg
      rcases k4.tch i g b o z hg hrw hb with q | q
      · exact .inl q
      · exact .inr fun k hk1 hk2 => absurd (q k hk1 hk2) (hT b k)
  · refine ⟨hfr'.os, hfr'.out, hfr'.size, fun b hb => ?_, hfr'.frz⟩
    rcases hfr'.old b hb with ⟨cs, t, fr, cs', q1, q2, q3, q4⟩ | q1
    · exact .inl ⟨cs, t, fr, cs', q1, q2, q3, fun j _ => q4 j (hT b j)⟩
    · exact .inr q1
/-- A guard before each. -/
def gdB (g : Bool) (l : List Bool) : List Bool := l.map (g || ·)
theorem gdB_ok {g : Bool} {l : List Bool} (h : g = false → AllT l) : AllT (gdB g l) := by
  intro c hc
  unfold gdB at hc
  rw [List.mem_map] at hc
  obtain ⟨x, hx, rfl⟩ := hc
  cases g with
  | true => rfl
  | false => exact h rfl x hx
end
end Go.Proofs.Ytaoeigofmfpamaa
end

/- The numbers' own functions. Nothing is assumed. -/
section
namespace Go.Proofs.Ytaoeigofmfpamaa
open Go

set_option maxRecDepth 100000 in
theorem mixed : Try.prog.follows .mixedOrders = true := by kernel_rfl
set_option maxRecDepth 100000 in
theorem cBits : CallOK Try.prog 80 bits32S := bits32_ok Try.func80 (by kernel_rfl) (by kernel_rfl) (by kernel_rfl) (by kernel_rfl)
set_option maxRecDepth 100000 in
theorem sameI_run (O : FOps) (x y : Nat) : inl ⟨Try.prog, O, orcOf [(80, bits32S)]⟩ Try.f50 ⟨fun _ => none, fun _ => none⟩ 1 [.c (.flt .f32 x), .c (.flt .f32 y)] [] = some (sameR O x y) := by kernel_rfl
set_option maxRecDepth 100000 in
theorem sameL_run (O : FOps) (x y : Nat) : inl ⟨Try.prog, O, orcOf [(80, bits32S)]⟩ Try.f78 ⟨fun _ => none, fun _ => none⟩ 1 [.c (.flt .f32 x), .c (.flt .f32 y)] [] = some (sameR O x y) := by kernel_rfl
set_option maxRecDepth 100000 in
theorem cSameI : CallOK Try.prog 50 sameS :=
  same_ok (inl_of (l := [(80, bits32S)]) ⟨cBits, trivial⟩ mixed Try.func50 (by kernel_rfl) (fun _ => none)) fun x y => sameI_run fops x y
set_option maxRecDepth 100000 in
theorem cSameL : CallOK Try.prog 78 sameS :=
  same_ok (inl_of (l := [(80, bits32S)]) ⟨cBits, trivial⟩ mixed Try.func78 (by kernel_rfl) (fun _ => none)) fun x y => sameL_run fops x y
theorem same_of {P : Program} {f : FuncId} {S : CS} (h : CallOK P f S) (he : ∀ x y, S 1 [.c (.flt .f32 x), .c (.flt .f32 y)] [] = some ⟨.c (.bool (.s (Nat.beq x y))), [], 1, []⟩) : CallOK P f sameS := by
  refine h.flat.weak fun base args rd e E vals hs hob hargs => ?_
  unfold sameS at hs
  split at hs <;> cases hs
  rename_i x y
  exact ⟨_, flatS_eq (he x y) rfl rfl rfl, AllT.nil, fun E v hv => hv, rfl, Nat.le_refl _, Nat.le_refl _⟩
set_option maxRecDepth 100000 in
theorem sf_run (O : FOps) (x y : Nat) : inl ⟨Try.prog, O, orcN Try.prog O [] 1⟩ Try.f12 ⟨fun _ => none, fun _ => none⟩ 1 [.c (.flt .f64 x), .c (.flt .f64 y)] [] = some ⟨.c (.bool (.s (sf O x y))), [], 1, []⟩ := by kernel_rfl
set_option maxRecDepth 100000 in
theorem cSf : CallOK Try.prog 12 (gS (sfG fops)) :=
  gS_of (inlN_of (l := []) trivial mixed 1 Try.func12 (by kernel_rfl) (fun _ => none)) fun args r E vals hG _ => by
    unfold sfG at hG
    split at hG <;> cases hG
    exact ⟨rfl, _, sf_run fops _ _, rfl, rfl, AllT.nil, fun _ _ h => h⟩
end Go.Proofs.Ytaoeigofmfpamaa
end

/- The order of floats is the order of their words. Nothing is assumed. -/
section
namespace Go.Proofs.Ytaoeigofmfpamaa
open Go

/-- The number of a word, in units of the least place. -/
def units (b r : Nat) : Nat := if r < b then r else (b + r % b) * 2 ^ (r / b - 1)
theorem units_lt {b r r' : Nat} (hb : 0 < b) (h : r < r') : units b r < units b r' := by
  unfold units
  by_cases h1 : r' < b
  · rw [if_pos (Nat.lt_trans h h1), if_pos h1]; exact h
  · rw [if_neg h1]
    have hq' : 1 ≤ r' / b := (Nat.one_le_div_iff hb).2 (by omega)
    by_cases h2 : r < b
    · rw [if_pos h2]
      exact Nat.lt_of_lt_of_le h2 (Nat.le_trans (Nat.le_add_right b (r' % b)) (Nat.le_mul_of_pos_right _ (Nat.two_pow_pos _)))
    · rw [if_neg h2]
      have hq : 1 ≤ r / b := (Nat.one_le_div_iff hb).2 (by omega)
      have hqq : r / b ≤ r' / b := Nat.div_le_div_right (by omega)
      have hm : r % b < b := Nat.mod_lt _ hb
      by_cases e : r / b = r' / b
      · rw [e]
        refine Nat.mul_lt_mul_of_pos_right ?_ (Nat.two_pow_pos _)
        have h3 := Nat.div_add_mod r b
        have h4 := Nat.div_add_mod r' b
        rw [e] at h3
        omega
      · have hlt : r / b ≤ r' / b - 1 := by omega
        calc (b + r % b) * 2 ^ (r / b - 1) < (b + b) * 2 ^ (r / b - 1) := Nat.mul_lt_mul_of_pos_right (by omega) (Nat.two_pow_pos _)
          _ = b * 2 ^ (r / b) := by
            rw [← Nat.two_mul, Nat.mul_comm 2 b, Nat.mul_assoc, ← Nat.pow_succ', Nat.succ_eq_add_one, Nat.sub_add_cancel hq]
          _ ≤ b * 2 ^ (r' / b - 1) := Nat.mul_le_mul_left _ (Nat.pow_le_pow_right (by omega) hlt)
          _ ≤ (b + r' % b) * 2 ^ (r' / b - 1) := Nat.mul_le_mul_right _ (Nat.le_add_right _ _)
theorem units_le {b r r' : Nat} (hb : 0 < b) (h : r ≤ r') : units b r ≤ units b r' := by
  rcases Nat.lt_or_eq_of_le h with h | rfl
  · exact Nat.le_of_lt (units_lt hb h)
  · exact Nat.le_refl _

def negB (k : FloatKind) (x : Nat) : Bool := x / k.format.signWeight % 2 == 1
def rung (k : FloatKind) (x : Nat) : Nat := x % k.format.signWeight
/-- The words in their order. -/
def key (k : FloatKind) (x : Nat) : Int := bif negB k x then -(rung k x : Int) else rung k x
theorem binade_pos (k : FloatKind) : 0 < k.format.binade := Nat.two_pow_pos _
/-- What a word that is no NaN stands for. -/
theorem read_cases (k : FloatKind) (x : Nat) (h : nanb k x = false) :
    (∃ m e, k.format.read x = .number (negB k x) m e ∧ k.format.leastPlace ≤ e ∧ m * 2 ^ (e - k.format.leastPlace).toNat = units k.format.binade (rung k x) ∧ rung k x < k.format.infRung) ∨
    (k.format.read x = .infinity (negB k x) ∧ rung k x = k.format.infRung) := by
  unfold nanb FloatKind.decode at h
  have hb : k.format.binade ≤ k.format.infRung := by cases k <;> decide +kernel
  unfold Ieee.Format.read at h ⊢
  dsimp only at h ⊢
  unfold negB rung units
  split
  · rename_i h1
    refine .inl ⟨_, _, rfl, Int.le_refl _, ?_, by omega⟩
    simp
  · rename_i h1
    rw [if_neg h1] at h
    split
    · rename_i h2
      refine .inl ⟨_, _, rfl, by omega, ?_, h2⟩
      congr 2
      omega
    · rename_i h2
      rw [if_neg h2] at h
      split
      · rename_i h3; exact .inr ⟨rfl, h3⟩
      · rename_i h3
        rw [if_neg h3] at h
        cases h
theorem compare_int_lt {a b : Int} (h : a < b) : compare a b = .lt := by
  simp only [compare, compareOfLessAndEq, if_pos h]
theorem compare_int_gt {a b : Int} (h : b < a) : compare a b = .gt := by
  simp only [compare, compareOfLessAndEq, if_neg (show ¬ a < b by omega), if_neg (show ¬ a = b by omega)]
theorem compare_int_eq (a : Int) : compare a a = .eq := by
  simp [compare, compareOfLessAndEq]
theorem compare_mul (a b : Int) {c : Int} (hc : 0 < c) : compare (a * c) (b * c) = compare a b := by
  rcases Int.lt_trichotomy a b with h | rfl | h
  · rw [compare_int_lt h, compare_int_lt (Int.mul_lt_mul_of_pos_right h hc)]
  · rw [compare_int_eq, compare_int_eq]
  · rw [compare_int_gt h, compare_int_gt (Int.mul_lt_mul_of_pos_right h hc)]
theorem signed_mul (s : Bool) (m i c : Nat) : Ieee.signed s m i * (2 ^ c : Nat) = bif s then -((m * 2 ^ (i + c) : Nat) : Int) else ((m * 2 ^ (i + c) : Nat) : Int) := by
  unfold Ieee.signed
  rw [Nat.shiftLeft_eq, Nat.pow_add, ← Nat.mul_assoc]
  cases s <;> simp [Int.neg_mul]
def sgn (s : Bool) (n : Nat) : Int := bif s then -(n : Int) else n
theorem sgn_cmp {s t : Bool} {b r r' : Nat} (hb : 0 < b) : compare (sgn s (units b r)) (sgn t (units b r')) = compare (sgn s r) (sgn t r') := by
  have u0 : units b 0 = 0 := by unfold units; rw [if_pos hb]
  have mono : ∀ {a c : Nat}, a < c → units b a < units b c := fun h => units_lt hb h
  have pos : ∀ {a : Nat}, 0 < a → 0 < units b a := fun h => by have := mono h; rw [u0] at this; exact this
  have key : (sgn s r < sgn t r' → sgn s (units b r) < sgn t (units b r')) ∧ (sgn t r' < sgn s r → sgn t (units b r') < sgn s (units b r)) ∧ (sgn s r = sgn t r' → sgn s (units b r) = sgn t (units b r')) := by
    unfold sgn
    rcases Nat.eq_zero_or_pos r with rfl | hr <;> rcases Nat.eq_zero_or_pos r' with rfl | hr'
    · rw [u0]; cases s <;> cases t <;> simp
    · have := pos hr'
      rw [u0]; cases s <;> cases t <;> simp <;> omega
    · have := pos hr
      rw [u0]; cases s <;> cases t <;> simp <;> omega
    · have h1 := pos hr
      have h2 := pos hr'
      rcases Nat.lt_trichotomy r r' with h | rfl | h
      · have := mono h
        cases s <;> cases t <;> simp <;> omega
      · cases s <;> cases t <;> simp <;> omega
      · have := mono h
        cases s <;> cases t <;> simp <;> omega
  rcases Int.lt_trichotomy (sgn s r) (sgn t r') with h | h | h
  · rw [compare_int_lt h, compare_int_lt (key.1 h)]
  · rw [h, key.2.2 h, compare_int_eq, compare_int_eq]
  · rw [compare_int_gt h, compare_int_gt (key.2.1 h)]
theorem order_key {k : FloatKind} {x y : Nat} (hx : nanb k x = false) (hy : nanb k y = false) : k.format.order x y = some (compare (key k x) (key k y)) := by
  unfold Ieee.Format.order
  have ip : 0 < k.format.infRung := by cases k <;> decide +kernel
  rcases read_cases k x hx with ⟨m, e, h1, h2, h3, h4⟩ | ⟨h1, h4⟩ <;> rcases read_cases k y hy with ⟨n, j, g1, g2, g3, g4⟩ | ⟨g1, g4⟩
  · rw [h1, g1]
    simp only [Ieee.Datum.order]
    congr 1
    have hc : (0 : Int) < ((2 ^ (min e j - k.format.leastPlace).toNat : Nat) : Int) := by exact_mod_cast Nat.two_pow_pos _
    rw [← compare_mul _ _ hc, signed_mul, signed_mul]
    have e1 : (e - min e j).toNat + (min e j - k.format.leastPlace).toNat = (e - k.format.leastPlace).toNat := by omega
    have e2 : (j - min e j).toNat + (min e j - k.format.leastPlace).toNat = (j - k.format.leastPlace).toNat := by omega
    rw [e1, e2, h3, g3]
    exact sgn_cmp (binade_pos k)
  · rw [h1, g1]
    simp only [Ieee.Datum.order]
    congr 1
    unfold key
    rw [g4]
    cases negB k y <;> cases negB k x <;> simp
    · exact (compare_int_lt (by omega)).symm
    · exact (compare_int_lt (by omega)).symm
    · exact (compare_int_gt (by omega)).symm
    · exact (compare_int_gt (by omega)).symm
  · rw [h1, g1]
    simp only [Ieee.Datum.order]
    congr 1
    unfold key
    rw [h4]
    cases negB k x <;> cases negB k y <;> simp
    · exact (compare_int_gt (by omega)).symm
    · exact (compare_int_gt (by omega)).symm
    · exact (compare_int_lt (by omega)).symm
    · exact (compare_int_lt (by omega)).symm
  · rw [h1, g1]
    simp only [Ieee.Datum.order]
    congr 1
    unfold key
    rw [h4, g4]
    cases negB k x <;> cases negB k y
    · exact (compare_int_eq _).symm
    · show compare (1 : Nat) 0 = compare ((k.format.infRung : Nat) : Int) (-(k.format.infRung : Nat) : Int)
      rw [compare_int_gt (by omega)]; decide
    · show compare (0 : Nat) 1 = compare (-(k.format.infRung : Nat) : Int) ((k.format.infRung : Nat) : Int)
      rw [compare_int_lt (by omega)]; decide
    · exact (compare_int_eq _).symm
theorem order_nan {k : FloatKind} {x y : Nat} (h : nanb k x = true ∨ nanb k y = true) : k.format.order x y = none := by
  unfold Ieee.Format.order
  unfold nanb FloatKind.decode at h
  cases hx : k.format.read x <;> cases hy : k.format.read y <;> rw [hx, hy] at h <;> simp [Ieee.Datum.isNaN] at h <;> simp [Ieee.Datum.order]
section
variable {k : FloatKind} {x y : Nat}
theorem cmp_key (op : BinOp) : fops.cmp op k x y = cmpOrd op (if nanb k x = false ∧ nanb k y = false then some (compare (key k x) (key k y)) else none) := by
  show cmpOrd op (k.format.order x y) = _
  split
  · rename_i h; rw [order_key h.1 h.2]
  · rename_i h
    rw [order_nan]
    cases h1 : nanb k x <;> cases h2 : nanb k y <;> simp_all
theorem cmp_lss : fops.cmp .lss k x y = (!nanb k x && !nanb k y && decide (key k x < key k y)) := by
  rw [cmp_key]
  cases nanb k x <;> cases nanb k y <;> try rfl
  rcases Int.lt_trichotomy (key k x) (key k y) with h | h | h
  · simp [cmpOrd, compare_int_lt h, h]
  · simp [cmpOrd, h, compare_int_eq]
  · simp [cmpOrd, compare_int_gt h]; omega
theorem cmp_gtr : fops.cmp .gtr k x y = (!nanb k x && !nanb k y && decide (key k y < key k x)) := by
  rw [cmp_key]
  cases nanb k x <;> cases nanb k y <;> try rfl
  rcases Int.lt_trichotomy (key k x) (key k y) with h | h | h
  · simp [cmpOrd, compare_int_lt h]; omega
  · simp [cmpOrd, h, compare_int_eq]
  · simp [cmpOrd, compare_int_gt h, h]
theorem cmp_leq : fops.cmp .leq k x y = (!nanb k x && !nanb k y && decide (key k x ≤ key k y)) := by
  rw [cmp_key]
  cases nanb k x <;> cases nanb k y <;> try rfl
  rcases Int.lt_trichotomy (key k x) (key k y) with h | h | h
  · simp [cmpOrd, compare_int_lt h]; omega
  · simp [cmpOrd, h, compare_int_eq]
  · simp [cmpOrd, compare_int_gt h]; omega
theorem cmp_geq : fops.cmp .geq k x y = (!nanb k x && !nanb k y && decide (key k y ≤ key k x)) := by
  rw [cmp_key]
  cases nanb k x <;> cases nanb k y <;> try rfl
  rcases Int.lt_trichotomy (key k x) (key k y) with h | h | h
  · simp [cmpOrd, compare_int_lt h]; omega
  · simp [cmpOrd, h, compare_int_eq]
  · simp [cmpOrd, compare_int_gt h]; omega
theorem cmp_eql : fops.cmp .eql k x y = (!nanb k x && !nanb k y && decide (key k x = key k y)) := by
  rw [cmp_key]
  cases nanb k x <;> cases nanb k y <;> try rfl
  rcases Int.lt_trichotomy (key k x) (key k y) with h | h | h
  · simp [cmpOrd, compare_int_lt h]; omega
  · simp [cmpOrd, h, compare_int_eq]
  · simp [cmpOrd, compare_int_gt h]; omega
end
end Go.Proofs.Ytaoeigofmfpamaa
end

/- The absolute value. Nothing is assumed. -/
section
namespace Go.Proofs.Ytaoeigofmfpamaa
open Go

set_option maxRecDepth 100000 in
theorem abs_calls (r : Nat) (w : World) : Calls Try.prog 96 #[.float .f64 r] w fun e w' => e = .returned (.float .f64 (Go.bits .andNot .u64 r 9223372036854775808).toNat) ∧ w' = w := by
  go_enter Try.func96, Try.ntmps96
  go_wp2
  rw [run_extern Try.func99 (x := Extern.MathFloatBits.float64bits) (v := .int .u64 r) (w' := w) (by kernel_rfl) (by kernel_rfl) (by kernel_rfl) (by kernel_rfl) rfl]
  go_wp2
  rw [run_extern Try.func98 (x := Extern.MathFloatBits.float64frombits) (v := .float .f64 (Go.bits .andNot .u64 r 9223372036854775808).toNat) (w' := w) (by kernel_rfl) (by kernel_rfl) (by kernel_rfl) (by kernel_rfl) rfl]
  go_wp2
  go_ret
  exact ⟨rfl, rfl⟩
theorem andNot_mod {r : Nat} (h : r < 2 ^ 64) : (Go.bits .andNot .u64 (r : Int) 9223372036854775808).toNat = r % 9223372036854775808 := by
  have := u64_andNot_nat r 9223372036854775808 (by simpa using h) (by decide)
  rw [show ((9223372036854775808 : Nat) : Int) = 9223372036854775808 from rfl] at this
  rw [this, Int.toNat_natCast, show (18446744073709551615 - 9223372036854775808 : Nat) = 2 ^ 63 - 1 from rfl, Nat.and_two_pow_sub_one_eq_mod]
def absS : CS := fun base args rd => match args, rd with
  | [.c (.flt .f64 x)], [] => some ⟨.c (.flt .f64 (x % 9223372036854775808)), [], base, []⟩
  | _, _ => none
theorem nanb_mod {x : Nat} (h : nanb .f64 x = false) : nanb .f64 (x % 9223372036854775808) = false := by
  unfold nanb FloatKind.decode at *
  have s64 : FloatKind.f64.format.signWeight = 9223372036854775808 := by decide +kernel
  rw [read_nan, s64] at h ⊢
  rw [Nat.mod_mod]; exact h
theorem can_of_nanb {k : FloatKind} {x : Nat} (h : nanb k x = false) : can k x = x := by
  unfold nanb at h
  simp [can, h]
set_option maxRecDepth 100000 in
theorem cAbs : CallOK Try.prog 96 absS := by
  intro E base args vals rd w e hs hob hargs hb1 hbe hfr hmem
  unfold absS at hs
  split at hs <;> cases hs
  rename_i x
  obtain ⟨l⟩ := vals
  match l, hargs with
  | [v], hargs =>
    obtain ⟨r, rfl, h2, h3⟩ := hargs.1
    have hr : can .f64 (r % 9223372036854775808) = x % 9223372036854775808 := by
      rcases can_cases .f64 r with ⟨g1, g2⟩ | ⟨g1, g2⟩
      · rw [← h3, g2]
        have : (FloatKind.f64.decode (r % 9223372036854775808)).isNaN = true := by
          unfold FloatKind.decode at *
          have s64 : FloatKind.f64.format.signWeight = 9223372036854775808 := by decide +kernel
          rw [read_nan, s64] at g1 ⊢
          rw [Nat.mod_mod]; exact g1
        rw [can_of_nan this]
        decide +kernel
      · rw [← h3, g2]
        exact can_of_nanb (nanb_mod g1)
    have hc : Calls Try.prog 96 #[.float .f64 r] w (fun e w'' => ∃ v, e = .returned v ∧ CallPost E base [] w ⟨.c (.flt .f64 (x % 9223372036854775808)), [], base, []⟩ v w'') := by
      refine (abs_calls r w).mono fun e w' ⟨h4, h5⟩ => ⟨_, h4, ?_⟩
      subst h5
      refine ⟨E, Ext.refl E, fun i hi => .inl hi, ⟨_, rfl, ?_, ?_⟩, hmem⟩
      · rw [andNot_mod h2]
        exact Nat.lt_of_le_of_lt (Nat.mod_le _ _) h2
      · rw [andNot_mod h2]
        exact hr
    have hrun : (callFunc 96 #[.float .f64 r]).run Try.prog w = .ok (.enter 96 #[.float .f64 r]) w := by
      have hb : Try.f96.body.isSome = true := by kernel_rfl
      have hne : ¬ Try.f96.name = "runtime.NumGoroutine" := by
        have : (Try.f96.name == "runtime.NumGoroutine") = false := by kernel_rfl
        simpa using this
      obtain ⟨c, hc⟩ := Option.isSome_iff_exists.1 hb
      simp [callFunc, Try.func96, hne, hc]
    rw [hrun]
    exact hc
end Go.Proofs.Ytaoeigofmfpamaa
end

/- An amount is a word below that of infinity. Nothing is assumed. -/
section
namespace Go.Proofs.Ytaoeigofmfpamaa
open Go

def amtS : CS := fun base args rd => match args, rd with
  | [.c (.flt .f32 x)], [] => some ⟨.c (.bool (.s (decide (x < 2139095040)))), [], base, []⟩
  | _, _ => none
noncomputable def infI (O : FOps) (x : Nat) : Bool := bif O.cmp .neq .f64 (O.conv .f32 .f64 x) (O.conv .f32 .f64 x) then true else O.cmp .gtr .f64 (O.conv .f32 .f64 x % 9223372036854775808) 9218868437227405311
noncomputable def amtI (O : FOps) (x : Nat) : CEff :=
  ⟨.c (.bool (.s (bif (bif infI O x then false else true) then (bif O.cmp .geq .f32 x 0 then decide ((x : Int).fdiv 2147483648 = 0) else false) else false))), [], 2,
    [!(bif infI O x then false else true) || (!O.cmp .geq .f32 x 0 || !Nat.beq x (qnan .f32))]⟩
noncomputable def amtL (O : FOps) (x : Nat) : CEff :=
  ⟨.c (.bool (.s (bif O.cmp .eql .f32 (O.bin .sub .f32 x x) 0 then (bif O.cmp .gtr .f32 x 0 then true else decide ((x : Int) = 0)) else false))), [], 1,
    [!O.cmp .eql .f32 (O.bin .sub .f32 x x) 0 || (O.cmp .gtr .f32 x 0 || !Nat.beq x (qnan .f32))]⟩
set_option maxRecDepth 100000 in
theorem amtI_run (O : FOps) (x : Nat) : inl ⟨Try.prog, O, orcN Try.prog O [(80, bits32S), (96, absS)] 8⟩ Try.f73 ⟨fun _ => none, fun _ => none⟩ 1 [.c (.flt .f32 x)] [] = some (amtI O x) := by kernel_rfl
set_option maxRecDepth 100000 in
theorem amtL_run (O : FOps) (x : Nat) : inl ⟨Try.prog, O, orcN Try.prog O [(80, bits32S), (96, absS)] 8⟩ Try.f90 ⟨fun _ => none, fun _ => none⟩ 1 [.c (.flt .f32 x)] [] = some (amtL O x) := by kernel_rfl

/-! ### the law of it -/
def isNum (x : Nat) : Bool := match FloatKind.f32.format.read x with
  | .number _ _ _ => true
  | _ => false
theorem s32 : FloatKind.f32.format.signWeight = 2147483648 := by decide +kernel
theorem i32 : FloatKind.f32.format.infRung = 2139095040 := by decide +kernel
theorem s64 : FloatKind.f64.format.signWeight = 9223372036854775808 := by decide +kernel
theorem i64 : FloatKind.f64.format.infRung = 9218868437227405312 := by decide +kernel
theorem isNum_eq {x : Nat} (hx : Cn .f32 x) : isNum x = decide (x % 2147483648 < 2139095040) := by
  unfold isNum
  cases hn : nanb .f32 x with
  | true =>
    have hq := hx.nan
    rw [hn] at hq
    have : x = 2143289344 := beqN.1 hq.symm
    subst this
    decide +kernel
  | false =>
    rcases read_cases .f32 x hn with ⟨m, e, h1, _, _, h4⟩ | ⟨h1, h4⟩
    · rw [h1]
      unfold rung at h4
      rw [s32, i32] at h4
      simp [h4]
    · rw [h1]
      unfold rung at h4
      rw [s32, i32] at h4
      simp [h4]
theorem key32 {x : Nat} (hx : Cn .f32 x) : key .f32 x = if x < 2147483648 then (x : Int) else -((x - 2147483648 : Nat) : Int) := by
  have hlt : x < 4294967296 := hx.lt
  unfold key negB rung
  rw [s32]
  split
  · rename_i h
    have h1 : x / 2147483648 = 0 := Nat.div_eq_of_lt h
    simp [h1, Nat.mod_eq_of_lt h]
  · rename_i h
    have h1 : x / 2147483648 = 1 := by omega
    simp [h1]; omega
theorem sub_self {x : Nat} : fops.bin .sub .f32 x x = if isNum x then 0 else qnan .f32 := by
  show ((((FloatKind.f32.format.read x).sum (FloatKind.f32.format.read x).opposite).map FloatKind.f32.format.write)).getD (qnan .f32) = _
  unfold isNum
  cases FloatKind.f32.format.read x with
  | nan s t => simp [Ieee.Datum.opposite, Ieee.Datum.sum]
  | infinity s => cases s <;> simp [Ieee.Datum.opposite, Ieee.Datum.sum]
  | number s m e =>
    have h0 : Ieee.signed s m 0 + Ieee.signed (!s) m 0 = 0 := by cases s <;> simp [Ieee.signed] <;> omega
    simp only [Ieee.Datum.opposite, Ieee.Datum.sum, Int.min_self, Int.sub_self, Int.toNat_zero, h0]
    cases s <;> simp [Ieee.Format.write, Ieee.Format.nearest, Ieee.Format.word]
theorem fin_eq {x : Nat} : fops.cmp .eql .f32 (fops.bin .sub .f32 x x) 0 = isNum x := by
  rw [sub_self]
  cases isNum x
  · rw [if_neg (by simp), cmp_eql, show nanb .f32 (qnan .f32) = true from qnan_nan .f32]; rfl
  · rw [if_pos rfl, cmp_eql_self]; decide +kernel
theorem conv_num {x : Nat} (h : isNum x = true) : nanb .f64 (fops.conv .f32 .f64 x) = false ∧ fops.conv .f32 .f64 x % 9223372036854775808 < 9218868437227405312 := by
  unfold isNum at h
  cases hd : FloatKind.f32.format.read x with
  | nan s t => rw [hd] at h; cases h
  | infinity s => rw [hd] at h; cases h
  | number s m e =>
    have hd' : FloatKind.f32.decode x = .number s m e := hd
    have hf := conv_fin hd'
    have hc : fops.conv .f32 .f64 x = FloatKind.f64.encode (.number s m e) := by
      show (floatToFloatBits .f32 x .f64).getD (qnan .f64) = _
      unfold floatToFloatBits
      rw [if_neg (by decide), hd']
      simp [hf]
    have hn : nanb .f64 (FloatKind.f64.encode (.number s m e)) = false := write_not_nan FloatKind.f64.format (.number s m e) rfl
    rw [hc]
    refine ⟨hn, ?_⟩
    rcases read_cases .f64 _ hn with ⟨_, _, _, _, _, h4⟩ | ⟨h1, _⟩
    · unfold rung at h4
      rw [s64, i64] at h4; exact h4
    · unfold FloatKind.decode at hf
      rw [h1] at hf; cases hf
theorem conv_inf {x : Nat} {s : Bool} (h : FloatKind.f32.format.read x = .infinity s) : nanb .f64 (fops.conv .f32 .f64 x) = false ∧ fops.conv .f32 .f64 x % 9223372036854775808 = 9218868437227405312 := by
  have hd' : FloatKind.f32.decode x = .infinity s := h
  have hc : fops.conv .f32 .f64 x = FloatKind.f64.encode (.infinity s) := by
    show (floatToFloatBits .f32 x .f64).getD (qnan .f64) = _
    unfold floatToFloatBits
    rw [if_neg (by decide), hd']
    rfl
  rw [hc]
  cases s <;> decide +kernel
theorem conv_nan {x : Nat} (h : nanb .f32 x = true) : nanb .f64 (fops.conv .f32 .f64 x) = true := by
  have hc : fops.conv .f32 .f64 x = qnan .f64 := by
    show (floatToFloatBits .f32 x .f64).getD (qnan .f64) = _
    unfold floatToFloatBits
    rw [if_neg (by decide)]
    unfold nanb at h
    cases hd : FloatKind.f32.decode x <;> rw [hd] at h <;> simp [Ieee.Datum.isNaN] at h
    rfl
  rw [hc]; exact qnan_nan .f64
theorem key64 {x : Nat} (h : x < 9223372036854775808) : key .f64 x = x := by
  unfold key negB rung
  rw [s64]
  have h1 : x / 9223372036854775808 = 0 := Nat.div_eq_of_lt h
  simp [h1, Nat.mod_eq_of_lt h]
theorem infI_eq {x : Nat} : infI fops x = !isNum x := by
  unfold infI
  rw [cmp_neq_self]
  have nmax : nanb .f64 9218868437227405311 = false := by decide +kernel
  cases hn : nanb .f32 x with
  | true =>
    rw [conv_nan hn]
    unfold isNum
    unfold nanb FloatKind.decode at hn
    cases hd : FloatKind.f32.format.read x <;> rw [hd] at hn <;> simp [Ieee.Datum.isNaN] at hn
    rfl
  | false =>
    cases hi : isNum x with
    | true =>
      obtain ⟨h1, h2⟩ := conv_num hi
      rw [h1, cmp_gtr, nanb_mod h1, nmax, key64 (Nat.lt_trans h2 (by decide)), key64 (by decide)]
      simp; omega
    | false =>
      rcases read_cases .f32 x hn with ⟨m, e, h1, _⟩ | ⟨h1, _⟩
      · unfold isNum at hi; rw [h1] at hi; cases hi
      · obtain ⟨h3, h4⟩ := conv_inf h1
        rw [h3, cmp_gtr, nanb_mod h3, nmax, h4, key64 (by decide), key64 (by decide)]
        decide
theorem nan_num {x : Nat} (h : isNum x = true) : nanb .f32 x = false := by
  unfold isNum at h
  unfold nanb FloatKind.decode
  cases hd : FloatKind.f32.format.read x with
  | number s m e => rfl
  | infinity s => rw [hd] at h; cases h
  | nan s t => rw [hd] at h; cases h
theorem amt_cases {x : Nat} (hx : Cn .f32 x) : (isNum x = false ∧ ¬ x < 2139095040) ∨ (isNum x = true ∧ nanb .f32 x = false ∧ x < 2139095040) ∨ (isNum x = true ∧ nanb .f32 x = false ∧ 2147483648 ≤ x ∧ x < 4294967296) := by
  have hlt : x < 4294967296 := hx.lt
  cases h : isNum x
  · rw [isNum_eq hx] at h
    left
    refine ⟨rfl, fun h2 => ?_⟩
    have := of_decide_eq_false h
    omega
  · have hn := nan_num h
    rw [isNum_eq hx] at h
    have := of_decide_eq_true h
    by_cases h2 : x < 2147483648
    · exact .inr (.inl ⟨rfl, hn, by omega⟩)
    · exact .inr (.inr ⟨rfl, hn, by omega, hlt⟩)
theorem k0 : key .f32 0 = 0 := by decide +kernel
theorem n0 : nanb .f32 0 = false := by decide +kernel
theorem amtL_aux {x : Nat} {n : Bool} (h : ¬ x < 2139095040) (h3 : 2147483648 ≤ x) (h4 : x < 4294967296) : (bif (!false && !n && decide (0 < (if x < 2147483648 then (x : Int) else -((x - 2147483648 : Nat) : Int)))) then true else decide ((x : Int) = 0)) = false := by
  rw [if_neg (Nat.not_lt.2 h3)]
  generalize hy : x - 2147483648 = y
  have e1 : ¬ (0 : Int) < -(y : Int) := by omega
  have e2 : ¬ (x : Int) = 0 := by omega
  simp only [e1, e2, decide_false, Bool.and_false, cond_false]
theorem amtL_val {x : Nat} (hx : Cn .f32 x) : (amtL fops x).ret = .c (.bool (.s (decide (x < 2139095040)))) ∧ AllT (amtL fops x).obs := by
  unfold amtL
  simp only [fin_eq, cmp_gtr, k0, n0, key32 hx, ← hx.nan]
  rcases amt_cases hx with ⟨h1, h2⟩ | ⟨h1, h2, h3⟩ | ⟨h1, h2, h3, h4⟩
  · rw [h1]
    exact ⟨by simp only [cond_false, h2, decide_false], AllT.cons rfl AllT.nil⟩
  · rw [h1, h2]
    refine ⟨?_, AllT.cons (by simp) AllT.nil⟩
    rw [if_pos (by omega)]
    have e : (bif decide ((0 : Int) < x) then true else decide ((x : Int) = 0)) = true := by
      by_cases e : x = 0
      · simp [e]
      · have : (0 : Int) < x := by omega
        simp only [this, decide_true, cond_true]
    simp only [Bool.not_false, Bool.true_and, e, cond_true, h3, decide_true]
  · rw [h1, h2]
    refine ⟨?_, AllT.cons (by simp) AllT.nil⟩
    have e3 : ¬ x < 2139095040 := by omega
    rw [amtL_aux e3 h3 h4]
    simp only [cond_true, e3, decide_false]
theorem amtI_val {x : Nat} (hx : Cn .f32 x) : (amtI fops x).ret = .c (.bool (.s (decide (x < 2139095040)))) ∧ AllT (amtI fops x).obs := by
  unfold amtI
  simp only [infI_eq, cmp_geq, k0, n0, key32 hx, ← hx.nan]
  refine ⟨?_, AllT.cons ?_ AllT.nil⟩
  · rcases amt_cases hx with ⟨h1, h2⟩ | ⟨h1, h2, h3⟩ | ⟨h1, h2, h3, h4⟩
    · simp only [h1, h2]; simp
    · simp only [h1, h2, h3]
      rw [if_pos (by omega)]
      have e1 : ((x : Int).fdiv 2147483648) = 0 := by
        rw [Int.fdiv_eq_ediv_of_nonneg _ (by decide)]; omega
      simp [e1]
    · simp only [h1, h2]
      have e3 : ¬ x < 2139095040 := by omega
      have e1 : ¬ ((x : Int).fdiv 2147483648) = 0 := by
        rw [Int.fdiv_eq_ediv_of_nonneg _ (by decide)]; omega
      simp [e1, e3]
  · rcases amt_cases hx with ⟨h1, h2⟩ | ⟨h1, h2, h3⟩ | ⟨h1, h2, h3, h4⟩
    · simp [h1]
    · simp [h2]
    · simp [h2]
set_option maxRecDepth 100000 in
theorem amt_of {f : FuncId} {S : CS} (h : CallOK Try.prog f S) (R : Nat → CEff) (he : ∀ x, S 1 [.c (.flt .f32 x)] [] = some (R x)) (hn : ∀ x, Nat.ble 1 (R x).next = true) (hv : ∀ {x}, Cn .f32 x → (R x).ret = .c (.bool (.s (decide (x < 2139095040)))) ∧ AllT (R x).obs) : CallOK Try.prog f amtS := by
  refine h.flat.weak fun base args rd e E vals hs hob hargs => ?_
  unfold amtS at hs
  split at hs <;> cases hs
  rename_i x
  have hx : Cn .f32 x := by
    match vals, hargs with
    | v :: _, hargs => exact FR.cn hargs.1
  obtain ⟨h1, h2⟩ := hv hx
  exact ⟨⟨(R x).ret, [], base, (R x).obs⟩, flatS_eq (he x) rfl (by rw [h1]; rfl) (hn x), h2, fun E v hv => by rw [h1] at hv; exact hv, rfl, Nat.le_refl _, Nat.le_refl _⟩
set_option maxRecDepth 100000 in
theorem cAmtI : CallOK Try.prog 73 amtS :=
  amt_of (inlN_of (l := [(80, bits32S), (96, absS)]) ⟨cBits, cAbs, trivial⟩ mixed 8 Try.func73 (by kernel_rfl) (fun _ => none)) (amtI fops) (fun x => amtI_run fops x) (fun _ => rfl) amtI_val
set_option maxRecDepth 100000 in
theorem cAmtL : CallOK Try.prog 90 amtS :=
  amt_of (inlN_of (l := [(80, bits32S), (96, absS)]) ⟨cBits, cAbs, trivial⟩ mixed 8 Try.func90 (by kernel_rfl) (fun _ => none)) (amtL fops) (fun x => amtL_run fops x) (fun _ => rfl) amtL_val
end Go.Proofs.Ytaoeigofmfpamaa
end

/- Numbers that are finite. Nothing is assumed. -/
section
namespace Go.Proofs.Ytaoeigofmfpamaa
open Go
noncomputable section
def allB (nm : Nat → Bool) : List Nat → Bool
  | [] => true
  | x :: l => bif nm x then allB nm l else false
def finG (nm : Nat → Bool) : List SV → Option SV
  | [.a l] => match flts l with
    | some xs => match Nat.ble 1 xs.length && Nat.ble xs.length 8 with
      | true => some (.c (.bool (.s (allB nm xs))))
      | false => none
    | none => none
  | _ => none
def fin1G (nm : Nat → Bool) : List SV → Option SV
  | [.c (.flt .f32 x)] => some (.c (.bool (.s (nm x))))
  | _ => none
def finB (O : FOps) : List Nat → Bool
  | [] => true
  | x :: l => bif infI O x then false else finB O l
theorem finB_eq : ∀ l : List Nat, finB fops l = allB isNum l
  | [] => rfl
  | x :: l => by
    show (bif infI fops x then false else finB fops l) = bif isNum x then allB isNum l else false
    rw [infI_eq, finB_eq l]; cases isNum x <;> rfl
def finR (O : FOps) (xs : List Nat) : Option (SV × List Bool) := rE 2 (inl ⟨Try.prog, O, orcN Try.prog O [(96, absS)] 8⟩ Try.f58 ⟨fun _ => none, fun _ => none⟩ 2 [.c (.sl 1 0 1 (.c (.ofNat (xs.length / 1))) false)] [(1, ⟨false, false, .cells (xs.map (SC.flt .f32 ·))⟩)])
set_option maxRecDepth 100000 in
theorem fin_run (O : FOps) : ∀ xs : List Nat, 1 ≤ xs.length → xs.length ≤ 8 → finR O xs = some (.c (.bool (.s (finB O xs))), [])
  | [a], _, _ => by kernel_rfl
  | [a, b], _, _ => by kernel_rfl
  | [a, b, c], _, _ => by kernel_rfl
  | [a, b, c, d], _, _ => by kernel_rfl
  | [a, b, c, d, e], _, _ => by kernel_rfl
  | [a, b, c, d, e, f], _, _ => by kernel_rfl
  | [a, b, c, d, e, f, g], _, _ => by kernel_rfl
  | [a, b, c, d, e, f, g, h], _, _ => by kernel_rfl
  | _ :: _ :: _ :: _ :: _ :: _ :: _ :: _ :: _ :: _, _, h => by simp only [List.length_cons] at h; omega
set_option maxRecDepth 100000 in
theorem cFin : CallOK Try.prog 58 (gQ [.s 1] (finG isNum)) :=
  gQ_of2 (inlN_of (l := [(96, absS)]) ⟨cAbs, trivial⟩ mixed 8 Try.func58 (by kernel_rfl) (fun _ => none)) fun dl r E hG hv => by
    unfold finG at hG
    split at hG <;> try (cases hG; done)
    split at hG <;> try (cases hG; done)
    rename_i xs hx
    split at hG <;> cases hG
    rename_i hb
    simp only [Bool.and_eq_true, Nat.ble_eq] at hb
    rw [flts_ok hx]
    have h := fin_run fops xs hb.1 hb.2
    refine ⟨_, _, ?_, rfl, AllT.nil, fun _ _ h => h⟩
    rw [← finB_eq, ← h]
    show rE 2 (inl _ _ _ 2 [.c (.sl 1 0 1 (.c (.ofNat ((xs.map (SC.flt .f32 ·)).length / 1))) false)] _) = _
    rw [List.length_map]; rfl
set_option maxRecDepth 100000 in
theorem cFinL : CallOK Try.prog 67 (gS (fin1G isNum)) :=
  gS_of2 (inlN_of (l := []) trivial mixed 8 Try.func67 (by kernel_rfl) (fun _ => none)) fun args r E vals hG hr => by
    unfold fin1G at hG
    split at hG <;> cases hG
    rename_i x
    have h : ∀ O : FOps, rE 1 (inl ⟨Try.prog, O, orcN Try.prog O [] 8⟩ Try.f67 ⟨fun _ => none, fun _ => none⟩ 1 [.c (.flt .f32 x)] []) = some (.c (.bool (.s (O.cmp .eql .f32 (O.bin .sub .f32 x x) 0))), []) := fun O => by kernel_rfl
    refine ⟨rfl, _, _, h fops, rfl, AllT.nil, fun _ _ h => ?_⟩
    rw [fin_eq] at h; exact h
end
end Go.Proofs.Ytaoeigofmfpamaa
end
