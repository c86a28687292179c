/- A region that draws its order, second part. Nothing is assumed. -/
import Derived.Test.YtaodbpejeglmlaaDoorSn
namespace Go.Proofs.YtaodbpejeglmlaaDoor
open Go

def fl (D : Nat → Bool) : List Oper → List Eff → (Nat → SV) → Nat → SV
  | o :: l, e :: es, tm => fl (fun j => D (j + 1)) l es (if D 0 then appT o.dst e tm else tm)
  | _, _, tm => tm
def gl (D : Nat → Bool) : List Eff → (Nat → Option Seg) → Nat → Option Seg
  | e :: es, sg => gl (fun j => D (j + 1)) es (if D 0 then updSs sg e.ws else sg)
  | [], sg => sg
def nx : List Eff → Nat → Nat → Nat
  | _, n, 0 => n
  | e :: es, _, k + 1 => nx es e.next k
  | [], n, _ + 1 => n
theorem fl_none : ∀ (l : List Oper) (es : List Eff) (D : Nat → Bool) (tm : Nat → SV), (∀ k, D k = false) → fl D l es tm = tm
  | [], _, _, _, _ => rfl
  | _ :: _, [], _, _, _ => rfl
  | o :: l, e :: es, D, tm, h => by simp only [fl, h 0, Bool.false_eq_true, if_false]; exact fl_none l es _ _ fun k => h (k + 1)
theorem gl_none : ∀ (es : List Eff) (D : Nat → Bool) (sg : Nat → Option Seg), (∀ k, D k = false) → gl D es sg = sg
  | [], _, _, _ => rfl
  | e :: es, D, sg, h => by simp only [gl, h 0, Bool.false_eq_true, if_false]; exact gl_none es _ _ fun k => h (k + 1)
theorem fl_all : ∀ (l : List Oper) (es : List Eff) (D : Nat → Bool) (tm : Nat → SV), (∀ k, k < l.length → D k = true) → fl D l es tm = stT l es tm
  | [], _, _, _, _ => by simp [fl, stT]
  | _ :: _, [], _, _, _ => rfl
  | o :: l, e :: es, D, tm, h => by
    simp only [fl, stT, h 0 (by simp), if_true]
    exact fl_all l es _ _ fun k hk => h (k + 1) (by simpa using hk)
theorem gl_all : ∀ (es : List Eff) (D : Nat → Bool) (sg : Nat → Option Seg), (∀ k, k < es.length → D k = true) → gl D es sg = stS es sg
  | [], _, _, _ => rfl
  | e :: es, D, sg, h => by
    simp only [gl, stS, h 0 (by simp), if_true]
    exact gl_all es _ _ fun k hk => h (k + 1) (by simpa using hk)
theorem nx_all : ∀ (es : List Eff) (n : Nat), nx es n es.length = stN es n
  | [], _ => rfl
  | e :: es, n => by simp only [List.length_cons, nx, stN]; exact nx_all es e.next
theorem nx_succ : ∀ (es : List Eff) (n k : Nat) (e : Eff), es[k]? = some e → nx es n (k + 1) = e.next
  | [], _, _, _, h => by simp at h
  | x :: es, n, 0, e, h => by simp at h; subst h; cases es <;> rfl
  | x :: es, n, k + 1, e, h => by
    show nx es x.next (k + 1) = _
    exact nx_succ es x.next k e (by simpa using h)
theorem mem_fsts {α : Type} {i : Nat} : ∀ {l : List (Nat × α)}, i ∈ fstsN l ↔ ∃ v, (i, v) ∈ l
  | [] => by simp [fstsN]
  | (j, v) :: l => by
    simp only [fstsN, List.mem_cons, mem_fsts (l := l)]
    constructor
    · rintro (rfl | ⟨u, h⟩)
      · exact ⟨v, .inl rfl⟩
      · exact ⟨u, .inr h⟩
    · rintro ⟨u, h | h⟩
      · cases h; exact .inl rfl
      · exact .inr ⟨u, h⟩
theorem updSs_not {sg : Nat → Option Seg} {ws : List (Nat × Option Seg)} {i : Nat} (h : i ∉ fstsN ws) : updSs sg ws i = sg i := by
  rcases updSs_cases sg sg ws i with ⟨v, _, _, h3⟩ | ⟨h1, _, _⟩
  · exact absurd (mem_fsts.2 ⟨v, h3⟩) h
  · exact h1
theorem updSs_agree {sg sg' : Nat → Option Seg} (ws : List (Nat × Option Seg)) {i : Nat} (h : sg i = sg' i) : updSs sg ws i = updSs sg' ws i := by
  rcases updSs_cases sg sg' ws i with ⟨v, h1, h2, _⟩ | ⟨h1, h2, _⟩
  · rw [h1, h2]
  · rw [h1, h2, h]
theorem updSs_mem {sg sg' : Nat → Option Seg} {ws : List (Nat × Option Seg)} {i : Nat} (h : i ∈ fstsN ws) : updSs sg ws i = updSs sg' ws i := by
  rcases updSs_cases sg sg' ws i with ⟨v, h1, h2, _⟩ | ⟨_, _, h3⟩
  · rw [h1, h2]
  · obtain ⟨v, hv⟩ := mem_fsts.1 h
    exact absurd hv (h3 v)
theorem appT_agree {tm tm' : Nat → SV} (d : Option Tmp) (e : Eff) {t : Nat} (h : tm t = tm' t) : appT d e tm t = appT d e tm' t := by
  cases d with
  | none => exact h
  | some d =>
    simp only [appT]
    by_cases e : t = d
    · subst e; rw [upd_same, upd_same]
    · rw [upd_other _ _ e, upd_other _ _ e, h]
theorem appT_not {tm : Nat → SV} {d : Option Tmp} {e : Eff} {t : Nat} (h : d ≠ some t) : appT d e tm t = tm t := by
  cases d with
  | none => rfl
  | some d => simp only [appT]; exact upd_other _ _ fun e => h (by rw [e])
theorem fl_agree : ∀ (l : List Oper) (es : List Eff) (D D' : Nat → Bool) (tm tm' : Nat → SV) (t : Nat), tm t = tm' t → (∀ k o, l[k]? = some o → o.dst = some t → D k = D' k) → fl D l es tm t = fl D' l es tm' t
  | [], es, _, _, _, _, _, h, _ => by cases es <;> exact h
  | _ :: _, [], _, _, _, _, _, h, _ => h
  | o :: l, e :: es, D, D', tm, tm', t, h, hD => by
    simp only [fl]
    refine fl_agree l es _ _ _ _ t ?_ fun k o' h1 h2 => hD (k + 1) o' (by simpa using h1) h2
    by_cases hd : o.dst = some t
    · rw [hD 0 o rfl hd]
      split
      · exact appT_agree _ _ h
      · exact h
    · have h1 : (if D 0 = true then appT o.dst e tm else tm) t = tm t := by split <;> first | rfl | exact appT_not hd
      have h2 : (if D' 0 = true then appT o.dst e tm' else tm') t = tm' t := by split <;> first | rfl | exact appT_not hd
      rw [h1, h2, h]
theorem gl_agree : ∀ (es : List Eff) (D D' : Nat → Bool) (sg sg' : Nat → Option Seg) (i : Nat), sg i = sg' i → (∀ k e, es[k]? = some e → i ∈ fstsN e.ws → D k = D' k) → gl D es sg i = gl D' es sg' i
  | [], _, _, _, _, _, h, _ => h
  | e :: es, D, D', sg, sg', i, h, hD => by
    simp only [gl]
    refine gl_agree es _ _ _ _ i ?_ fun k e' h1 h2 => hD (k + 1) e' (by simpa using h1) h2
    by_cases hi : i ∈ fstsN e.ws
    · rw [hD 0 e rfl hi]
      split
      · exact updSs_agree _ h
      · exact h
    · have h1 : (if D 0 = true then updSs sg e.ws else sg) i = sg i := by split <;> first | rfl | exact updSs_not hi
      have h2 : (if D' 0 = true then updSs sg' e.ws else sg') i = sg' i := by split <;> first | rfl | exact updSs_not hi
      rw [h1, h2, h]
theorem appT_comm {tm : Nat → SV} {d d' : Option Tmp} {e e' : Eff} (h : ∀ x, d = some x → d' ≠ some x) : appT d' e' (appT d e tm) = appT d e (appT d' e' tm) := by
  cases d with
  | none => rfl
  | some x => cases d' with
    | none => rfl
    | some y =>
      have hxy : y ≠ x := fun e => h x rfl (by rw [e])
      funext t
      simp only [appT]
      by_cases h1 : t = x
      · subst h1; rw [upd_same, upd_other _ _ (Ne.symm hxy), upd_same]
      · by_cases h2 : t = y
        · subst h2; rw [upd_same, upd_other _ _ h1, upd_same]
        · rw [upd_other _ _ h2, upd_other _ _ h1, upd_other _ _ h1, upd_other _ _ h2]
theorem fl_comm : ∀ (l : List Oper) (es : List Eff) (D : Nat → Bool) (d : Option Tmp) (e : Eff) (tm : Nat → SV), (∀ k o, l[k]? = some o → D k = true → ∀ x, d = some x → o.dst ≠ some x) → fl D l es (appT d e tm) = appT d e (fl D l es tm)
  | [], es, _, _, _, _, _ => by cases es <;> rfl
  | _ :: _, [], _, _, _, _, _ => rfl
  | o :: l, e' :: es, D, d, e, tm, h => by
    simp only [fl]
    have ih := fun tm => fl_comm l es (fun j => D (j + 1)) d e tm fun k o' h1 h2 => h (k + 1) o' (by simpa using h1) h2
    by_cases h0 : D 0 = true
    · rw [if_pos h0, if_pos h0, appT_comm (h 0 o rfl h0), ih]
    · rw [if_neg h0, if_neg h0, ih]
theorem updSs_comm {sg : Nat → Option Seg} {a b : List (Nat × Option Seg)} (h : ∀ i, i ∈ fstsN a → i ∉ fstsN b) : updSs (updSs sg a) b = updSs (updSs sg b) a := by
  funext i
  by_cases ha : i ∈ fstsN a
  · rw [updSs_not (h i ha)]
    exact updSs_mem ha
  · rw [updSs_not (ws := a) ha]
    exact updSs_agree b (updSs_not ha)
theorem gl_comm : ∀ (es : List Eff) (D : Nat → Bool) (a : List (Nat × Option Seg)) (sg : Nat → Option Seg), (∀ k e, es[k]? = some e → D k = true → ∀ i, i ∈ fstsN a → i ∉ fstsN e.ws) → gl D es (updSs sg a) = updSs (gl D es sg) a
  | [], _, _, _, _ => rfl
  | e :: es, D, a, sg, h => by
    simp only [gl]
    have ih := fun sg => gl_comm es (fun j => D (j + 1)) a sg fun k e' h1 h2 => h (k + 1) e' (by simpa using h1) h2
    by_cases h0 : D 0 = true
    · rw [if_pos h0, if_pos h0, updSs_comm (h 0 e rfl h0), ih]
    · rw [if_neg h0, if_neg h0, ih]
theorem fl_add : ∀ (l : List Oper) (es : List Eff) (D D' : Nat → Bool) (i : Nat) (o : Oper) (e : Eff) (tm : Nat → SV), l[i]? = some o → es[i]? = some e → D i = false → (∀ k, D' k = if k = i then true else D k) →
    (∀ k o', i < k → l[k]? = some o' → D k = true → ∀ x, o.dst = some x → o'.dst ≠ some x) → fl D' l es tm = appT o.dst e (fl D l es tm)
  | [], _, _, _, _, _, _, _, h, _, _, _, _ => by simp at h
  | _ :: _, [], _, _, _, _, _, _, _, h, _, _, _ => by simp at h
  | x :: l, y :: es, D, D', 0, o, e, tm, h1, h2, h3, h4, h5 => by
    simp at h1 h2
    subst h1; subst h2
    simp only [fl, h4 0, if_true, h3, Bool.false_eq_true, if_false]
    have : (fun j => D' (j + 1)) = fun j => D (j + 1) := by funext j; rw [h4]; simp
    rw [this]
    exact fl_comm l es _ _ _ _ fun k o' hk hd => h5 (k + 1) o' (by omega) (by simpa using hk) hd
  | x :: l, y :: es, D, D', i + 1, o, e, tm, h1, h2, h3, h4, h5 => by
    simp only [fl]
    have h0 : D' 0 = D 0 := by rw [h4, if_neg (by omega)]
    rw [h0]
    exact fl_add l es (fun j => D (j + 1)) (fun j => D' (j + 1)) i o e _ (by simpa using h1) (by simpa using h2) h3 (fun k => by rw [h4]; simp) fun k o' hk hl hd => h5 (k + 1) o' (by omega) (by simpa using hl) hd
theorem gl_add : ∀ (es : List Eff) (D D' : Nat → Bool) (i : Nat) (e : Eff) (sg : Nat → Option Seg), es[i]? = some e → D i = false → (∀ k, D' k = if k = i then true else D k) →
    (∀ k e', i < k → es[k]? = some e' → D k = true → ∀ x, x ∈ fstsN e.ws → x ∉ fstsN e'.ws) → gl D' es sg = updSs (gl D es sg) e.ws
  | [], _, _, _, _, _, h, _, _, _ => by simp at h
  | y :: es, D, D', 0, e, sg, h2, h3, h4, h5 => by
    simp at h2
    subst h2
    simp only [gl, h4 0, if_true, h3, Bool.false_eq_true, if_false]
    have : (fun j => D' (j + 1)) = fun j => D (j + 1) := by funext j; rw [h4]; simp
    rw [this]
    exact gl_comm es _ _ _ fun k o' hk hd => h5 (k + 1) o' (by omega) (by simpa using hk) hd
  | y :: es, D, D', i + 1, e, sg, h2, h3, h4, h5 => by
    simp only [gl]
    have h0 : D' 0 = D 0 := by rw [h4, if_neg (by omega)]
    rw [h0]
    exact gl_add es (fun j => D (j + 1)) (fun j => D' (j + 1)) i e _ (by simpa using h2) h3 (fun k => by rw [h4]; simp) fun k o' hk hl hd => h5 (k + 1) o' (by omega) (by simpa using hl) hd

theorem steps_at {cx : Cx} {N : Nat} {ops l : List Oper} {tm : Nat → SV} {sg : Nat → Option Seg} {next : Nat} {es : List Eff} (h : Steps cx N ops l tm sg next es) : es.length = l.length ∧ ∀ k o, l[k]? = some o → ∃ e, es[k]? = some e ∧ dstOk N o.dst = true ∧
    ((wantedS ops (fl (fun j => decide (j < k)) l es tm) o = some false ∧ e = skipE (nx es next k)) ∨
     (wantedS ops (fl (fun j => decide (j < k)) l es tm) o = some true ∧ ∃ e0, sop cx (fl (fun j => decide (j < k)) l es tm) (gl (fun j => decide (j < k)) es sg) (nx es next k) o.op = some e0 ∧ AllT e0.obs ∧ conc e0 e)) := by
  have shift : ∀ k : Nat, (fun j => decide (j + 1 < k + 1)) = (fun j => decide (j < k)) := by intro k; funext j; simp
  induction h with
  | nil => exact ⟨rfl, fun k o hk => by simp at hk⟩
  | @skip o rest tm sg next es hd hw hs ih =>
    refine ⟨by simp [ih.1], fun k o' hk => ?_⟩
    cases k with
    | zero =>
      simp at hk; subst hk
      refine ⟨_, rfl, hd, .inl ⟨?_, rfl⟩⟩
      rw [fl_none _ _ _ _ (by simp)]; exact hw
    | succ k =>
      obtain ⟨e, h1, h2, h3⟩ := ih.2 k o' (by simpa using hk)
      refine ⟨e, by simpa using h1, h2, ?_⟩
      simp only [fl, gl, shift, Nat.zero_lt_succ, decide_true, if_true]
      exact h3
  | @step o rest tm sg next e0 e es hd hw hsop hob hc hs ih =>
    refine ⟨by simp [ih.1], fun k o' hk => ?_⟩
    cases k with
    | zero =>
      simp at hk; subst hk
      refine ⟨_, rfl, hd, .inr ⟨?_, e0, ?_, hob, hc⟩⟩
      · rw [fl_none _ _ _ _ (by simp)]; exact hw
      · rw [fl_none _ _ _ _ (by simp), gl_none _ _ _ (by simp)]; exact hsop
    | succ k =>
      obtain ⟨e', h1, h2, h3⟩ := ih.2 k o' (by simpa using hk)
      refine ⟨e', by simpa using h1, h2, ?_⟩
      simp only [fl, gl, shift, Nat.zero_lt_succ, decide_true, if_true]
      exact h3

/-! ### what comes before what -/
inductive Bef (ops : List Oper) : Nat → Nat → Prop where
  | one {i j : Nat} {o : Oper} {e : Edge} : ops[j]? = some o → e ∈ o.after.toList → Region.binds .any e = true → e.on = i → Bef ops i j
  | more {i j : Nat} {o : Oper} {e : Edge} : ops[j]? = some o → e ∈ o.after.toList → Region.binds .any e = true → Bef ops i e.on → Bef ops i j
theorem ancE_ok {as : List Nat} {i : Nat} : ∀ {es : List Edge} {acc : Nat}, Nat.testBit (ancE es as acc) i = true → Nat.testBit acc i = true ∨ ∃ e ∈ es, Region.binds .any e = true ∧ (e.on = i ∨ Nat.testBit (as.getD e.on 0) i = true)
  | [], acc, h => .inl h
  | e :: es, acc, h => by
    unfold ancE at h
    split at h
    · rcases ancE_ok h with h | ⟨e', h1, h2⟩
      · exact .inl h
      · exact .inr ⟨e', List.mem_cons_of_mem _ h1, h2⟩
    · rcases ancE_ok h with h | ⟨e', h1, h2⟩
      · exact .inl h
      · exact .inr ⟨e', List.mem_cons_of_mem _ h1, h2⟩
    · rename_i hg1 hg2
      have hb : Region.binds .any e = true := by
        unfold Region.binds
        cases hg : e.ground <;> first | rfl | (exact absurd hg (hg1 _)) | (exact absurd hg (hg2 _))
      rcases ancE_ok h with h | ⟨e', h1, h2⟩
      · have h' : Nat.testBit ((acc ||| 2 ^ e.on) ||| as.getD e.on 0) i = true := h
        rw [Nat.testBit_or, Nat.testBit_or, Nat.testBit_two_pow, Bool.or_eq_true, Bool.or_eq_true, decide_eq_true_eq] at h'
        rcases h' with (h' | h') | h'
        · exact .inl h'
        · exact .inr ⟨e, List.mem_cons_self, hb, .inl h'⟩
        · exact .inr ⟨e, List.mem_cons_self, hb, .inr h'⟩
      · exact .inr ⟨e', List.mem_cons_of_mem _ h1, h2⟩
theorem ancs_ok {ops : List Oper} : ∀ {l : List Oper} {as : List Nat}, (∀ j, l[j]? = ops[as.length + j]?) → (∀ m i, m < as.length → Nat.testBit (as.getD m 0) i = true → Bef ops i m) →
    ∀ m i, Nat.testBit ((ancs l as).getD m 0) i = true → Bef ops i m
  | [], as, _, h, m, i, hm => by
    simp only [ancs] at hm
    by_cases hl : m < as.length
    · exact h m i hl hm
    · have : as.getD m 0 = 0 := by simp [List.getD, List.getElem?_eq_none (Nat.le_of_not_lt hl)]
      rw [this] at hm; simp at hm
  | o :: l, as, hl, h, m, i, hm => by
    simp only [ancs] at hm
    refine ancs_ok (l := l) (as := as ++ [ancE o.after.toList as 0]) (fun j => ?_) (fun m' i' hm' ht => ?_) m i hm
    · have := hl (j + 1)
      simp only [List.getElem?_cons_succ] at this
      rw [this, List.length_append, List.length_singleton, show as.length + 1 + j = as.length + (j + 1) by omega]
    · by_cases hlt : m' < as.length
      · refine h m' i' hlt ?_
        rw [show (as ++ [ancE o.after.toList as 0]).getD m' 0 = as.getD m' 0 by simp [List.getD, List.getElem?_append_left hlt]] at ht
        exact ht
      · have hm0 : m' = as.length := by simp at hm'; omega
        subst hm0
        rw [show (as ++ [ancE o.after.toList as 0]).getD as.length 0 = ancE o.after.toList as 0 by simp [List.getD]] at ht
        have ho : ops[as.length]? = some o := by have := hl 0; simpa using this.symm
        rcases ancE_ok ht with h0 | ⟨e, he, hb, hon⟩
        · simp at h0
        · rcases hon with hon | hon
          · exact .one ho he hb hon
          · by_cases hlt' : e.on < as.length
            · exact .more ho he hb (h _ _ hlt' hon)
            · have : as.getD e.on 0 = 0 := by simp [List.getD, List.getElem?_eq_none (Nat.le_of_not_lt hlt')]
              rw [this] at hon; simp at hon
theorem okPairs_ok {ops : List Oper} {x : Oper} {i : Nat} : ∀ {l : List Oper} {as : List Nat}, okPairs ops x i l as = true → ∀ k o, l[k]? = some o → Nat.testBit (as.getD k 0) i = true ∨ apartT ops x o = true
  | [], _, _, k, o, h => by simp at h
  | _ :: _, [], h, _, _, _ => by cases h
  | y :: l, a :: as, h, k, o, hk => by
    simp only [okPairs, Bool.and_eq_true, Bool.or_eq_true] at h
    cases k with
    | zero => simp at hk; subst hk; exact h.1
    | succ k => exact okPairs_ok h.2 k o (by simpa using hk)
theorem okAll_ok {ops : List Oper} : ∀ {l : List Oper} {as : List Nat} {n : Nat}, okAll ops n l as = true → ∀ i j o o', i < j → l[i]? = some o → l[j]? = some o' → Nat.testBit (as.getD j 0) (n + i) = true ∨ apartT ops o o' = true
  | [], _, _, _, i, _, _, _, _, h, _ => by simp at h
  | _ :: _, [], _, h, _, _, _, _, _, _, _ => by cases h
  | y :: l, a :: as, n, h, i, j, o, o', hij, hi, hj => by
    simp only [okAll, Bool.and_eq_true] at h
    cases j with
    | zero => omega
    | succ j =>
      have hj' : l[j]? = some o' := by simpa using hj
      cases i with
      | zero =>
        simp at hi; subst hi
        have := okPairs_ok h.1 j o' hj'
        simpa using this
      | succ i =>
        have := okAll_ok h.2 i j o o' (by omega) (by simpa using hi) hj'
        rw [show n + 1 + i = n + (i + 1) by omega] at this
        simpa using this
theorem okPairsE_ok {x : Eff} {i : Nat} : ∀ {l : List Eff} {as : List Nat}, okPairsE x i l as = true → ∀ k o, l[k]? = some o → Nat.testBit (as.getD k 0) i = true ∨ apartS x o = true
  | [], _, _, k, o, h => by simp at h
  | _ :: _, [], h, _, _, _ => by cases h
  | y :: l, a :: as, h, k, o, hk => by
    have h' : (Bool.rec (Bool.rec false (okPairsE x i l as) (Nat.testBit a i)) (okPairsE x i l as) (apartS x y) : Bool) = true := h
    have key : okPairsE x i l as = true ∧ (Nat.testBit a i = true ∨ apartS x y = true) := by
      cases h1 : apartS x y
      · rw [h1] at h'
        cases h2 : Nat.testBit a i
        · rw [h2] at h'; cases h'
        · rw [h2] at h'; exact ⟨h', .inl rfl⟩
      · rw [h1] at h'; exact ⟨h', .inr rfl⟩
    cases k with
    | zero => simp at hk; subst hk; exact key.2
    | succ k => exact okPairsE_ok key.1 k o (by simpa using hk)
theorem okAllE_ok : ∀ {l : List Eff} {as : List Nat} {n : Nat}, okAllE l n as = true → ∀ i j o o', i < j → l[i]? = some o → l[j]? = some o' → Nat.testBit (as.getD j 0) (n + i) = true ∨ apartS o o' = true
  | [], _, _, _, i, _, _, _, _, h, _ => by simp at h
  | _ :: _, [], _, h, _, _, _, _, _, _, _ => by cases h
  | y :: l, a :: as, n, h, i, j, o, o', hij, hi, hj => by
    have h' : (Bool.rec false (okAllE l (n + 1) as) (okPairsE y n l as) : Bool) = true := h
    have key : okPairsE y n l as = true ∧ okAllE l (n + 1) as = true := by
      cases h1 : okPairsE y n l as
      · rw [h1] at h'; cases h'
      · rw [h1] at h'; exact ⟨rfl, h'⟩
    cases j with
    | zero => omega
    | succ j =>
      have hj' : l[j]? = some o' := by simpa using hj
      cases i with
      | zero =>
        simp at hi; subst hi
        have := okPairsE_ok key.1 j o' hj'
        simpa using this
      | succ i =>
        have := okAllE_ok key.2 i j o o' (by omega) (by simpa using hi) hj'
        rw [show n + 1 + i = n + (i + 1) by omega] at this
        simpa using this
theorem apartT_ok {ops : List Oper} {x y : Oper} (h : apartT ops x y = true) : (∀ d, x.dst = some d → d ∉ looksN ops y ∧ y.dst ≠ some d) ∧ (∀ d, y.dst = some d → d ∉ looksN ops x) := by
  unfold apartT at h
  simp only [Bool.and_eq_true] at h
  refine ⟨fun d hd => ?_, fun d hd => ?_⟩
  · have h1 := h.1
    rw [hd] at h1
    simp only [Bool.and_eq_true, Bool.not_eq_true'] at h1
    refine ⟨fun hm => ?_, fun hy => ?_⟩
    · rw [memN_iff.2 hm] at h1; cases h1.1
    · rw [hy] at h1
      simp only [Bool.not_eq_true'] at h1
      rw [beqN.2 rfl] at h1; cases h1.2
  · have h2 := h.2
    rw [hd] at h2
    simp only [Bool.not_eq_true'] at h2
    intro hm
    rw [memN_iff.2 hm] at h2; cases h2
theorem apartS_ok {x y : Eff} (h : apartS x y = true) : (∀ i, i ∈ fstsN x.ws → i ∉ y.rd ∧ i ∉ fstsN y.ws) ∧ (∀ i, i ∈ fstsN y.ws → i ∉ x.rd) := by
  have key : (x.ws = [] ∧ y.ws = []) ∨ (!meets (fstsN x.ws) y.rd && !meets (fstsN x.ws) (fstsN y.ws) && !meets x.rd (fstsN y.ws)) = true := by
    unfold apartS at h
    split at h
    · exact .inl ⟨by assumption, by assumption⟩
    · exact .inr h
  rcases key with ⟨h1, h2⟩ | h
  · rw [h1, h2]; simp [fstsN]
  · simp only [Bool.and_eq_true, Bool.not_eq_true'] at h
    obtain ⟨⟨h1, h2⟩, h3⟩ := h
    refine ⟨fun i hi => ⟨fun hm => ?_, fun hm => ?_⟩, fun i hi hm => ?_⟩
    · rw [meets_iff.2 ⟨i, hi, hm⟩] at h1; cases h1
    · rw [meets_iff.2 ⟨i, hi, hm⟩] at h2; cases h2
    · rw [meets_iff.2 ⟨i, hm, hi⟩] at h3; cases h3
theorem edgesOk_ok : ∀ {l : List Oper} {n : Nat}, edgesOk n l = true → ∀ k o, l[k]? = some o → ∀ e ∈ o.after.toList, Region.binds .any e = true → e.on < n + k
  | [], _, _, k, o, h => by simp at h
  | y :: l, n, h, k, o, hk => by
    simp only [edgesOk, Bool.and_eq_true] at h
    cases k with
    | zero =>
      simp at hk; subst hk
      intro e he hb
      have := List.all_eq_true.1 h.1 e he
      unfold Region.binds at hb
      split at this
      · rename_i hg; rw [hg] at hb; cases hb
      · rename_i hg; rw [hg] at hb; cases hb
      · rw [Nat.ble_eq] at this; omega
    | succ k =>
      intro e he hb
      have := edgesOk_ok h.2 k o (by simpa using hk) e he hb
      omega

end Go.Proofs.YtaodbpejeglmlaaDoor
