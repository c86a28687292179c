/- A region that draws its order, the law. Nothing is assumed. -/
import Derived.Test.YtaodbpejeglmlaaDoorSo
namespace Go.Proofs.YtaodbpejeglmlaaDoor
open Go

def cntD : Nat → (Nat → Bool) → Nat
  | 0, _ => 0
  | n + 1, D => cntD n D + (if D n then 0 else 1)
theorem cntD_same : ∀ {n : Nat} {D D' : Nat → Bool}, (∀ k, k < n → D' k = D k) → cntD n D' = cntD n D
  | 0, _, _, _ => rfl
  | n + 1, D, D', h => by simp only [cntD]; rw [cntD_same fun k hk => h k (by omega), h n (by omega)]
theorem cntD_add : ∀ {n : Nat} {D D' : Nat → Bool} {i : Nat}, i < n → D i = false → (∀ k, D' k = if k = i then true else D k) → cntD n D' + 1 = cntD n D
  | 0, _, _, _, h, _, _ => by omega
  | n + 1, D, D', i, hi, hD, h => by
    simp only [cntD]
    by_cases e : i = n
    · subst e
      rw [cntD_same (D := D) (D' := D') fun k hk => by rw [h, if_neg (by omega)], h, if_pos rfl, hD]
      simp
    · have := cntD_add (n := n) (by omega) hD h
      rw [h n, if_neg (Ne.symm e)]; omega
theorem cntD_zero : ∀ {n : Nat} {D : Nat → Bool}, cntD n D = 0 → ∀ k, k < n → D k = true
  | 0, _, _, k, hk => by omega
  | n + 1, D, h, k, hk => by
    simp only [cntD] at h
    by_cases e : k = n
    · subst e
      cases hd : D k
      · rw [hd] at h; simp at h
      · rfl
    · exact cntD_zero (n := n) (by omega) k (by omega)
theorem cntD_le : ∀ (n : Nat) (D : Nat → Bool), cntD n D ≤ n
  | 0, _ => Nat.le_refl _
  | n + 1, D => by have := cntD_le n D; simp only [cntD]; split <;> omega
theorem nx_le {cx : Cx} {N : Nat} {ops l : List Oper} {tm : Nat → SV} {sg : Nat → Option Seg} {next : Nat} {es : List Eff} (h : Steps cx N ops l tm sg next es) : ∀ k, nx es next k ≤ nx es next (k + 1) := by
  induction h with
  | nil => intro k; cases k <;> exact Nat.le_refl _
  | @skip o rest tm sg next es hd hw hs ih =>
    intro k
    cases k with
    | zero => cases es <;> exact Nat.le_refl _
    | succ k => exact ih k
  | @step o rest tm sg next e0 e es hd hw hsop hob hc hs ih =>
    intro k
    cases k with
    | zero =>
      have : next ≤ e.next := by rw [(conc_ws hc).2.1]; exact sop_next hsop
      cases es <;> exact this
    | succ k => exact ih k
theorem nx_mono {cx : Cx} {N : Nat} {ops l : List Oper} {tm : Nat → SV} {sg : Nat → Option Seg} {next : Nat} {es : List Eff} (h : Steps cx N ops l tm sg next es) : ∀ j k, j ≤ k → nx es next j ≤ nx es next k := by
  intro j k hjk
  induction k with
  | zero =>
    have e : j = 0 := by omega
    subst e
    exact Nat.le_refl _
  | succ k ih =>
    by_cases e : j = k + 1
    · subst e; exact Nat.le_refl _
    · exact Nat.le_trans (ih (by omega)) (nx_le h k)
theorem looks_op {ops : List Oper} {o : Oper} {t : Nat} (h : t ∉ looksN ops o) : Operand.tmp t ∉ o.op.operands.toList := fun hm => h (mem_looks hm)

section
variable {cx : Cx} (hO : cx.O = fops) (hC : ∀ f S, cx.orc f = some S → CallOK cx.P f S)
include hO hC
theorem wp_draw {N : Nat} {Lim : Rg} {w0 : World} {T0 : Nat → Nat → Prop} {Q : Exit → Act → World → Prop} {ops : Array Oper} {id : Nat} {tm : Nat → SV} {sg : Nat → Option Seg} {next : Nat} {es : List Eff} (hmx : cx.P.follows .mixedOrders = true) (hstat : static ops.toList = true)
    (hst : Steps cx N ops.toList ops.toList tm sg next es) (hEs : okAllE es 0 (ancs ops.toList []) = true) {E : EM} {a : Act} {w : World} (hr : SRel N Lim w0 T0 E tm sg next a w) (hlim : stN es next ≤ Lim.lim)
    (hQ : ∀ E' a' w', Ext E E' → SRel N Lim w0 T0 E' (stT ops.toList es tm) (stS es sg) (stN es next) a' w' → Q .normal a' w') : (Code.region id ops true).wp cx.P Q a w := by
  simp only [static, Bool.and_eq_true] at hstat
  obtain ⟨hed, hpr⟩ := hstat
  obtain ⟨hlen, hat⟩ := steps_at hst
  have hn : ops.toList.length = ops.size := by simp
  -- neither waits for the other: they do not meet
  have bef : ∀ i j, Nat.testBit ((ancs ops.toList []).getD j 0) i = true → Bef ops.toList i j := fun i j h => ancs_ok (ops := ops.toList) (l := ops.toList) (as := []) (by simp) (fun m i hm => by simp at hm) j i h
  have pairT : ∀ i j o o', i < j → ops.toList[i]? = some o → ops.toList[j]? = some o' → Bef ops.toList i j ∨ apartT ops.toList o o' = true := fun i j o o' hij hi hj => by
    have := okAll_ok hpr i j o o' hij hi hj
    rw [Nat.zero_add] at this
    exact this.imp (bef i j) fun h => h
  have pairS : ∀ i j e e', i < j → es[i]? = some e → es[j]? = some e' → Bef ops.toList i j ∨ apartS e e' = true := fun i j o o' hij hi hj => by
    have := okAllE_ok hEs i j o o' hij hi hj
    rw [Nat.zero_add] at this
    exact this.imp (bef i j) fun h => h
  refine wp_region_any hmx ?_
  -- the invariant
  let Inv : Array Bool → Act → World → Prop := fun listed a w =>
    listed.size = ops.size ∧ (∀ k o, ops.toList[k]? = some o → listed.getD k false = true → ∀ e ∈ o.after.toList, Region.binds .any e = true → listed.getD e.on false = true) ∧
    ∃ E', Ext E E' ∧ (∀ t, RelV E' (fl (fun k => listed.getD k false) ops.toList es tm t) (a.tmps.getD t undef)) ∧ a.tmps.size = N ∧ a.defers = [] ∧ MemRel w0 T0 E' (gl (fun k => listed.getD k false) es sg) w ∧
      (∀ i, E' i ≠ none → E i ≠ none ∨ ∃ k, k < ops.size ∧ listed.getD k false = true ∧ nx es next k ≤ i ∧ i < nx es next (k + 1))
  have closedB : ∀ {listed : Array Bool}, (∀ k o, ops.toList[k]? = some o → listed.getD k false = true → ∀ e ∈ o.after.toList, Region.binds .any e = true → listed.getD e.on false = true) → ∀ {i j}, Bef ops.toList i j → listed.getD j false = true → listed.getD i false = true := by
    intro listed hcl i j hb
    induction hb with
    | one ho he hbd hon => intro hj; rw [← hon]; exact hcl _ _ ho hj _ he hbd
    | more ho he hbd _ ih => intro hj; exact ih (hcl _ _ ho hj _ he hbd)
  have allDone : ∀ {listed : Array Bool}, listed.size = ops.size → Region.ready .any ops listed = [] → ∀ k, k < ops.size → listed.getD k false = true := by
    intro listed hsz hrd k
    induction k using Nat.strongRecOn with
    | _ k ih =>
      intro hk
      cases hd : listed.getD k false with
      | true => rfl
      | false =>
        exfalso
        have ho : ops[k]? = some ops[k] := by simp [hk]
        have hmem : k ∈ Region.ready .any ops listed := by
          refine mem_ready.2 ⟨?_, ops[k], ho, fun e he hb => ?_⟩
          · have hlt : k < listed.size := by omega
            simp only [Array.getD, hlt, dif_pos] at hd ⊢; exact hd
          · have := edgesOk_ok hed k ops[k] (by rw [Array.getElem?_toList]; exact ho) e (by simpa using he) hb
            rw [Nat.zero_add] at this
            exact ih e.on this (by omega)
        rw [hrd] at hmem; simp at hmem
  have final : ∀ {listed : Array Bool} {a : Act} {w : World}, Inv listed a w → Region.ready .any ops listed = [] → Q .normal a w := by
    rintro listed a' w' ⟨hsz, hcl, E', h1, h2, h3, h4, h5, h6⟩ hrd
    have hall := allDone hsz hrd
    refine hQ E' a' w' h1 ⟨fun t => ?_, h3, h4, ?_, fun i hi1 => ?_, hr.old, Nat.le_trans hr.bn (Steps.mono hst), Nat.le_trans hr.pos (Steps.mono hst)⟩
    · have := h2 t
      rw [fl_all _ _ _ _ fun k hk => hall k (by omega)] at this
      exact this
    · rw [gl_all _ _ _ fun k hk => hall k (by omega)] at h5; exact h5
    · have hnx := nx_all es next
      rcases h6 i hi1 with h7 | ⟨k, h7, _, h8, h9⟩
      · exact (hr.news i h7).imp (fun h => h) fun h4 => ⟨h4.1, Nat.lt_of_lt_of_le h4.2 (Steps.mono hst)⟩
      · have e1 := nx_mono hst (k + 1) es.length (by omega)
        have e2 : next ≤ nx es next k := by have := nx_mono hst 0 k (Nat.zero_le _); cases es <;> exact this
        exact .inr ⟨Nat.le_trans hr.bn (Nat.le_trans e2 h8), by omega⟩
  have main : ∀ (fuel : Nat) (listed : Array Bool) (a : Act) (w : World), Inv listed a w → cntD ops.size (fun k => listed.getD k false) ≤ fuel → wpAny cx.P .any ops Q fuel listed a w := by
    intro fuel
    induction fuel with
    | zero =>
      intro listed a w hinv hc
      have hrd : Region.ready .any ops listed = [] := by
        cases hh : Region.ready .any ops listed with
        | nil => rfl
        | cons i r =>
          exfalso
          have hi : i ∈ Region.ready .any ops listed := by rw [hh]; simp
          obtain ⟨h1, o, ho, _⟩ := mem_ready.1 hi
          have hlt : i < ops.size := (Array.getElem?_eq_some_iff.1 ho).1
          have := cntD_zero (Nat.le_zero.1 hc) i hlt
          have hls : i < listed.size := by rw [hinv.1]; exact hlt
          simp only [Array.getD, hls, dif_pos] at h1 this
          rw [h1] at this; cases this
      exact ⟨hrd, final hinv hrd⟩
    | succ fuel ih =>
      intro listed a w hinv hc
      refine ⟨fun hrd => final hinv hrd, fun i hi => ?_⟩
      obtain ⟨hun, o, ho, hpre⟩ := mem_ready.1 hi
      have hlt : i < ops.size := (Array.getElem?_eq_some_iff.1 ho).1
      obtain ⟨hsz, hcl, E', h1, h2, h3, h4, h5, h6⟩ := hinv
      have hoL : ops.toList[i]? = some o := by rw [Array.getElem?_toList]; exact ho
      have hls : i < listed.size := by rw [hsz]; exact hlt
      have hDi : listed.getD i false = false := by
        simp only [Array.getD, hls, dif_pos] at hun ⊢; exact hun
      have hD' : ∀ k, (listed.setIfInBounds i true).getD k false = if k = i then true else listed.getD k false := by
        intro k
        by_cases e : k = i
        · subst e
          rw [if_pos rfl]
          have : k < (listed.setIfInBounds k true).size := by simpa using hls
          simp [Array.getD, hls]
        · rw [if_neg e, getD_set_ne false (Ne.symm e)]
      have befL : ∀ j, Bef ops.toList j i → listed.getD j false = true := by
        intro j hb
        cases hb with
        | one ho' he hbd hon => rw [hoL] at ho'; cases ho'; rw [← hon]; exact hpre _ (by simpa using he) hbd
        | more ho' he hbd hb' => rw [hoL] at ho'; cases ho'; exact closedB hcl hb' (hpre _ (by simpa using he) hbd)
      obtain ⟨e, hei, hd, hcase⟩ := hat i o hoL
      have later : ∀ k o', i < k → ops.toList[k]? = some o' → listed.getD k false = true → apartT ops.toList o o' = true := by
        intro k o' hik hk hdone
        rcases pairT i k o o' hik hoL hk with hb | hb
        · have := closedB hcl hb hdone; rw [hDi] at this; cases this
        · exact hb
      have laterS : ∀ k e', i < k → es[k]? = some e' → listed.getD k false = true → apartS e e' = true := by
        intro k e' hik hk hdone
        rcases pairS i k e e' hik hei hk with hb | hb
        · have := closedB hcl hb hdone; rw [hDi] at this; cases this
        · exact hb
      -- what it looks at is as in the text's order
      have agreeT : ∀ t, t ∈ looksN ops.toList o → fl (fun k => listed.getD k false) ops.toList es tm t = fl (fun j => decide (j < i)) ops.toList es tm t := by
        intro t ht
        refine fl_agree _ _ _ _ _ _ t rfl fun k o' hk hdst => ?_
        rcases Nat.lt_trichotomy k i with hki | hki | hki
        · rw [show decide (k < i) = true by simp [hki]]
          rcases pairT k i o' o hki hk hoL with hb | hb
          · exact befL k hb
          · exact absurd ht ((apartT_ok hb).1 t hdst).1
        · subst hki; simp [hDi]
        · rw [show decide (k < i) = false by simp; omega]
          cases hd : listed.getD k false with
          | false => rfl
          | true => exact absurd ht ((apartT_ok (later k o' hki hk hd)).2 t hdst)
      have agreeS : ∀ x, x ∈ e.rd → gl (fun k => listed.getD k false) es sg x = gl (fun j => decide (j < i)) es sg x := by
        intro x hx
        refine gl_agree _ _ _ _ _ x rfl fun k e' hk hws => ?_
        rcases Nat.lt_trichotomy k i with hki | hki | hki
        · rw [show decide (k < i) = true by simp [hki]]
          rcases pairS k i e' e hki hk hei with hb | hb
          · exact befL k hb
          · exact absurd hx ((apartS_ok hb).1 x hws).1
        · subst hki; simp [hDi]
        · rw [show decide (k < i) = false by simp; omega]
          cases hd : listed.getD k false with
          | false => rfl
          | true => exact absurd hx ((apartS_ok (laterS k e' hki hk hd)).2 x hws)
      have hfl := fl_add ops.toList es (fun k => listed.getD k false) (fun k => (listed.setIfInBounds i true).getD k false) i o e tm hoL hei hDi hD' (fun k o' hik hk hdone x hx => ((apartT_ok (later k o' hik hk hdone)).1 x hx).2)
      have hgl := gl_add es (fun k => listed.getD k false) (fun k => (listed.setIfInBounds i true).getD k false) i e sg hei hDi hD' (fun k e' hik hk hdone x hx => ((apartS_ok (laterS k e' hik hk hdone)).1 x hx).2)
      have hcnt : cntD ops.size (fun k => (listed.setIfInBounds i true).getD k false) ≤ fuel := by
        have := cntD_add (n := ops.size) hlt hDi hD'; omega
      have hcl' : ∀ k o, ops.toList[k]? = some o → (listed.setIfInBounds i true).getD k false = true → ∀ e ∈ o.after.toList, Region.binds .any e = true → (listed.setIfInBounds i true).getD e.on false = true := by
        intro k o' hk hdone e' he hb
        rw [hD'] at hdone
        rw [hD']
        split
        · rfl
        · by_cases ek : k = i
          · subst ek; rw [hoL] at hk; cases hk; exact hpre _ (by simpa using he) hb
          · rw [if_neg ek] at hdone; exact hcl k o' hk hdone e' he hb
      have hnx : nx es next (i + 1) = e.next := nx_succ es next i e hei
      rcases hcase with ⟨hw, hes⟩ | ⟨hw, e0, hsop, hob, hc⟩
      · -- it is passed over
        rw [← wanted_congr agreeT] at hw
        refine skip_ok ho h2 hw (ih _ _ _ ⟨by simpa using hsz, hcl', E', h1, fun t => ?_, by rw [put_size]; exact h3, by rw [put_defers]; exact h4, ?_, fun x hx => ?_⟩ hcnt)
        · rw [hfl]
          exact appT_rel (Ext.refl E') h2 h3 hd (by rw [hes]; rfl) t
        · rw [hgl, hes]; exact h5
        · rcases h6 x hx with h7 | ⟨k, h7, h8, h9⟩
          · exact .inl h7
          · exact .inr ⟨k, h7, by rw [hD']; split <;> first | rfl | exact h8, h9⟩
      · rw [← wanted_congr agreeT] at hw
        obtain ⟨c1, c2, c3⟩ := conc_ws hc
        have hsop' : sop cx (fl (fun k => listed.getD k false) ops.toList es tm) (gl (fun k => listed.getD k false) es sg) (nx es next i) o.op = some e0 :=
          sop_congr hsop (fun t ht => agreeT t (mem_looks ht)) (fun x hx => agreeS x (by rw [c3]; exact hx))
        have hpos : 1 ≤ nx es next i := Nat.le_trans hr.pos (by have := nx_mono hst 0 i (Nat.zero_le _); cases es <;> exact this)
        have hstart : next ≤ nx es next i := by have := nx_mono hst 0 i (Nat.zero_le _); cases es <;> exact this
        have hend : nx es next (i + 1) ≤ Lim.lim := by
          have := nx_mono hst (i + 1) es.length (by omega)
          rw [nx_all] at this; omega
        refine op_ok hO hC (N := N) ho h2 h5 hpos hw hsop' hob hc (fun x hx1 hx2 => ?_) fun E'' v w' p1 p2 p3 p4 => ?_
        · cases hE : E' x with
          | none => rfl
          | some y =>
            exfalso
            rcases h6 x (by rw [hE]; simp) with h7 | ⟨k, h7, h8, h9, h10⟩
            · exact h7 (hr.fresh x (by omega) (by omega))
            · rcases Nat.lt_trichotomy k i with hki | hki | hki
              · have := nx_mono hst (k + 1) i (by omega); omega
              · subst hki; rw [hDi] at h8; cases h8
              · have := nx_mono hst (i + 1) k (by omega); omega
        · refine ih _ _ _ ⟨by simpa using hsz, hcl', E'', h1.trans p1, fun t => ?_, by rw [put_size]; exact h3, by rw [put_defers]; exact h4, ?_, fun x hx => ?_⟩ hcnt
          · rw [hfl]; exact appT_rel p1 h2 h3 hd p3 t
          · rw [hgl]; exact p4
          · rcases p2 x hx with h7 | ⟨h7, h8⟩
            · rcases h6 x h7 with h9 | ⟨k, h9, h10, h11⟩
              · exact .inl h9
              · exact .inr ⟨k, h9, by rw [hD']; split <;> first | rfl | exact h10, h11⟩
            · exact .inr ⟨i, hlt, by rw [hD', if_pos rfl], h7, by rw [hnx]; exact h8⟩
  have hD0 : ∀ k, (Array.replicate ops.size false).getD k false = false := by
    intro k
    simp [Array.getD_eq_getD_getElem?, Array.getElem?_replicate]
    split <;> rfl
  refine main ops.size _ a _ ⟨by simp, fun k o hk hd => (by rw [hD0] at hd; cases hd), E, Ext.refl E, fun t => ?_, hr.size, hr.dfr, ?_, fun i hi => .inl hi⟩ (cntD_le _ _)
  · rw [fl_none _ _ _ _ hD0]; exact hr.tm t
  · rw [gl_none _ _ _ hD0]
    exact hr.mem.congr rfl rfl rfl
end

end Go.Proofs.YtaodbpejeglmlaaDoor
