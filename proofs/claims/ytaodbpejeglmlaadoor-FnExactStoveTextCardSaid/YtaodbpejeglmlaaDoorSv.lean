/- A law's row: what stays, what an argument is. Nothing is assumed. -/
import Derived.Test.YtaodbpejeglmlaaDoorSu
import Derived.ChangeSame
import Derived.ChangeStays
import Derived.ReadAgain
import Derived.RowKit2
import Derived.WideWitness
namespace Go.Proofs.YtaodbpejeglmlaaDoor
open Go Go.RowKit Go.ChangeShapes Go.WideShapes

theorem grown_heap {w w' : World} (h : Grown w w') {i : Nat} (hi : i < w.heap.size) : w'.heap[i]? = w.heap[i]? := by
  have := h.1.2.2 i hi
  cases ho : w.heap[i]? with
  | none => rw [Array.getElem?_eq_none_iff] at ho; omega
  | some o =>
    cases ho' : w'.heap[i]? with
    | none =>
      rw [ho, ho'] at this
      cases o <;> simp at this
    | some o' =>
      rw [ho, ho'] at this
      cases o with
      | cells c t fr =>
        cases o' with
        | cells c' t' fr' =>
          obtain ⟨rfl, rfl, h3, h4⟩ := this
          have : c' = c := Array.ext h3 fun j h1 h2 => by
            have := h4 j (fun h => h)
            rw [Array.getElem?_eq_getElem h1, Array.getElem?_eq_getElem h2] at this
            exact Option.some.inj this
          rw [this]
        | _ => simp at this
      | map es c =>
        cases o' with
        | map es' c' =>
          rcases this with h | ⟨rfl, rfl⟩
          · exact h.elim
          · rfl
        | _ => simp at this
      | _ => simp at this; rw [this]
theorem grown_same {w w' : World} (h : Grown w w') {p : MemPlace} (hp : p.block < w.heap.size) : w.sameAt w' p := by
  cases p with
  | cell b off =>
    show w'.cell? ⟨b, off, none⟩ = w.cell? ⟨b, off, none⟩
    unfold World.cell?
    have e : w'.heap[b]? = w.heap[b]? := grown_heap h hp
    simp only [e]
  | map b => exact grown_heap h hp
section
variable {H : Type} {enc : TypeId × Value → H} {P : Program} {w w' : World}
theorem args_stay (K : Kids P (· < P.types.size)) (hz : ∀ t e, t < P.types.size → P.underlying t = some (.slice e) → 0 < P.cellsOf e) {sp : Nat → Bool} (hg : Grown w w') :
    ∀ {ts : List TypeId} {vs : List Value} {ds : List (DataW H)} {ps : List MemPlace}, (∀ t ∈ ts, t < P.types.size) → DataW.TrodAll enc P w 0 (fun _ => true) true ts vs ds ps → (∀ p ∈ ps, p.block < w.heap.size) → (∀ p ∈ ps, sp p.block = true) → DataW.TrodAll enc P w' 0 sp true ts vs ds ps
  | [], [], [], _, _, h, _, _ => h
  | t :: _, v :: _, d :: _, _, hT, ⟨p, q, ⟨n, h1⟩, h2, e⟩, hl, hs =>
    ⟨p, q, ⟨n, DataW.trod_stays K (fun {t e} => hz t e) (fun h => by cases h) (hT _ (List.mem_cons.2 (.inl rfl))) h1 (fun x hx => grown_same hg (hl x (by rw [e]; exact List.mem_append_left _ hx))) (fun x hx => hs x (by rw [e]; exact List.mem_append_left _ hx))⟩,
      args_stay K hz hg (fun t ht => hT t (List.mem_cons.2 (.inr ht))) h2 (fun x hx => hl x (by rw [e]; exact List.mem_append_right _ hx)) (fun x hx => hs x (by rw [e]; exact List.mem_append_right _ hx)), e⟩
/-- The row's answer, where what was is as it was: only the places that were are asked about. -/
theorem post_of_same {f : Func} {s : ChangeSpec} {apart fresh handsOn again : Bool} {W W' : World} {args : Array Value} {v : Value} {ds gs : List (DataW H)} {before pa pv : List MemPlace}
    (hW : DataW.Whole enc P f.params.toList s.vars apart W args.toList ds gs before)
    (hres : ∀ (b : Nat) (sp : Nat → Bool) (hd : Bool), DataW.TrodAll enc P W' b sp hd f.resultTypes.toList (v.resultList f.resultTypes.size) (s.fn H (ds ++ gs)).results [])
    (hargs : ∀ sp : Nat → Bool, (∀ p ∈ before, sp p.block = true) → DataW.TrodAll enc P W' 0 sp true f.params.toList args.toList (s.fn H (ds ++ gs)).args pa)
    (hvars : ∀ sp : Nat → Bool, (∀ p ∈ before, sp p.block = true) → DataW.TrodVars enc P W' sp s.vars (s.fn H (ds ++ gs)).vars pv)
    (hps : before = pa ++ pv) (hk : W.keptBut W' (· ∈ before)) (hfz : ∀ a : Addr, a.block < W.heap.size → W'.frozen? a = W.frozen? a)
    (hok : ∀ (j : Nat) (t : TypeId) (r : Value), f.resultTypes[j]? = some t → (v.resultList f.resultTypes.size)[j]? = some r → Value.okWide P W' .any 0 t r) :
    s.post enc P f apart fresh handsOn again W args v W' := by
  have hlt := hW.lt
  have hb : ∀ p ∈ before, decide (p.block < W.heap.size) = true := fun p hp => decide_eq_true (hlt p hp)
  refine ⟨ds, gs, before, [], pa, pv, hW, hres _ _ _, hargs _ hb, hvars _ hb, World.keptBut_mono (fun p hp => ⟨hp, by rw [hps, List.mem_append] at hp; exact .inr hp⟩) hk, fun _ => ?_⟩
  obtain ⟨_, _, _, _, _, hz, hn⟩ := hW
  refine ⟨hok, _, _, ([] ++ pa) ++ pv, ⟨[] ++ pa, pv, trodAll_append (hargs _ (fun _ _ => rfl)) (hres _ _ _), hvars _ (fun _ _ => rfl), rfl, fun b off hp => ?_, fun ha => ?_⟩, fun p hp _ => by rw [hps]; simpa using hp⟩
  · have hm : MemPlace.cell b off ∈ before := by rw [hps]; simpa using hp
    rw [hfz _ (hlt _ hm)]
    exact hz b off hm
  · have := hn ha
    rw [hps] at this
    simpa using this
theorem trodAll_len : ∀ {ts : List TypeId} {vs : List Value} {ds : List (DataW H)} {ps : List MemPlace} {sp : Nat → Bool}, DataW.TrodAll enc P w 0 sp true ts vs ds ps → vs.length = ts.length ∧ ds.length = ts.length
  | [], [], [], _, _, _ => ⟨rfl, rfl⟩
  | _ :: _, _ :: _, _ :: _, _, _, ⟨_, _, _, h2, _⟩ => by
    have := trodAll_len h2
    exact ⟨by simp [this.1], by simp [this.2]⟩
  | [], _ :: _, _, _, _, h => h.elim
  | [], [], _ :: _, _, _, h => h.elim
  | _ :: _, [], _, _, _, h => h.elim
  | _ :: _, _ :: _, [], _, _, h => h.elim
end

/-! ### what an argument is -/
section
variable {P : Program} {W : World} {base : Nat} {E : EM}
theorem has_lt {k : FloatKind} {b : Nat} (h : k.has b) : b < 2 ^ k.format.width := by
  cases k
  · rw [show 2 ^ FloatKind.f32.format.width = 2 ^ 32 from rfl]; simpa [FloatKind.has] using h
  · rw [show 2 ^ FloatKind.f64.format.width = 2 ^ 64 from rfl]; simpa [FloatKind.has] using h
theorem cell_flt {t : TypeId} {k : FloatKind} {v : Value} (ht : P.underlying t = some (.float k)) (h : Cell.okWide P W .any base t v) : ∃ x, Cn k x ∧ FR k x v := by
  simp only [Cell.okWide, ht] at h
  have h' : ∃ b, v = .float k b ∧ k.has b := by
    cases v <;> simp_all [Cell.ok]
  obtain ⟨b, rfl, hb⟩ := h'
  exact ⟨can k b, ⟨b, has_lt hb, rfl⟩, b, rfl, has_lt hb, rfl⟩
theorem val_flt {t : TypeId} {k : FloatKind} {v : Value} (ht : P.underlying t = some (.float k)) (h : Value.okWide P W .any base t v) : ∃ x, Cn k x ∧ FR k x v := by
  simp only [Value.okWide, ht] at h
  exact cell_flt ht h
theorem val_int {t : TypeId} {k : IntKind} {v : Value} (ht : P.underlying t = some (.int k)) (h : Value.okWide P W .any base t v) : ∃ n, v = .int k n ∧ k.min ≤ n ∧ n ≤ k.max := by
  simp only [Value.okWide, ht, Cell.okWide] at h
  cases v <;> simp only [Cell.ok, ht] at h
  obtain ⟨rfl, h1, h2⟩ := h
  exact ⟨_, rfl, h1, h2⟩
theorem cn0 (k : FloatKind) : Cn k 0 := ⟨0, Nat.two_pow_pos _, by cases k <;> decide +kernel⟩
/-- A struct or an array of numbers alone. -/
theorem val_floats {t tf : TypeId} {k : FloatKind} {n : Nat} {v : Value} (ht : tagg P t = some true) (hts : P.cellTypes P.depth t = some (List.replicate n tf)) (htf : P.underlying tf = some (.float k)) (hc : P.cellsOf t = n) (h : Value.okWide P W .any base t v) :
    ∃ f : Nat → Nat, (∀ i, Cn k (f i)) ∧ RelV E (.a ((List.range n).map fun i => .flt k (f i))) v := by
  have h' : ∃ cs, v = .agg cs ∧ cs.size = P.cellsOf t ∧ Row.okWide P W .any base t cs := by
    unfold tagg at ht
    unfold Value.okWide at h
    split at h
    · exact h
    · exact h
    · rename_i h1 h2
      split at ht
      · rename_i hu; exact absurd hu (h1 _)
      · rename_i hu; exact absurd hu (h2 _ _)
      · cases ht
      · cases ht
  obtain ⟨cs, rfl, hsz, ts, hts', _, hall⟩ := h'
  rw [hts] at hts'
  cases hts'
  rw [hc] at hsz
  have hcell : ∀ i, i < n → ∃ x, Cn k x ∧ ∃ u, cs[i]? = some u ∧ FR k x u := by
    intro i hi
    have hcs : cs[i]? = some cs[i] := Array.getElem?_eq_getElem (by omega)
    obtain ⟨u, hu, hok⟩ := hall i _ hcs
    rw [List.length_replicate, Nat.mod_eq_of_lt hi, List.getElem?_replicate, if_pos hi] at hu
    cases hu
    obtain ⟨x, h1, h2⟩ := cell_flt htf hok
    exact ⟨x, h1, _, hcs, h2⟩
  refine ⟨fun i => if h : i < n then Classical.choose (hcell i h) else 0, fun i => ?_, cs, rfl, RelL.of_get (by simp [hsz]) fun i hi => ?_⟩
  · dsimp only
    split
    · rename_i h; exact (Classical.choose_spec (hcell i h)).1
    · exact cn0 k
  · simp only [List.length_map, List.length_range] at hi
    obtain ⟨_, u, hu, hr⟩ := Classical.choose_spec (hcell i hi)
    refine ⟨u, by rw [Array.getElem?_toList]; exact hu, ?_⟩
    simp only [List.getElem_map, List.getElem_range, dif_pos hi]
    exact hr
end
end Go.Proofs.YtaodbpejeglmlaaDoor
