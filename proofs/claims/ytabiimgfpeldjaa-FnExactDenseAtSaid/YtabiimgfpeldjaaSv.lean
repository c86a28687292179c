/- A law's row: what stays, what an argument is. Nothing is assumed. -/
import Derived.Test.YtabiimgfpeldjaaSu
import Derived.ChangeSame
import Derived.ChangeStays
import Derived.ReadAgain
import Derived.RowKit2
import Derived.WideWitness
namespace Go.Proofs.Ytabiimgfpeldjaa
open Go Go.RowKit Go.ChangeShapes Go.WideShapes

theorem grown_heap {w w' : World} (h : Grown w w') {i : Nat} (hi : i < w.heap.size) : w'.heap[i]? = w.heap[i]? := by
  have := h.1.2.2 i hi
  cases ho : w.heap[i]? with
  | none => rw [Array.getElem?_eq_none_iff] at ho; omega
  | some o =>
    cases ho' : w'.heap[i]? with
    | none =>
      rw [ho, ho'] at this
      cases o <;> simp at this
    | some o' =>
      rw [ho, ho'] at this
      cases o with
      | cells c t fr =>
        cases o' with
        | cells c' t' fr' =>
          obtain ⟨rfl, rfl, h3, h4⟩ := this
          have : c' = c := Array.ext h3 fun j h1 h2 => by
            have := h4 j (fun h => h)
            rw [Array.getElem?_eq_getElem h1, Array.getElem?_eq_getElem h2] at this
            exact Option.some.inj this
          rw [this]
        | _ => simp at this
      | map es c =>
        cases o' with
        | map es' c' =>
          rcases this with h | ⟨rfl, rfl⟩
          · exact h.elim
          · rfl
        | _ => simp at this
      | _ => simp at this; rw [this]
theorem grown_same {w w' : World} (h : Grown w w') {p : MemPlace} (hp : p.block < w.heap.size) : w.sameAt w' p := by
  cases p with
  | cell b off =>
    show w'.cell? ⟨b, off, none⟩ = w.cell? ⟨b, off, none⟩
    unfold World.cell?
    have e : w'.heap[b]? = w.heap[b]? := grown_heap h hp
    simp only [e]
  | map b => exact grown_heap h hp
section
variable {H : Type} {enc : TypeId × Value → H} {P : Program} {w w' : World}
theorem args_stay (K : Kids P (· < P.types.size)) (hz : ∀ t e, t < P.types.size → P.underlying t = some (.slice e) → 0 < P.cellsOf e) {sp : Nat → Bool} (hg : Grown w w') :
    ∀ {ts : List TypeId} {vs : List Value} {ds : List (DataW H)} {ps : List MemPlace}, (∀ t ∈ ts, t < P.types.size) → DataW.TrodAll enc P w 0 (fun _ => true) true ts vs ds ps → (∀ p ∈ ps, p.block < w.heap.size) → (∀ p ∈ ps, sp p.block = true) → DataW.TrodAll enc P w' 0 sp true ts vs ds ps
  | [], [], [], _, _, h, _, _ => h
  | t :: _, v :: _, d :: _, _, hT, ⟨p, q, ⟨n, h1⟩, h2, e⟩, hl, hs =>
    ⟨p, q, ⟨n, DataW.trod_stays K (fun {t e} => hz t e) (fun h => by cases h) (hT _ (List.mem_cons.2 (.inl rfl))) h1 (fun x hx => grown_same hg (hl x (by rw [e]; exact List.mem_append_left _ hx))) (fun x hx => hs x (by rw [e]; exact List.mem_append_left _ hx))⟩,
      args_stay K hz hg (fun t ht => hT t (List.mem_cons.2 (.inr ht))) h2 (fun x hx => hl x (by rw [e]; exact List.mem_append_right _ hx)) (fun x hx => hs x (by rw [e]; exact List.mem_append_right _ hx)), e⟩
theorem trodAll_len : ∀ {ts : List TypeId} {vs : List Value} {ds : List (DataW H)} {ps : List MemPlace} {sp : Nat → Bool}, DataW.TrodAll enc P w 0 sp true ts vs ds ps → vs.length = ts.length ∧ ds.length = ts.length
  | [], [], [], _, _, _ => ⟨rfl, rfl⟩
  | _ :: _, _ :: _, _ :: _, _, _, ⟨_, _, _, h2, _⟩ => by
    have := trodAll_len h2
    exact ⟨by simp [this.1], by simp [this.2]⟩
  | [], _ :: _, _, _, _, h => h.elim
  | [], [], _ :: _, _, _, h => h.elim
  | _ :: _, [], _, _, _, h => h.elim
  | _ :: _, _ :: _, [], _, _, h => h.elim
end

/-! ### what an argument is -/
section
variable {P : Program} {W : World} {base : Nat} {E : EM}
theorem has_lt {k : FloatKind} {b : Nat} (h : k.has b) : b < 2 ^ k.format.width := by
  cases k
  · rw [show 2 ^ FloatKind.f32.format.width = 2 ^ 32 from rfl]; simpa [FloatKind.has] using h
  · rw [show 2 ^ FloatKind.f64.format.width = 2 ^ 64 from rfl]; simpa [FloatKind.has] using h
theorem cell_flt {t : TypeId} {k : FloatKind} {v : Value} (ht : P.underlying t = some (.float k)) (h : Cell.okWide P W .any base t v) : ∃ x, Cn k x ∧ FR k x v := by
  simp only [Cell.okWide, ht] at h
  have h' : ∃ b, v = .float k b ∧ k.has b := by
    cases v <;> simp_all [Cell.ok]
  obtain ⟨b, rfl, hb⟩ := h'
  exact ⟨can k b, ⟨b, has_lt hb, rfl⟩, b, rfl, has_lt hb, rfl⟩
theorem val_flt {t : TypeId} {k : FloatKind} {v : Value} (ht : P.underlying t = some (.float k)) (h : Value.okWide P W .any base t v) : ∃ x, Cn k x ∧ FR k x v := by
  simp only [Value.okWide, ht] at h
  exact cell_flt ht h
theorem val_int {t : TypeId} {k : IntKind} {v : Value} (ht : P.underlying t = some (.int k)) (h : Value.okWide P W .any base t v) : ∃ n, v = .int k n ∧ k.min ≤ n ∧ n ≤ k.max := by
  simp only [Value.okWide, ht, Cell.okWide] at h
  cases v <;> simp only [Cell.ok, ht] at h
  obtain ⟨rfl, h1, h2⟩ := h
  exact ⟨_, rfl, h1, h2⟩
end
end Go.Proofs.Ytabiimgfpeldjaa
