/- Loops in general: a search, a sum. Nothing is assumed. -/
import Derived.Test.YtaodbpejeglmlaaDoorRw
import Derived.Test.YtaodbpejeglmlaaDoorHd
namespace Go.Proofs.YtaodbpejeglmlaaDoor
open Go
section
variable {cx : Cx} {N : Nat} {lp : Nat → Option (List Ly → Top → Option Outs)} {x : Code} {nx0 mx : Nat} {sk : Sk}
/-- One round leads from 'p' to 'q'. -/
def Goes (cx : Cx) (N : Nat) (lp : Nat → Option (List Ly → Top → Option Outs)) (x : Code) (nx0 mx : Nat) (sk skE : Sk) (p : List LD) (k : Option XK) (q : List LD) : Prop :=
  ∃ ts ρ ob, (goL cx N ⟨ts, lp⟩ x nx0 mx sk ρ skE p = some (k, q, ob) ∨ ∃ j, goJ cx N ⟨ts, lp⟩ x j nx0 mx sk ρ skE p = some (k, q, ob)) ∧ AllT ob
theorem Goes.mk {skE : Sk} {p q : List LD} {k : Option XK} (ts : Nat → Option Bool) {ρ : List (Nat × Nat)} {ob : List Bool} (h : goL cx N ⟨ts, lp⟩ x nx0 mx sk ρ skE p = some (k, q, ob)) (ho : AllT ob) : Goes cx N lp x nx0 mx sk skE p k q := ⟨ts, ρ, ob, .inl h, ho⟩
theorem Goes.mkJ {skE : Sk} {p q : List LD} {k : Option XK} (ts : Nat → Option Bool) (j : Nat) {ρ : List (Nat × Nat)} {ob : List Bool} (h : goJ cx N ⟨ts, lp⟩ x j nx0 mx sk ρ skE p = some (k, q, ob)) (ho : AllT ob) : Goes cx N lp x nx0 mx sk skE p k q := ⟨ts, ρ, ob, .inr ⟨j, h⟩, ho⟩
theorem Goes.step {p q : List LD} (h : Goes cx N lp x nx0 mx sk sk p none q) {xk : XK} {skE : Sk} {pE : List LD} (hl : Loops cx N lp x nx0 mx sk q xk skE pE) : Loops cx N lp x nx0 mx sk p xk skE pE := by
  obtain ⟨ts, ρ, ob, h1 | ⟨j, h1⟩, h2⟩ := h
  · exact .step h1 h2 hl
  · exact .stepJ h1 h2 hl
theorem Goes.done {p q : List LD} {xk : XK} {skE : Sk} (h : Goes cx N lp x nx0 mx sk skE p (some xk) q) : Loops cx N lp x nx0 mx sk p xk skE q := by
  obtain ⟨ts, ρ, ob, h1 | ⟨j, h1⟩, h2⟩ := h
  · exact .done h1 h2
  · exact .doneJ h1 h2
/-- A search: all rounds say yes, or one says no. -/
theorem scan_loops {skE skR : Sk} {D : Int → List LD} {E R : List LD} {q : Int → Bool} {n : Int} {xE xR : XK}
    (h1 : ∀ k, 0 ≤ k → k < n → q k = true → Goes cx N lp x nx0 mx sk sk (D k) none (D (k + 1)))
    (h2 : ∀ k, 0 ≤ k → k < n → q k = false → Goes cx N lp x nx0 mx sk skR (D k) (some xR) R)
    (h3 : Goes cx N lp x nx0 mx sk skE (D n) (some xE) E) : ∀ (m : Nat) (k : Int), 0 ≤ k → k + m = n →
    (eqFrom q k m = true → Loops cx N lp x nx0 mx sk (D k) xE skE E) ∧ (eqFrom q k m = false → Loops cx N lp x nx0 mx sk (D k) xR skR R) := by
  intro m
  induction m with
  | zero =>
    intro k hk hkn
    have e : k = n := by omega
    subst e
    exact ⟨fun _ => h3.done, fun h => by cases h⟩
  | succ m ih =>
    intro k hk hkn
    obtain ⟨i1, i2⟩ := ih (k + 1) (by omega) (by omega)
    have hE : eqFrom q k (m + 1) = bif q k then eqFrom q (k + 1) m else false := rfl
    rw [hE]
    cases hq : q k with
    | true => exact ⟨fun h => (h1 k hk (by omega) hq).step (i1 h), fun h => (h1 k hk (by omega) hq).step (i2 h)⟩
    | false => exact ⟨fun h => (by cases h), fun _ => (h2 k hk (by omega) hq).done⟩
/-- 'f' done 'm' times, from 'k' on. -/
def foldFrom {S : Type} (f : Int → S → S) : Int → Nat → S → S
  | _, 0, s => s
  | k, m + 1, s => foldFrom f (k + 1) m (f k s)
theorem fold_loops {S : Type} {skE : Sk} {D : Int → S → List LD} {E : S → List LD} {f : Int → S → S} {n : Int} {xE : XK}
    (h1 : ∀ k s, 0 ≤ k → k < n → Goes cx N lp x nx0 mx sk sk (D k s) none (D (k + 1) (f k s)))
    (h3 : ∀ s, Goes cx N lp x nx0 mx sk skE (D n s) (some xE) (E s)) : ∀ (m : Nat) (k : Int) (s : S), 0 ≤ k → k + m = n →
    Loops cx N lp x nx0 mx sk (D k s) xE skE (E (foldFrom f k m s)) := by
  intro m
  induction m with
  | zero =>
    intro k s hk hkn
    have e : k = n := by omega
    subst e
    exact (h3 s).done
  | succ m ih =>
    intro k s hk hkn
    exact (h1 k s hk (by omega)).step (ih (k + 1) (f k s) (by omega) (by omega))
end
theorem eqFrom_congr {q q' : Int → Bool} : ∀ (m : Nat) (k : Int), (∀ j, k ≤ j → j < k + m → q j = q' j) → eqFrom q k m = eqFrom q' k m
  | 0, _, _ => rfl
  | m + 1, k, h => by
    show (bif q k then eqFrom q (k + 1) m else false) = (bif q' k then eqFrom q' (k + 1) m else false)
    rw [h k (by omega) (by omega), eqFrom_congr m (k + 1) (fun j h1 h2 => h j (by omega) (by omega))]
theorem eqFrom_at {q : Int → Bool} : ∀ {m : Nat} {k : Int}, eqFrom q k m = true → ∀ j, k ≤ j → j < k + m → q j = true
  | 0, k, _, j, h1, h2 => by omega
  | m + 1, k, h, j, h1, h2 => by
    have h' : (bif q k then eqFrom q (k + 1) m else false) = true := h
    cases hq : q k with
    | false => rw [hq] at h'; cases h'
    | true =>
      rw [hq] at h'
      by_cases e : j = k
      · rw [e]; exact hq
      · exact eqFrom_at (q := q) (m := m) (k := k + 1) h' j (by omega) (by omega)
theorem foldFrom_congr {S : Type} {f g : Int → S → S} : ∀ (m : Nat) (k : Int) (s : S), (∀ j s, k ≤ j → j < k + m → f j s = g j s) → foldFrom f k m s = foldFrom g k m s
  | 0, _, _, _ => rfl
  | m + 1, k, s, h => by
    show foldFrom f (k + 1) m (f k s) = foldFrom g (k + 1) m (g k s)
    rw [h k s (by omega) (by omega), foldFrom_congr m (k + 1) _ (fun j t h1 h2 => h j t (by omega) (by omega))]
theorem AllT.one' {b : Bool} (h : b = true) : AllT [b] := AllT.cons h AllT.nil
theorem AllT.iffApp {l m : List Bool} : AllT (l ++ m) ↔ AllT l ∧ AllT m := ⟨fun h => h.append, fun h => AllT.app h.1 h.2⟩
/-- Within bounds. -/
noncomputable def bd (n k : Int) : Bool := decide (0 ≤ k ∧ k < n)
theorem bd_ok {n k : Int} (h0 : 0 ≤ k) (h1 : k < n) : bd n k = true := by unfold bd; simp; omega
noncomputable def hints (l : List (Nat × Bool)) (t : Nat) : Option Bool := List.rec (motive := fun _ => Option Bool) none (fun p _ ih => bif Nat.beq t p.1 then some p.2 else ih) l
end Go.Proofs.YtaodbpejeglmlaaDoor
