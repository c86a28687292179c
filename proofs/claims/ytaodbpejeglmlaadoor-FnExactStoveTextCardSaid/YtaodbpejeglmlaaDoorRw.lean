/- Rows of numbers, and the loops that run over them. Nothing is assumed. -/
import Derived.Test.YtaodbpejeglmlaaDoorLq
import Derived.Test.YtaodbpejeglmlaaDoorHp
namespace Go.Proofs.YtaodbpejeglmlaaDoor
open Go
noncomputable section
/-- A proposition as a test. -/
def pB (p : Prop) : Bool := @decide p (Classical.propDecidable p)
theorem pB_iff {p : Prop} : pB p = true ↔ p := @decide_eq_true_iff p (Classical.propDecidable p)
def fltC : SC → Nat
  | .flt _ x => x
  | _ => 0
def intC : SC → Int
  | .int _ n => n.val
  | _ => 0
def datF (row : Int → List SC) (c : Nat) (j : Int) : Nat := fltC ((row j).getD c .any)
def datG (row : Int → List SC) (c : Nat) (j : Int) : Int := intC ((row j).getD c .any)
def noB : Nat → Int → Bool := fun _ _ => true
/-- Rows with the kinds 'ts'. -/
def rowK (ts : List KK) (F : Nat → Int → Nat) (G : Nat → Int → Int) (j : Int) : List SC := mkL (fun c => F c j) (fun c => G c j) (fun _ => true) ts 0
theorem rowK_flat (ts : List KK) (F : Nat → Int → Nat) (G : Nat → Int → Int) : flatR (rowK ts F G) = true :=
  @decide_eq_true _ (Classical.propDecidable _) fun _ => mkL_flat _ _ _ _ _
def Shape (ts : List KK) (row : Int → List SC) : Prop := row = rowK ts (datF row) (datG row)
def clF (n : Int) (F : Nat → Int → Nat) (c : Nat) (j : Int) : Nat := bif decide (0 ≤ j) && decide (j < n) then F c j else 0
def clG (n : Int) (F : Nat → Int → Int) (c : Nat) (j : Int) : Int := bif decide (0 ≤ j) && decide (j < n) then F c j else 0
theorem clF_step {k : Int} (hk : 0 ≤ k) (F : Nat → Int → Nat) : (fun c j => bif decide (j = k) then F c k else clF k F c j) = clF (k + 1) F := by
  funext c j
  unfold clF
  by_cases e : j = k
  · subst e
    have h1 : j < j + 1 := by omega
    simp [hk, h1]
  · rw [decide_eq_false e]
    by_cases h : j < k
    · rw [decide_eq_true h, decide_eq_true (by omega : j < k + 1)]; rfl
    · rw [decide_eq_false h, decide_eq_false (by omega : ¬ j < k + 1)]; rfl
theorem clG_step {k : Int} (hk : 0 ≤ k) (F : Nat → Int → Int) : (fun c j => bif decide (j = k) then F c k else clG k F c j) = clG (k + 1) F := by
  funext c j
  unfold clG
  by_cases e : j = k
  · subst e
    have h1 : j < j + 1 := by omega
    simp [hk, h1]
  · rw [decide_eq_false e]
    by_cases h : j < k
    · rw [decide_eq_true h, decide_eq_true (by omega : j < k + 1)]; rfl
    · rw [decide_eq_false h, decide_eq_false (by omega : ¬ j < k + 1)]; rfl
theorem clF_zero (F : Nat → Int → Nat) : clF 0 F = fun _ _ => 0 := by
  funext c j
  unfold clF
  by_cases h : 0 ≤ j
  · rw [decide_eq_false (by omega : ¬ j < 0), Bool.and_false]; rfl
  · rw [decide_eq_false h]; rfl
theorem clG_zero (F : Nat → Int → Int) : clG 0 F = fun _ _ => 0 := by
  funext c j
  unfold clG
  by_cases h : 0 ≤ j
  · rw [decide_eq_false (by omega : ¬ j < 0), Bool.and_false]; rfl
  · rw [decide_eq_false h]; rfl
theorem wrap_succ {k : Int} (h0 : 0 ≤ k) (h1 : k ≤ 100000000) : IntKind.i64.wrap (k + 1) = k + 1 := wrap_small (by omega) (by omega)
def bodyOf (fn : Func) (id : Nat) : Code :=
  match fn.body with
  | some c => match loopAt id (loopsIn c) with
    | some b => b
    | none => .skip
  | none => .skip
theorem bodyOf_at {fn : Func} {c : Code} (hc : fn.body = some c) {id : Nat} (h : (match loopAt id (loopsIn c) with | some _ => true | none => false) = true) : loopAt id (loopsIn c) = some (bodyOf fn id) := by
  unfold bodyOf
  rw [hc]
  cases hl : loopAt id (loopsIn c) with
  | some b => simp only [hl]
  | none => rw [hl] at h; cases h
/-- A hint, or else the loop run through. -/
def orIter (cx : Cx) (N : Nat) (b : Code) (L : List Ly → Top → Option Outs) : List Ly → Top → Option Outs := fun R T =>
  match L R T with
  | some o => some o
  | none => iter (sx cx N noH b) R 60 T
theorem orIter_ok {P : Program} {l : List (Nat × CS)} (ha : AllOK P l) (hmx : P.follows .mixedOrders = true) (n : Nat) {N : Nat} {b : Code} {L : List Ly → Top → Option Outs} (h : CodeOK P N (.loop b) L) : CodeOK P N (.loop b) (orIter ⟨P, fops, orcN P fops l n⟩ N b L) := by
  intro R T o ho hob
  unfold orIter at ho
  split at ho
  · rename_i o' h'
    cases ho
    exact h R T _ h' hob
  · exact loop_ok (body_ok ha hmx n b (fun _ => none)) 60 R T o ho hob
/-- All up to 'm', from 'k' on. -/
def eqFrom (q : Int → Bool) : Int → Nat → Bool
  | _, 0 => true
  | k, m + 1 => bif q k then eqFrom q (k + 1) m else false
theorem eqFrom_all {q : Int → Bool} (h : ∀ k, q k = true) : ∀ (m : Nat) (k : Int), eqFrom q k m = true
  | 0, _ => rfl
  | m + 1, k => by
    show (bif q k then eqFrom q (k + 1) m else false) = true
    rw [h k, cond_true]; exact eqFrom_all h m (k + 1)
/-- Counting on. -/
def wr (q : Int) : Nat → Int
  | 0 => q
  | c + 1 => IntKind.i64.wrap (wr q c + 1)
theorem wr_eq {q : Int} (h0 : 0 ≤ q) : ∀ {c : Nat}, q + c ≤ 100000000000 → wr q c = q + c
  | 0, _ => by simp [wr]
  | c + 1, h => by
    have h' : q + c ≤ 100000000000 := by omega
    show IntKind.i64.wrap (wr q c + 1) = _
    rw [wr_eq h0 h', wrap_small (by omega) (by omega)]
    omega
theorem AllT.rep {b : Bool} (h : b = true) (n : Nat) : AllT (List.replicate n b) := fun c hc => by rw [List.eq_of_mem_replicate hc, h]
theorem AllT.app {l m : List Bool} (h : AllT l) (h' : AllT m) : AllT (l ++ m) := fun c hc => by
  rcases List.mem_append.1 hc with hc | hc
  · exact h c hc
  · exact h' c hc
end
end Go.Proofs.YtaodbpejeglmlaaDoor
