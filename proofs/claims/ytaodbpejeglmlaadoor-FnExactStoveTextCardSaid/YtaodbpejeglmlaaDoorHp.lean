/- What a run comes to, without its numbers. Nothing is assumed. -/
import Derived.Test.YtaodbpejeglmlaaDoorGq
import Derived.Test.YtaodbpejeglmlaaDoorLw
namespace Go.Proofs.YtaodbpejeglmlaaDoor
open Go Go.RowKit
noncomputable section

/-! ### rows of numbers -/
def flts : List SC → Option (List Nat)
  | [] => some []
  | .flt .f32 x :: l => match flts l with
    | some r => some (x :: r)
    | none => none
  | _ :: _ => none
theorem flts_ok : ∀ {l : List SC} {xs : List Nat}, flts l = some xs → l = xs.map (SC.flt .f32 ·)
  | [], xs, h => by cases h; rfl
  | .flt .f32 x :: l, xs, h => by
    simp only [flts] at h
    split at h <;> cases h
    rename_i r hr
    rw [flts_ok hr]; rfl
  | .flt .f64 _ :: _, _, h => by cases h
  | .any :: _, _, h => by cases h
  | .bool _ :: _, _, h => by cases h
  | .int _ _ :: _, _, h => by cases h
  | .str _ :: _, _, h => by cases h
  | .nilp :: _, _, h => by cases h
  | .ptr _ _ :: _, _, h => by cases h
  | .ptrx _ _ _ _ _ :: _, _, h => by cases h
  | .ptrr _ _ _ _ :: _, _, h => by cases h
  | .sl _ _ _ _ _ :: _, _, h => by cases h
  | .slr _ _ _ _ :: _, _, h => by cases h
def rE (n : Nat) : Option CEff → Option (SV × List Bool)
  | some e => match Nat.ble n e.next with
    | true => some (e.ret, e.obs)
    | false => none
  | none => none
theorem rE_some {n : Nat} {x : Option CEff} {r : SV} {ob : List Bool} (h : rE n x = some (r, ob)) : ∃ e, x = some e ∧ e.ret = r ∧ e.obs = ob ∧ Nat.ble n e.next = true := by
  cases x with
  | none => cases h
  | some e =>
    simp only [rE] at h
    cases hb : Nat.ble n e.next with
    | true => rw [hb] at h; cases h; exact ⟨e, rfl, rfl, rfl, hb⟩
    | false => rw [hb] at h; cases h
theorem gS_of2 {P : Program} {f : FuncId} {S : CS} (h : CallOK P f S) {G : List SV → Option SV} (hG : ∀ args r (E : EM) vals, G args = some r → RelVs E args vals → flatVs args = true ∧ ∃ r0 ob, rE 1 (S 1 args []) = some (r0, ob) ∧ flatV r0 = true ∧ AllT ob ∧ ∀ E v, RelV E r0 v → RelV E r v) : CallOK P f (gS G) :=
  gS_of h fun args r E vals hr hv => by
    obtain ⟨h1, r0, ob, h2, h3, h4, h5⟩ := hG args r E vals hr hv
    obtain ⟨e, e1, e2, e3, e4⟩ := rE_some h2
    subst e2; subst e3
    exact ⟨h1, e, e1, h3, e4, h4, h5⟩
theorem gQ_of2 {P : Program} {f : FuncId} {S : CS} (h : CallOK P f S) {sh : List Shp} {G : List SV → Option SV}
    (hG : ∀ dl r (E : EM), G dl = some r → (∀ v ∈ dl, ∃ u, RelV E v u) → ∃ r0 ob, rE (cntP sh + 1) (S (cntP sh + 1) (canA sh dl 1) (canR sh dl 1)) = some (r0, ob) ∧ flatV r0 = true ∧ AllT ob ∧ ∀ E v, RelV E r0 v → RelV E r v) : CallOK P f (gQ sh G) :=
  gQ_of h fun dl r E hr hv => by
    obtain ⟨r0, ob, h2, h3, h4, h5⟩ := hG dl r E hr hv
    obtain ⟨e, e1, e2, e3, e4⟩ := rE_some h2
    subst e2; subst e3
    exact ⟨e, e1, h3, e4, h4, h5⟩
/-- A law whose arguments lead to no memory. -/
theorem law_of2 {P : Program} {f : FuncId} {S : CS} (h : CallOK P f S) {fn : Func} (hf : P.funcs[f]? = some fn) (hname : (fn.name == "runtime.NumGoroutine") = false) (hb : fn.body.isSome = true) {args : List SV} {vals : Array Value} {b : Bool} {ob : List Bool}
    (he : rE 1 (S 1 args []) = some (.c (.bool (.s b)), ob)) (hob : AllT ob) (hbv : b = true) (hvals : RelVs (fun _ => none) args vals.toList) (w : World)
    (htab : Tab w) :
    Calls P f vals w fun e w' => e = .returned (.bool true) ∧ Grown w w' := by
  obtain ⟨e, e1, e2, e3, e4⟩ := rE_some he
  subst e3
  exact law_of h hf hname hb e1 hob e2 hbv (Nat.le_of_ble_eq_true e4) hvals w htab
/-- What is at a place of a result. -/
def seAt (r : Option (SV × List Bool)) (j : Nat) : Option SE :=
  match r with
  | some (.tup l, _) => l[j]?
  | some (.c x, _) => some (.c x)
  | some (.a l, _) => some (.a l)
  | _ => none
def fltAt (r : Option (SV × List Bool)) (j : Nat) : Nat :=
  match seAt r j with
  | some (.c (.flt _ x)) => x
  | _ => 0
def intAt (r : Option (SV × List Bool)) (j : Nat) : Int :=
  match seAt r j with
  | some (.c (.int _ n)) => n.val
  | _ => 0
def boolAt (r : Option (SV × List Bool)) (j : Nat) : Bool :=
  match seAt r j with
  | some (.c (.bool b)) => b.val
  | _ => true
def fltsAt (r : Option (SV × List Bool)) (j : Nat) : Nat → Nat :=
  match seAt r j with
  | some (.a l) => fun i => match l[i]? with
    | some (.flt _ x) => x
    | _ => 0
  | _ => fun _ => 0
/-- It is plain, and nothing is left to show. -/
def plainR (r : Option (SV × List Bool)) : Bool :=
  match r with
  | some (v, []) => flatV v
  | _ => false
theorem plainR_some {r : Option (SV × List Bool)} (h : plainR r = true) : ∃ v, r = some (v, []) ∧ flatV v = true := by
  unfold plainR at h
  split at h
  · rename_i v; exact ⟨v, rfl, h⟩
  · cases h
/-- A contract that is the run itself. -/
def runG (r : List SV → Option (SV × List Bool)) : List SV → Option SV := fun args => (r args).map (·.1)
theorem runG_ok {P : Program} {f : FuncId} {S : CS} (h : CallOK P f S) {r : List SV → Option (SV × List Bool)} (hr : ∀ args x, r args = some x → flatVs args = true ∧ rE 1 (S 1 args []) = some x ∧ flatV x.1 = true ∧ x.2 = []) : CallOK P f (gS (runG r)) :=
  gS_of2 h fun args v E vals hv _ => by
    unfold runG at hv
    cases hx : r args with
    | none => rw [hx] at hv; cases hv
    | some x =>
      rw [hx] at hv; cases hv
      obtain ⟨h1, h2, h3, h4⟩ := hr args x hx
      exact ⟨h1, x.1, x.2, h2, h3, by rw [h4]; exact AllT.nil, fun _ _ h => h⟩
theorem runG_ok' {P : Program} {f : FuncId} {S : CS} (h : CallOK P f S) {r : List SV → Option (SV × List Bool)} (hr : ∀ args x (E : EM) vals, r args = some x → RelVs E args vals → flatVs args = true ∧ rE 1 (S 1 args []) = some x ∧ flatV x.1 = true ∧ x.2 = []) : CallOK P f (gS (runG r)) :=
  gS_of2 h fun args v E vals hv hrel => by
    unfold runG at hv
    cases hx : r args with
    | none => rw [hx] at hv; cases hv
    | some x =>
      rw [hx] at hv; cases hv
      obtain ⟨h1, h2, h3, h4⟩ := hr args x E vals hx hrel
      exact ⟨h1, x.1, x.2, h2, h3, by rw [h4]; exact AllT.nil, fun _ _ h => h⟩
end
end Go.Proofs.YtaodbpejeglmlaaDoor
