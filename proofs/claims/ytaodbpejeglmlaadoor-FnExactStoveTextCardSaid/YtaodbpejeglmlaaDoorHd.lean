/- Contracts told by hand: what a call gives and asks for, in short. Nothing is assumed. -/
import Derived.Test.YtaodbpejeglmlaaDoorRo
import Derived.Test.YtaodbpejeglmlaaDoorRw
namespace Go.Proofs.YtaodbpejeglmlaaDoor
open Go
noncomputable section

/-- 'H' tells the same as 'S', and asks for enough. -/
theorem CallOK.hand {P : Program} {f : FuncId} {S H : CS} (h : CallOK P f S) (hH : ∀ b args rd e, H b args rd = some e → AllT e.obs → ∃ ob, S b args rd = some ⟨e.ret, e.ws, e.next, ob⟩ ∧ AllT ob) : CallOK P f H := by
  intro E base args vals rd w e hs hob hargs hb1 hbe hfr hmem
  obtain ⟨ob, h1, h2⟩ := hH _ _ _ _ hs hob
  exact h E base args vals rd w ⟨e.ret, e.ws, e.next, ob⟩ h1 h2 hargs hb1 hbe hfr hmem
/-- One contract, or else another one. -/
def orS (S1 S2 : CS) : CS := fun b args rd => match S1 b args rd with
  | some e => some e
  | none => S2 b args rd
theorem CallOK.or {P : Program} {f : FuncId} {S1 S2 : CS} (h1 : CallOK P f S1) (h2 : CallOK P f S2) : CallOK P f (orS S1 S2) := by
  intro E base args vals rd w e hs hob hargs hb1 hbe hfr hmem
  unfold orS at hs
  split at hs
  · rename_i he
    cases hs
    exact h1 E base args vals rd w _ he hob hargs hb1 hbe hfr hmem
  · exact h2 E base args vals rd w _ hs hob hargs hb1 hbe hfr hmem

/-! ### what is handed over is only read, what is new stays -/
def newOnly (base : Nat) (l : List (Nat × Option Seg)) : List (Nat × Option Seg) :=
  List.rec (motive := fun _ => List (Nat × Option Seg)) [] (fun p _ ih => match Nat.ble base p.1 with
    | true => p :: ih
    | false => ih) l
def newOk1 (base : Nat) (p : Nat × Option Seg) : Bool :=
  match p.2 with
  | some g => match Nat.ble base p.1 with
    | true => g.rw
    | false => true
  | none => Nat.ble base p.1
def newOk (base : Nat) (l : List (Nat × Option Seg)) : Bool :=
  List.rec (motive := fun _ => Bool) true (fun p _ ih => newOk1 base p && ih) l
def nwS (S : CS) : CS := fun base args rd => match (fstsN rd).all (fun i => Nat.ble (i + 1) base) with
  | true => bindO (S base args (roL rd)) fun e => match newOk base e.ws with
    | true => some ⟨e.ret, newOnly base e.ws, e.next, e.obs⟩
    | false => none
  | false => none
theorem findS_mem {i : Nat} {g : Seg} : ∀ {rd : List (Nat × Seg)}, findS i rd = some g → i ∈ fstsN rd
  | [], h => by cases h
  | (j, s) :: l, h => by
    have h' : (match Nat.beq i j with | true => some s | false => findS i l) = some g := h
    cases hb : Nat.beq i j with
    | true => rw [beqN.1 hb]; simp [fstsN]
    | false =>
      rw [hb] at h'
      exact List.mem_cons_of_mem _ (findS_mem h')
theorem roL_find' {i : Nat} {g : Seg} : ∀ {rd : List (Nat × Seg)}, findS i rd = some g → findS i (roL rd) = some ⟨false, false, g.body⟩
  | [], h => by cases h
  | (j, s) :: l, h => by
    have h' : (match Nat.beq i j with | true => some s | false => findS i l) = some g := h
    show (match Nat.beq i j with | true => some (⟨false, false, s.body⟩ : Seg) | false => findS i (roL l)) = _
    cases hb : Nat.beq i j with
    | true => rw [hb] at h'; cases h'; rfl
    | false =>
      rw [hb] at h'
      exact roL_find' h'
theorem newOnly_lt {base : Nat} {i : Nat} (hi : i < base) : ∀ (l : List (Nat × Option Seg)) (f : Nat → Option Seg), updSs f (newOnly base l) i = f i
  | [], f => rfl
  | (j, v) :: l, f => by
    show updSs f (match Nat.ble base j with | true => (j, v) :: newOnly base l | false => newOnly base l) i = f i
    cases hb : Nat.ble base j with
    | true =>
      have hj : base ≤ j := Nat.le_of_ble_eq_true hb
      show updSs (upd f j v) (newOnly base l) i = f i
      rw [newOnly_lt hi l, upd_other _ _ (by omega)]
    | false => exact newOnly_lt hi l f
theorem newOnly_ge {base : Nat} {i : Nat} (hi : base ≤ i) : ∀ (l : List (Nat × Option Seg)) (f g : Nat → Option Seg), f i = g i → updSs f (newOnly base l) i = updSs g l i
  | [], f, g, h => h
  | (j, v) :: l, f, g, h => by
    show updSs f (match Nat.ble base j with | true => (j, v) :: newOnly base l | false => newOnly base l) i = updSs (upd g j v) l i
    cases hb : Nat.ble base j with
    | true =>
      show updSs (upd f j v) (newOnly base l) i = _
      refine newOnly_ge hi l _ _ ?_
      by_cases e : i = j
      · subst e; rw [upd_same, upd_same]
      · rw [upd_other _ _ e, upd_other _ _ e]; exact h
    | false =>
      have hj : i ≠ j := fun e => by
        subst e
        rw [Nat.ble_eq_true_of_le hi] at hb; cases hb
      refine newOnly_ge hi l _ _ ?_
      rw [upd_other _ _ hj]; exact h
theorem newOk_mem {base : Nat} : ∀ {l : List (Nat × Option Seg)}, newOk base l = true → ∀ p ∈ l, newOk1 base p = true
  | [], _, p, h => by cases h
  | q :: l, h, p, hp => by
    have h' : (newOk1 base q && newOk base l) = true := h
    rw [Bool.and_eq_true] at h'
    rcases List.mem_cons.1 hp with rfl | hp
    · exact h'.1
    · exact newOk_mem h'.2 p hp
theorem CallOK.nw {P : Program} {f : FuncId} {S : CS} (h : CallOK P f S) : CallOK P f (nwS S) := by
  intro E base args vals rd w e hs hob hargs hb1 hbe hfr hmem
  unfold nwS at hs
  split at hs <;> try (cases hs; done)
  rename_i hlt
  obtain ⟨e0, he, hs⟩ := bindO_some hs
  split at hs <;> cases hs
  rename_i hok
  have hrd : ∀ i g, findS i rd = some g → i < base := fun i g hg => by
    have := List.all_eq_true.1 hlt i (findS_mem hg)
    exact Nat.le_of_ble_eq_true this
  have hT : ∀ b k, ¬ Tch E (roL rd) b k := fun b k ⟨i, g, o, z, q1, q2, _⟩ => by
    obtain ⟨g0, _, rfl⟩ := roL_find q1
    cases q2
  have hm1 : MemRel w (Tch E (roL rd)) E (fun i => findS i (roL rd)) w := by
    refine ⟨fun i g hg => ?_, fun i j g k b o z b' o' z' _ hg hk hrw => ?_, fun i g b o z hg hrw => ?_, Fr.refl _ _, hmem.tab.1, fun b k _ => hT b k⟩
    · obtain ⟨g0, hg0, rfl⟩ := roL_find hg
      obtain ⟨b, o, z, cs, T, fr, q1, q2⟩ := hmem.segs i g0 hg0
      exact ⟨b, o, z, cs, T, fr, q1, ⟨q2.heap, q2.le, q2.fit, fun h => (by cases h), fun h => (by cases h), q2.cell⟩⟩
    · obtain ⟨g0, _, rfl⟩ := roL_find hg
      obtain ⟨g1, _, rfl⟩ := roL_find hk
      rcases hrw with hrw | hrw <;> cases hrw
    · obtain ⟨g0, _, rfl⟩ := roL_find hg
      cases hrw
  refine (h E base args vals (roL rd) w e0 he hob hargs hb1 hbe hfr hm1).mono fun v w' hp => ?_
  obtain ⟨E', k1, k2, k3, k4⟩ := hp
  have hfr' := k4.fr
  refine ⟨E', k1, k2, k3, ?_⟩
  -- the last state of a segment, by its id
  have hge : ∀ i, base ≤ i → updSs (fun i => findS i rd) (newOnly base e0.ws) i = updSs (fun i => findS i (roL rd)) e0.ws i := fun i hi => newOnly_ge hi _ _ _ (by
    have h1 : findS i rd = none := by
      cases hf : findS i rd with
      | none => rfl
      | some g => exact absurd (hrd i g hf) (by omega)
    have h2 : findS i (roL rd) = none := by
      cases hf : findS i (roL rd) with
      | none => rfl
      | some g =>
        obtain ⟨g0, h3, _⟩ := roL_find hf
        rw [h1] at h3; cases h3
    show findS i rd = findS i (roL rd)
    rw [h1, h2])
  have hlo : ∀ i, i < base → updSs (fun i => findS i rd) (newOnly base e0.ws) i = findS i rd := fun i hi => newOnly_lt hi _ _
  have hin : ∀ i g, i < base → findS i rd = some g → ∃ g', updSs (fun i => findS i (roL rd)) e0.ws i = some g' := by
    intro i g hi hg
    rcases updSs_cases (fun i => findS i (roL rd)) (fun _ => none) e0.ws i with ⟨v, h1, _, h3⟩ | ⟨h1, _, _⟩
    · have := newOk_mem hok _ h3
      cases v with
      | some g' => exact ⟨g', h1⟩
      | none =>
        have h4 : Nat.ble base i = true := this
        have := Nat.le_of_ble_eq_true h4
        omega
    · exact ⟨_, h1.trans (roL_find' hg)⟩
  have hnew : ∀ i g, base ≤ i → updSs (fun i => findS i (roL rd)) e0.ws i = some g → g.rw = true := by
    intro i g hi hg
    rcases updSs_cases (fun i => findS i (roL rd)) (fun _ => none) e0.ws i with ⟨v, h1, _, h3⟩ | ⟨h1, _, _⟩
    · rw [h1] at hg
      subst hg
      have h4 : (match Nat.ble base i with | true => g.rw | false => true) = true := newOk_mem hok _ h3
      rw [Nat.ble_eq_true_of_le hi] at h4
      exact h4
    · rw [h1] at hg
      obtain ⟨g0, h3, _⟩ := roL_find hg
      exact absurd (hrd i g0 h3) (by omega)
  refine ⟨fun i g hg => ?_, fun i j g k b o z b' o' z' hij hg hk hrw hb hb' => ?_, fun i g b o z hg hrw hb => ?_, ?_, hmem.tab⟩
  · by_cases hi : i < base
    · rw [hlo i hi] at hg
      obtain ⟨b, o, z, cs, T, fr, q1, q2⟩ := hmem.segs i g hg
      obtain ⟨cs', q3⟩ := q2.frame hfr' (fun k _ _ => hT b k)
      exact ⟨b, o, z, cs', T, fr, k1 _ _ q1, q3.mono k1⟩
    · rw [hge i (by omega)] at hg
      exact k4.segs i g hg
  · have hEi : ∀ i g, findS i rd = some g → ∃ x, E i = some x ∧ E' i = some x := fun i g hg => by
      obtain ⟨b, o, z, cs, T, fr, q1, q2⟩ := hmem.segs i g hg
      exact ⟨_, q1, k1 _ _ q1⟩
    by_cases hi : i < base
    · rw [hlo i hi] at hg
      obtain ⟨x, q1, q2⟩ := hEi i g hg
      rw [q2] at hb
      cases hb
      by_cases hj : j < base
      · rw [hlo j hj] at hk
        obtain ⟨y, q3, q4⟩ := hEi j k hk
        rw [q4] at hb'
        cases hb'
        exact hmem.disj i j g k b o z b' o' z' hij hg hk hrw q1 q3
      · rw [hge j (by omega)] at hk
        obtain ⟨g', hg'⟩ := hin i g hi hg
        exact k4.disj i j g' k b o z b' o' z' hij hg' hk (.inr (hnew j k (by omega) hk)) q2 hb'
    · rw [hge i (by omega)] at hg
      by_cases hj : j < base
      · rw [hlo j hj] at hk
        obtain ⟨y, q3, q4⟩ := hEi j k hk
        rw [q4] at hb'
        cases hb'
        obtain ⟨g', hg'⟩ := hin j k hj hk
        exact k4.disj i j g g' b o z b' o' z' hij hg hg' (.inl (hnew i g (by omega) hg)) hb q4
      · rw [hge j (by omega)] at hk
        exact k4.disj i j g k b o z b' o' z' hij hg hk (.inl (hnew i g (by omega) hg)) hb hb'
  · by_cases hi : i < base
    · rw [hlo i hi] at hg
      obtain ⟨b1, o1, z1, cs, T, fr, q1, q2⟩ := hmem.segs i g hg
      rw [k1 _ _ q1] at hb
      cases hb
      exact hmem.tch i g b o z hg hrw q1
    · rw [hge i (by omega)] at hg
      rcases k4.tch i g b o z hg hrw hb with q | q
      · exact .inl q
      · exact .inr fun k hk1 hk2 => absurd (q k hk1 hk2) (hT b k)
  · refine ⟨hfr'.os, hfr'.out, hfr'.size, fun b hb => ?_, hfr'.frz⟩
    rcases hfr'.old b hb with ⟨cs, t, fr, cs', q1, q2, q3, q4⟩ | q1
    · exact .inl ⟨cs, t, fr, cs', q1, q2, q3, fun j _ => q4 j (hT b j)⟩
    · exact .inr q1
/-- A guard before each. -/
def gdB (g : Bool) (l : List Bool) : List Bool := l.map (g || ·)
theorem gdB_ok {g : Bool} {l : List Bool} (h : g = false → AllT l) : AllT (gdB g l) := by
  intro c hc
  unfold gdB at hc
  rw [List.mem_map] at hc
  obtain ⟨x, hx, rfl⟩ := hc
  cases g with
  | true => rfl
  | false => exact h rfl x hx
end
end Go.Proofs.YtaodbpejeglmlaaDoor
