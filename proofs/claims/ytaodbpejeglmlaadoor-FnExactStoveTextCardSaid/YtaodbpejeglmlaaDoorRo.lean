/- A contract of a function that only reads what is handed to it: nothing of it changes. Nothing is assumed. -/
import Derived.Test.YtaodbpejeglmlaaDoorGq
namespace Go.Proofs.YtaodbpejeglmlaaDoor
open Go
noncomputable section

def roSeg (p : Nat × Seg) : Nat × Seg := (p.1, ⟨false, false, p.2.body⟩)
def roL (l : List (Nat × Seg)) : List (Nat × Seg) := List.rec (motive := fun _ => List (Nat × Seg)) [] (fun p _ ih => roSeg p :: ih) l
/-- 'S', handed what may only be read. -/
def roS (S : CS) : CS := fun base args rd => bindO (S base args (roL rd)) fun e => match flatV e.ret with
  | true => some ⟨e.ret, [], e.next, e.obs⟩
  | false => none
theorem roL_find {i : Nat} {g' : Seg} : ∀ {rd : List (Nat × Seg)}, findS i (roL rd) = some g' → ∃ g, findS i rd = some g ∧ g' = ⟨false, false, g.body⟩
  | [], h => by cases h
  | (j, g) :: l, h => by
    have h' : (match Nat.beq i j with | true => some (⟨false, false, g.body⟩ : Seg) | false => findS i (roL l)) = some g' := h
    show ∃ g1, (match Nat.beq i j with | true => some g | false => findS i l) = some g1 ∧ _
    cases hb : Nat.beq i j with
    | true =>
      rw [hb] at h'
      cases h'
      exact ⟨g, rfl, rfl⟩
    | false =>
      rw [hb] at h'
      exact roL_find h'
theorem CallOK.ro {P : Program} {f : FuncId} {S : CS} (h : CallOK P f S) : CallOK P f (roS S) := by
  intro E base args vals rd w e hs hob hargs hb1 hbe hfr hmem
  unfold roS at hs
  obtain ⟨e0, he, hs⟩ := bindO_some hs
  split at hs <;> cases hs
  rename_i hfl
  have hT : ∀ b k, ¬ Tch E (roL rd) b k := fun b k ⟨i, g, o, z, q1, q2, _⟩ => by
    obtain ⟨g0, _, rfl⟩ := roL_find q1
    cases q2
  have hm1 : MemRel w (Tch E (roL rd)) E (fun i => findS i (roL rd)) w := by
    refine ⟨fun i g hg => ?_, fun i j g k b o z b' o' z' _ hg hk hrw => ?_, fun i g b o z hg hrw => ?_, Fr.refl _ _, hmem.tab.1, fun b k _ => hT b k⟩
    · obtain ⟨g0, hg0, rfl⟩ := roL_find hg
      obtain ⟨b, o, z, cs, T, fr, q1, q2⟩ := hmem.segs i g0 hg0
      exact ⟨b, o, z, cs, T, fr, q1, ⟨q2.heap, q2.le, q2.fit, fun h => (by cases h), fun h => (by cases h), q2.cell⟩⟩
    · obtain ⟨g0, _, rfl⟩ := roL_find hg
      obtain ⟨g1, _, rfl⟩ := roL_find hk
      rcases hrw with hrw | hrw <;> cases hrw
    · obtain ⟨g0, _, rfl⟩ := roL_find hg
      cases hrw
  refine (h E base args vals (roL rd) w e0 he hob hargs hb1 hbe hfr hm1).mono fun v w' hp => ?_
  obtain ⟨E', k1, k2, k3, k4⟩ := hp
  have hfr' := k4.fr
  refine ⟨E, Ext.refl E, fun i hi => .inl hi, flatV_ok hfl k3, ?_⟩
  have hseg : ∀ i g, findS i rd = some g → ∃ b o z cs T fr, E i = some (b, o, z) ∧ SegAt E b o z g w' cs T fr := by
    intro i g hg
    obtain ⟨b, o, z, cs, T, fr, q1, q2⟩ := hmem.segs i g hg
    obtain ⟨cs', q3⟩ := q2.frame hfr' (fun k _ _ => hT b k)
    exact ⟨b, o, z, cs', T, fr, q1, q3⟩
  refine ⟨fun i g hg => hseg i g hg, hmem.disj, hmem.tch, ?_, hmem.tab⟩
  refine ⟨hfr'.os, hfr'.out, hfr'.size, fun b hb => ?_, hfr'.frz⟩
  rcases hfr'.old b hb with ⟨cs, t, fr, cs', q1, q2, q3, q4⟩ | q1
  · exact .inl ⟨cs, t, fr, cs', q1, q2, q3, fun j _ => q4 j (hT b j)⟩
  · exact .inr q1
end
end Go.Proofs.YtaodbpejeglmlaaDoor
