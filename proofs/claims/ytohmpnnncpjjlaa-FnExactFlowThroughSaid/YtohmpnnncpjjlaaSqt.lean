/- The square root. Nothing is assumed. -/
import Derived.Test.YtohmpnnncpjjlaaFn
namespace Go.Proofs.Ytohmpnnncpjjlaa
open Go
noncomputable section
/-- The root of a float, one word for all NaN. -/
def sqv (x : Nat) : Nat := (FloatKind.f64.format.sqrt x).getD (qnan .f64)
def sqrtG (q : Nat → Nat) : List SV → Option SV
  | [.c (.flt .f64 x)] => some (.c (.flt .f64 (q x)))
  | _ => none
theorem root_not_nan {n : Nat} : ∀ {a c : Ieee.Datum}, a.root n = some c → c.isNaN = false := by
  intro a c h
  unfold Ieee.Datum.root at h
  repeat' split at h
  all_goals first | (cases h; done) | (cases h; rfl)
theorem root_nan {n : Nat} {a : Ieee.Datum} (h : a.isNaN = true) : a.root n = none := by
  cases a <;> simp [Ieee.Datum.isNaN] at h
  rfl
theorem sqrt_can (r : Nat) : FloatKind.f64.format.sqrt (can .f64 r) = FloatKind.f64.format.sqrt r := by
  rcases can_cases .f64 r with ⟨h1, h2⟩ | ⟨h1, h2⟩
  · unfold Ieee.Format.sqrt
    rw [root_nan (show (FloatKind.f64.format.read (can .f64 r)).isNaN = true from by rw [h2]; exact qnan_nan .f64), root_nan (show (FloatKind.f64.format.read r).isNaN = true from h1)]
  · rw [h2]
set_option maxRecDepth 100000 in
theorem cSqrt : CallOK Try.prog 100 (gS (sqrtG sqv)) := by
  intro E base args vals rd w e hs hob hargs hb1 hbe hfr hmem
  unfold gS at hs
  split at hs <;> try (cases hs; done)
  split at hs <;> cases hs
  rename_i r hG
  unfold sqrtG at hG
  split at hG <;> cases hG
  rename_i x
  obtain ⟨l⟩ := vals
  match l, hargs with
  | [v], hargs =>
    obtain ⟨r, rfl, h2, h3⟩ := hargs.1
    have hx : FloatKind.f64.format.sqrt x = FloatKind.f64.format.sqrt r := by rw [← h3]; exact sqrt_can r
    have hsh : Extern.MathSqrt.sqrt #[.float .f64 r] = (match FloatKind.f64.format.sqrt r with
      | some q => pure (.float .f64 q)
      | none => do pure (.float .f64 (← choose (.nanBits .f64 r r))) : Sem Value) := rfl
    have key : ∃ v w', (Extern.MathSqrt.sqrt #[.float .f64 r]).run Try.prog w = .ok v w' ∧ FR .f64 (sqv x) v ∧ w'.heap = w.heap ∧ w'.os = w.os ∧ w'.output = w.output := by
      unfold sqv
      rw [hx]
      cases h : FloatKind.f64.format.sqrt r with
      | some q =>
        refine ⟨.float .f64 q, w, by rw [hsh, h]; rfl, ⟨q, rfl, ?_, ?_⟩, rfl, rfl, rfl⟩
        · unfold Ieee.Format.sqrt at h
          cases hd : (FloatKind.f64.format.read r).root (FloatKind.f64.format.fractionBits + 2) with
          | none => rw [hd] at h; cases h
          | some c => rw [hd] at h; cases h; exact FloatKind.f64.format.write_lt c
        · refine can_of_not ?_
          unfold Ieee.Format.sqrt at h
          cases hd : (FloatKind.f64.format.read r).root (FloatKind.f64.format.fractionBits + 2) with
          | none => rw [hd] at h; cases h
          | some c => rw [hd] at h; cases h; exact write_not_nan _ _ (root_not_nan hd)
      | none =>
        have hq : (Question.nanBits .f64 r r).forced = false := rfl
        have hn := tape_nan .f64 r r (w.tape w.drawn (.nanBits .f64 r r))
        refine ⟨.float .f64 ((Question.nanBits .f64 r r).cut (w.tape w.drawn (.nanBits .f64 r r))), { w with drawn := w.drawn + 1 }, by rw [hsh, h]; simp [hq], ⟨_, rfl, hn.1, ?_⟩, rfl, rfl, rfl⟩
        exact can_of_nan hn.2
    obtain ⟨v, w', k1, k2, k3, k4, k5⟩ := key
    rw [run_extern Try.func100 (x := Extern.MathSqrt.sqrt) (by kernel_rfl) (by kernel_rfl) (by kernel_rfl) (by kernel_rfl) k1]
    exact ⟨E, Ext.refl E, fun i hi => .inl hi, k2, hmem.congr k3 k4 k5⟩
end
end Go.Proofs.Ytohmpnnncpjjlaa
