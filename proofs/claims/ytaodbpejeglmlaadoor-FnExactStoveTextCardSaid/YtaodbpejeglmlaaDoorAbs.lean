/- The absolute value. Nothing is assumed. -/
import Derived.Test.YtaodbpejeglmlaaDoorNum
import Derived.Test.YtaodbpejeglmlaaDoorSw
import Derived.WalkKit
import Derived.ProofKit
import Derived.Laws.BitsAllLaws
namespace Go.Proofs.YtaodbpejeglmlaaDoor
open Go

set_option maxRecDepth 100000 in
theorem abs_calls (r : Nat) (w : World) : Calls Tryd.prog 76 #[.float .f64 r] w fun e w' => e = .returned (.float .f64 (Go.bits .andNot .u64 r 9223372036854775808).toNat) ∧ w' = w := by
  go_enter Tryd.func76, Tryd.ntmps76
  go_wp2
  rw [run_extern Tryd.func83 (x := Extern.MathFloatBits.float64bits) (v := .int .u64 r) (w' := w) (by kernel_rfl) (by kernel_rfl) (by kernel_rfl) (by kernel_rfl) rfl]
  go_wp2
  rw [run_extern Tryd.func82 (x := Extern.MathFloatBits.float64frombits) (v := .float .f64 (Go.bits .andNot .u64 r 9223372036854775808).toNat) (w' := w) (by kernel_rfl) (by kernel_rfl) (by kernel_rfl) (by kernel_rfl) rfl]
  go_wp2
  go_ret
  exact ⟨rfl, rfl⟩
theorem andNot_mod {r : Nat} (h : r < 2 ^ 64) : (Go.bits .andNot .u64 (r : Int) 9223372036854775808).toNat = r % 9223372036854775808 := by
  have := u64_andNot_nat r 9223372036854775808 (by simpa using h) (by decide)
  rw [show ((9223372036854775808 : Nat) : Int) = 9223372036854775808 from rfl] at this
  rw [this, Int.toNat_natCast, show (18446744073709551615 - 9223372036854775808 : Nat) = 2 ^ 63 - 1 from rfl, Nat.and_two_pow_sub_one_eq_mod]
def absS : CS := fun base args rd => match args, rd with
  | [.c (.flt .f64 x)], [] => some ⟨.c (.flt .f64 (x % 9223372036854775808)), [], base, []⟩
  | _, _ => none
theorem nanb_mod {x : Nat} (h : nanb .f64 x = false) : nanb .f64 (x % 9223372036854775808) = false := by
  unfold nanb FloatKind.decode at *
  have s64 : FloatKind.f64.format.signWeight = 9223372036854775808 := by decide +kernel
  rw [read_nan, s64] at h ⊢
  rw [Nat.mod_mod]; exact h
theorem can_of_nanb {k : FloatKind} {x : Nat} (h : nanb k x = false) : can k x = x := by
  unfold nanb at h
  simp [can, h]
set_option maxRecDepth 100000 in
theorem cAbs : CallOK Tryd.prog 76 absS := by
  intro E base args vals rd w e hs hob hargs hb1 hbe hfr hmem
  unfold absS at hs
  split at hs <;> cases hs
  rename_i x
  obtain ⟨l⟩ := vals
  match l, hargs with
  | [v], hargs =>
    obtain ⟨r, rfl, h2, h3⟩ := hargs.1
    have hr : can .f64 (r % 9223372036854775808) = x % 9223372036854775808 := by
      rcases can_cases .f64 r with ⟨g1, g2⟩ | ⟨g1, g2⟩
      · rw [← h3, g2]
        have : (FloatKind.f64.decode (r % 9223372036854775808)).isNaN = true := by
          unfold FloatKind.decode at *
          have s64 : FloatKind.f64.format.signWeight = 9223372036854775808 := by decide +kernel
          rw [read_nan, s64] at g1 ⊢
          rw [Nat.mod_mod]; exact g1
        rw [can_of_nan this]
        decide +kernel
      · rw [← h3, g2]
        exact can_of_nanb (nanb_mod g1)
    have hc : Calls Tryd.prog 76 #[.float .f64 r] w (fun e w'' => ∃ v, e = .returned v ∧ CallPost E base [] w ⟨.c (.flt .f64 (x % 9223372036854775808)), [], base, []⟩ v w'') := by
      refine (abs_calls r w).mono fun e w' ⟨h4, h5⟩ => ⟨_, h4, ?_⟩
      subst h5
      refine ⟨E, Ext.refl E, fun i hi => .inl hi, ⟨_, rfl, ?_, ?_⟩, hmem⟩
      · rw [andNot_mod h2]
        exact Nat.lt_of_le_of_lt (Nat.mod_le _ _) h2
      · rw [andNot_mod h2]
        exact hr
    have hrun : (callFunc 76 #[.float .f64 r]).run Tryd.prog w = .ok (.enter 76 #[.float .f64 r]) w := by
      have hb : Tryd.f76.body.isSome = true := by kernel_rfl
      have hne : ¬ Tryd.f76.name = "runtime.NumGoroutine" := by
        have : (Tryd.f76.name == "runtime.NumGoroutine") = false := by kernel_rfl
        simpa using this
      obtain ⟨c, hc⟩ := Option.isSome_iff_exists.1 hb
      simp [callFunc, Tryd.func76, hne, hc]
    rw [hrun]
    exact hc
end Go.Proofs.YtaodbpejeglmlaaDoor
