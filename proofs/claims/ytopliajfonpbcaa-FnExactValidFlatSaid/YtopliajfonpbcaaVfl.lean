/- The law ValidFlat: what its text computes. Nothing is assumed. -/
import Derived.Test.YtopliajfonpbcaaFll
namespace Go.Proofs.Ytopliajfonpbcaa.Vfl
open Go Fla
noncomputable section
noncomputable def hLaw : List (Nat × Bool) := [(11, false), (21, false), (26, false)]
noncomputable def run (O : FOps) (hl : List (Nat × Bool)) (v : SV) (rd : List (Nat × Seg)) : Option (SV × List Bool) :=
  rE 5 (inl (cxW O) Try.f5 ⟨hints hl, fun _ => none⟩ 5 [v] rd)
set_option maxRecDepth 100000 in
theorem run_ok (O : FOps) (x : FD) : run O hLaw (flA x) (rdA x) = some (.c (.bool .t), obP O x (oV x) (oV x) (!(vF O x.fl == vF O x.fl))) := by kernel_rfl
set_option maxRecDepth 100000 in
theorem run_big (O : FOps) (x : FD) : run O [(11, true)] (flA x) (rdA x) = some (.c (.bool .t), [decide (sz x < 0)]) := by kernel_rfl
set_option maxRecDepth 100000 in
theorem run0 (O : FOps) : run O hLaw flA0 [] = some (.c (.bool .t), [!(!(false == false))]) := by kernel_rfl
theorem law_all {x : FD} (hn : Nn x) : ∃ hl ob, run fops hl (flA x) (rdA x) = some (.c (.bool .t), ob) ∧ AllT ob := by
  cases hz : decide (sz x < 0) with
  | true => exact ⟨_, _, run_big fops x, AllT.one' hz⟩
  | false =>
    have h := sz_small hn hz
    exact ⟨_, _, run_ok fops x, obP_ok h hz (oV_ok h) (oV_ok h) (by simp)⟩
theorem law_all0 : ∃ hl ob, run fops hl flA0 [] = some (.c (.bool .t), ob) ∧ AllT ob := ⟨_, _, run0 fops, AllT.one' rfl⟩
end
end Go.Proofs.Ytopliajfonpbcaa.Vfl
