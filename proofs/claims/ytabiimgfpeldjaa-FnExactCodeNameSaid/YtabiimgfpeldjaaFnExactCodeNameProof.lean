/- The Go function laws.FnExactCodeName returns true, whatever its arguments. No condition. -/
import Derived.Test.YtabiimgfpeldjaaRows
import Derived.Test.YtabiimgfpeldjaaNum
import Derived.Test.YtabiimgfpeldjaaSv
import Derived.WalkKit
import Derived.ProofKit
import Derived.OpenShut
namespace Go.Proofs.Ytabiimgfpeldjaa.fnExactCodeName
open Go.ChangeShapes Go.WideShapes Go.ChangeAt Go.RowKit

theorem own : ownKnob Try.prog.godebug = none := by kernel_rfl
theorem kids : Kids Try.prog (· < Try.prog.types.size) := kids_rows (by kernel_rfl) (by kernel_rfl)
theorem full : ∀ t e, t < Try.prog.types.size → Try.prog.underlying t = some (.slice e) → 0 < Try.prog.cellsOf e := slices_full_of Try.prog (by kernel_rfl)

def names (n : Int) : ByteArray :=
  bif decide (n = 0) then "ok".toUTF8 else bif decide (n = 1) then "invalid".toUTF8 else bif decide (n = 2) then "range".toUTF8 else bif decide (n = 3) then "limit".toUTF8 else bif decide (n = 4) then "state".toUTF8 else
  bif decide (n = 5) then "syntax".toUTF8 else bif decide (n = 6) then "notfound".toUTF8 else bif decide (n = 7) then "budget".toUTF8 else "proof".toUTF8
def offS (n : Int) : Bool := !(bif decide (0 ≤ n) then decide (n ≤ 8) else false)
def offI (n : Int) : Bool := bif decide (n < 0) then true else decide (9 ≤ n)
set_option maxRecDepth 100000 in
theorem law_run (O : FOps) (n : Int) : inl ⟨Try.prog, O, orcN Try.prog O [] 8⟩ Try.f5 ⟨fun _ => none, fun _ => none⟩ 1 [.c (.int .i64 (.s n))] [] =
    some ⟨.c (.bool (.s (bif !((bif offI n then "".toUTF8 else names n).toList == (bif offS n then "".toUTF8 else names n).toList) then false else true))), [], 3,
      [offS n || decide (0 ≤ n ∧ n < 9), offI n || decide (0 ≤ n ∧ n < 9)]⟩ := by kernel_rfl
theorem off_eq (n : Int) : offI n = offS n := by
  unfold offI offS
  by_cases h1 : n < 0
  · simp [h1, show ¬ (0 ≤ n) by omega]
  · by_cases h2 : n ≤ 8
    · simp [h1, h2, show 0 ≤ n by omega, show ¬ (9 ≤ n) by omega]
    · simp [h1, h2, show 0 ≤ n by omega, show 9 ≤ n by omega]
theorem off_or (n : Int) : (offS n || decide (0 ≤ n ∧ n < 9)) = true := by
  unfold offS
  by_cases h1 : 0 ≤ n <;> by_cases h2 : n ≤ 8 <;> simp [h1, h2]
  omega
theorem walk {H : Type} (enc : TypeId × Value → H) (W : World) (args : Array Value) {base : Nat} {ds : List (DataW H)} {p : List MemPlace} (hn : args.size = 1) (hval : ∀ (j : Nat) t v, #[2][j]? = some t → args[j]? = some v → Value.okWide Try.prog W .any base t v)
    (_ : DataW.TrodAll enc Try.prog W 0 (fun _ => true) true Try.f5.params.toList args.toList ds p) : Calls Try.prog 5 args W fun e w' => e = .returned (.bool true) ∧ Grown W w' := by
  obtain ⟨l⟩ := args
  match l, hn with
  | [v0], _ =>
    obtain ⟨n, hx, _⟩ := val_int (k := .i64) Try.underlying2 (hval 0 2 v0 rfl rfl)
    exact law_of (inlN_of (l := []) trivial mixed 8 Try.func5 (by kernel_rfl) (fun _ => none))
      Try.func5 (by kernel_rfl) (by kernel_rfl) (law_run fops n) (AllT.cons (off_or n) (AllT.cons (by rw [off_eq]; exact off_or n) AllT.nil)) rfl (by rw [off_eq]; simp [SB.val]) (Nat.le_of_ble_eq_true rfl) (show RelVs _ [.c (.int .i64 (.s n))] [v0] from ⟨hx, trivial⟩) W

theorem fn_eq {H : Type} {ds : List (DataW H)} (h : ds.length = 1) : (Rows.fnExactCodeNameSpec.fn H (ds ++ [])).results = [.lit (.bool true)] ∧ (Rows.fnExactCodeNameSpec.fn H (ds ++ [])).args = ds ∧ (Rows.fnExactCodeNameSpec.fn H (ds ++ [])).vars = [] := by
  match ds, h with
  | [_], _ => exact ⟨rfl, rfl, rfl⟩

/-! ### the row's step -/
set_option maxRecDepth 100000 in
theorem lifted (os : Os) (started : os.Started) (H : Type) (enc : TypeId × Value → H) :
    ReturnsInHanded {} Try.checked os 5 .any (Rows.fnExactCodeNameSpec.pre6 enc Try.prog Try.f5 Rows.fnExactCodeNameRow.domain false) (Rows.fnExactCodeNameSpec.post enc Try.prog Try.f5 false true false false) := by
  refine returnsInHanded_of_change (C := Try.checked) own started (by kernel_rfl) Try.func5
    (ChangeSpec.witness6 (enc := enc) (C := Try.checked) false ⟨#[], #[.int .i64 0], []⟩ 8 (by kernel_rfl) (by kernel_rfl) (by kernel_rfl) (by kernel_rfl)) ?_
  intro W base args ds gs before hval0 hW hcnd _
  have hval : ∀ (j : Nat) t v, Try.f5.params[j]? = some t → args[j]? = some v → Value.okWide Try.prog W .any base t v := hval0
  have hW' := hW
  obtain ⟨p, q, hA0, hV, rfl, hfz, hnd⟩ := hW
  have hA : DataW.TrodAll enc Try.prog W 0 (fun _ => true) true Try.f5.params.toList args.toList ds p := hA0
  obtain ⟨rfl, rfl⟩ := trodVars_none hV
  obtain ⟨hl1, hl2⟩ := trodAll_len hA
  have hlt := hW'.lt
  rw [Try.params5] at hl1 hl2 hval
  have hfn := fn_eq (H := H) (ds := ds) hl2
  refine (walk enc W args (by simpa using hl1) hval hA).mono fun e W' ⟨he, hg⟩ => ?_
  subst he
  exact ⟨_, rfl, post_of_same (pv := []) hW' (fun _ _ _ => by rw [hfn.1]; exact trodAll_cons_mk (shut_bool Try.underlying4 _) trodAll_mk0)
    (fun sp hsp => by rw [hfn.2.1]; exact args_stay kids full hg (by rw [Try.params5]; decide +kernel) hA (fun p hp => hlt p (by simpa using hp)) (fun p hp => hsp p (by simpa using hp)))
    (fun _ _ => by rw [hfn.2.2]; rfl) (by simp) (hg.frame _) hg.2.1 (ok_one (by kernel_rfl) rfl (okWide_bool_mk Try.underlying4 _))⟩

theorem over : Rows.fnExactCodeNameRow.holds Try.pinned (OpenSpec.ofChange Rows.fnExactCodeNameSpec) :=
  OpenClaim.holds_of_wide 5 Try.f5 rfl rfl rfl rfl rfl rfl rfl ⟨rfl, rfl, rfl, rfl, rfl⟩ rfl rfl rfl rfl rfl (by kernel_rfl) Try.func5 (by kernel_rfl)
    (of_decide_eq_true (by kernel_rfl)) (by unfold Func.isWrapper; first | (rw [if_pos (by decide +kernel)]; kernel_rfl) | (rw [if_neg (by decide +kernel)]; exact ⟨rfl, rfl⟩))
    (fun os started H enc _ => lifted os started H enc)

theorem proved : Rows.FnExactCodeNameSaid :=
  over
#print axioms proved
end Go.Proofs.Ytabiimgfpeldjaa.fnExactCodeName
