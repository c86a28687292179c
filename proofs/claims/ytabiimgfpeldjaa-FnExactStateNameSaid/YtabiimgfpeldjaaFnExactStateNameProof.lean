/- The Go function laws.FnExactStateName returns true, whatever its arguments. No condition. -/
import Derived.Test.YtabiimgfpeldjaaRows
import Derived.Test.YtabiimgfpeldjaaNum
import Derived.Test.YtabiimgfpeldjaaSv
import Derived.WalkKit
import Derived.ProofKit
import Derived.OpenShut
namespace Go.Proofs.Ytabiimgfpeldjaa.fnExactStateName
open Go.ChangeShapes Go.WideShapes Go.ChangeAt Go.RowKit

theorem own : ownKnob Try.prog.godebug = none := by kernel_rfl
theorem kids : Kids Try.prog (· < Try.prog.types.size) := kids_rows (by kernel_rfl) (by kernel_rfl)
theorem full : ∀ t e, t < Try.prog.types.size → Try.prog.underlying t = some (.slice e) → 0 < Try.prog.cellsOf e := slices_full_of Try.prog (by kernel_rfl)

def names (n : Int) : ByteArray :=
  bif decide (n = 0) then "cold".toUTF8 else bif decide (n = 1) then "kindled".toUTF8 else bif decide (n = 2) then "burning".toUTF8 else "embers".toUTF8
def W64 (n : Int) : Int := IntKind.i64.wrap n
def offS (n : Int) : Bool := !(bif decide (0 ≤ W64 n) then decide (W64 n ≤ 3) else false)
def offI (n : Int) : Bool := bif decide (n < 0) then true else decide (4 ≤ W64 n)
theorem w64_eq {n : Int} (h1 : -128 ≤ n) (h2 : n ≤ 127) : W64 n = n := by
  unfold W64 IntKind.wrap
  simp [IntKind.bits, IntKind.signed, Int.bmod]
  omega
set_option maxRecDepth 100000 in
theorem law_run (O : FOps) (n : Int) : inl ⟨Try.prog, O, orcN Try.prog O [] 8⟩ Try.f6 ⟨fun _ => none, fun _ => none⟩ 1 [.c (.int .i8 (.s n))] [] =
    some ⟨.c (.bool (.s (bif !((bif offI n then "".toUTF8 else names n).toList == (bif offS n then "".toUTF8 else names n).toList) then false else true))), [], 4,
      [offS n || decide (0 ≤ n ∧ n < 4), offI n || decide (0 ≤ n ∧ n < 4)]⟩ := by kernel_rfl
theorem off_eq {n : Int} (a1 : -128 ≤ n) (a2 : n ≤ 127) : offI n = offS n := by
  unfold offI offS
  rw [w64_eq a1 a2]
  by_cases h1 : n < 0
  · simp [h1, show ¬ (0 ≤ n) by omega]
  · by_cases h2 : n ≤ 3
    · simp [h1, h2, show 0 ≤ n by omega, show ¬ (4 ≤ n) by omega]
    · simp [h1, h2, show 0 ≤ n by omega, show 4 ≤ n by omega]
theorem off_or {n : Int} (a1 : -128 ≤ n) (a2 : n ≤ 127) : (offS n || decide (0 ≤ n ∧ n < 4)) = true := by
  unfold offS
  rw [w64_eq a1 a2]
  by_cases h1 : 0 ≤ n <;> by_cases h2 : n ≤ 3 <;> simp [h1, h2]
  omega
theorem walk {H : Type} (enc : TypeId × Value → H) (W : World) (args : Array Value) {base : Nat} {ds : List (DataW H)} {p : List MemPlace} (hn : args.size = 1) (hval : ∀ (j : Nat) t v, #[27][j]? = some t → args[j]? = some v → Value.okWide Try.prog W .any base t v)
    (_ : DataW.TrodAll enc Try.prog W 0 (fun _ => true) true Try.f6.params.toList args.toList ds p) : Calls Try.prog 6 args W fun e w' => e = .returned (.bool true) ∧ Grown W w' := by
  obtain ⟨l⟩ := args
  match l, hn with
  | [v0], _ =>
    obtain ⟨n, hx, a1, a2⟩ := val_int (k := .i8) Try.underlying27 (hval 0 27 v0 rfl rfl)
    exact law_of (inlN_of (l := []) trivial mixed 8 Try.func6 (by kernel_rfl) (fun _ => none))
      Try.func6 (by kernel_rfl) (by kernel_rfl) (law_run fops n) (AllT.cons (off_or a1 a2) (AllT.cons (by rw [off_eq a1 a2]; exact off_or a1 a2) AllT.nil)) rfl (by rw [off_eq a1 a2]; simp [SB.val]) (Nat.le_of_ble_eq_true rfl) (show RelVs _ [.c (.int .i8 (.s n))] [v0] from ⟨hx, trivial⟩) W

theorem fn_eq {H : Type} {ds : List (DataW H)} (h : ds.length = 1) : (Rows.fnExactStateNameSpec.fn H (ds ++ [])).results = [.lit (.bool true)] ∧ (Rows.fnExactStateNameSpec.fn H (ds ++ [])).args = ds ∧ (Rows.fnExactStateNameSpec.fn H (ds ++ [])).vars = [] := by
  match ds, h with
  | [_], _ => exact ⟨rfl, rfl, rfl⟩

/-! ### the row's step -/
set_option maxRecDepth 100000 in
theorem lifted (os : Os) (started : os.Started) (H : Type) (enc : TypeId × Value → H) :
    ReturnsInHanded {} Try.checked os 6 .any (Rows.fnExactStateNameSpec.pre6 enc Try.prog Try.f6 Rows.fnExactStateNameRow.domain false) (Rows.fnExactStateNameSpec.post enc Try.prog Try.f6 false true false false) := by
  refine returnsInHanded_of_change (C := Try.checked) own started (by kernel_rfl) Try.func6
    (ChangeSpec.witness6 (enc := enc) (C := Try.checked) false ⟨#[], #[.int .i8 0], []⟩ 8 (by kernel_rfl) (by kernel_rfl) (by kernel_rfl) (by kernel_rfl)) ?_
  intro W base args ds gs before hval0 hW hcnd _
  have hval : ∀ (j : Nat) t v, Try.f6.params[j]? = some t → args[j]? = some v → Value.okWide Try.prog W .any base t v := hval0
  have hW' := hW
  obtain ⟨p, q, hA0, hV, rfl, hfz, hnd⟩ := hW
  have hA : DataW.TrodAll enc Try.prog W 0 (fun _ => true) true Try.f6.params.toList args.toList ds p := hA0
  obtain ⟨rfl, rfl⟩ := trodVars_none hV
  obtain ⟨hl1, hl2⟩ := trodAll_len hA
  have hlt := hW'.lt
  rw [Try.params6] at hl1 hl2 hval
  have hfn := fn_eq (H := H) (ds := ds) hl2
  refine (walk enc W args (by simpa using hl1) hval hA).mono fun e W' ⟨he, hg⟩ => ?_
  subst he
  exact ⟨_, rfl, post_of_same (pv := []) hW' (fun _ _ _ => by rw [hfn.1]; exact trodAll_cons_mk (shut_bool Try.underlying4 _) trodAll_mk0)
    (fun sp hsp => by rw [hfn.2.1]; exact args_stay kids full hg (by rw [Try.params6]; decide +kernel) hA (fun p hp => hlt p (by simpa using hp)) (fun p hp => hsp p (by simpa using hp)))
    (fun _ _ => by rw [hfn.2.2]; rfl) (by simp) (hg.frame _) hg.2.1 (ok_one (by kernel_rfl) rfl (okWide_bool_mk Try.underlying4 _))⟩

theorem over : Rows.fnExactStateNameRow.holds Try.pinned (OpenSpec.ofChange Rows.fnExactStateNameSpec) :=
  OpenClaim.holds_of_wide 6 Try.f6 rfl rfl rfl rfl rfl rfl rfl ⟨rfl, rfl, rfl, rfl, rfl⟩ rfl rfl rfl rfl rfl (by kernel_rfl) Try.func6 (by kernel_rfl)
    (of_decide_eq_true (by kernel_rfl)) (by unfold Func.isWrapper; first | (rw [if_pos (by decide +kernel)]; kernel_rfl) | (rw [if_neg (by decide +kernel)]; exact ⟨rfl, rfl⟩))
    (fun os started H enc _ => lifted os started H enc)

theorem proved : Rows.FnExactStateNameSaid :=
  over
#print axioms proved
end Go.Proofs.Ytabiimgfpeldjaa.fnExactStateName
