/- The Go function laws.FnExactSameWood returns true, whatever its arguments. No condition. -/
import Derived.Test.YtmikpabmlclpiaaRows
import Derived.Test.YtmikpabmlclpiaaWd
import Derived.WalkKit
import Derived.ProofKit
import Derived.OpenShut
namespace Go.Proofs.Ytmikpabmlclpiaa.fnExactSameWood
open Go.ChangeShapes Go.WideShapes Go.ChangeAt Go.RowKit

theorem own : ownKnob Try.prog.godebug = none := by kernel_rfl
theorem kids : Kids Try.prog (· < Try.prog.types.size) := kids_rows (by kernel_rfl) (by kernel_rfl)
theorem full : ∀ t e, t < Try.prog.types.size → Try.prog.underlying t = some (.slice e) → 0 < Try.prog.cellsOf e := slices_full_of Try.prog (by kernel_rfl)

def row (w v : Nat → Nat) (i : Nat) : Bool :=
  bif !Nat.beq (w i) (v i) then false else bif !Nat.beq (w (i + 1)) (v (i + 1)) then false else bif !Nat.beq (w (i + 2)) (v (i + 2)) then false else
  bif !Nat.beq (w (i + 3)) (v (i + 3)) then false else bif !Nat.beq (w (i + 4)) (v (i + 4)) then false else bif !Nat.beq (w (i + 5)) (v (i + 5)) then false else true
def same (w v : Nat → Nat) : Bool := bif row w v 0 then (bif row w v 6 then row w v 12 else false) else false
def L : List (Nat × CS) := [(77, sameS), (90, sameS)]
set_option maxRecDepth 100000 in
theorem law_run (O : FOps) (w v : Nat → Nat) : inl ⟨Try.prog, O, orcN Try.prog O L 8⟩ Try.f3 ⟨fun _ => none, fun _ => none⟩ 1 [wd w, wd v] [] =
    some ⟨.c (.bool (.s (bif !(same w v == same w v) then false else true))), [], 61, []⟩ := by kernel_rfl
set_option maxRecDepth 100000 in
theorem walk {H : Type} (enc : TypeId × Value → H) (W : World) (args : Array Value) {base : Nat} {ds : List (DataW H)} {p : List MemPlace} (hn : args.size = 2) (hval : ∀ (j : Nat) t v, #[25, 25][j]? = some t → args[j]? = some v → Value.okWide Try.prog W .any base t v)
    (_ : DataW.TrodAll enc Try.prog W 0 (fun _ => true) true Try.f3.params.toList args.toList ds p) : Calls Try.prog 3 args W fun e w' => e = .returned (.bool true) ∧ Grown W w' := by
  obtain ⟨l⟩ := args
  match l, hn with
  | [v0, v1], _ =>
    obtain ⟨w, _, hx⟩ := wd_rel (E := fun _ => none) (hval 0 25 v0 rfl rfl)
    obtain ⟨v, _, hy⟩ := wd_rel (E := fun _ => none) (hval 1 25 v1 rfl rfl)
    exact law_of (inlN_of (l := L) ⟨cSameI, cSameL, trivial⟩ mixed 8 Try.func3 (by kernel_rfl) (fun _ => none))
      Try.func3 (by kernel_rfl) (by kernel_rfl) (law_run fops w v) AllT.nil rfl (by simp [SB.val]) (Nat.le_of_ble_eq_true rfl) (show RelVs _ [wd w, wd v] [v0, v1] from ⟨hx, hy, trivial⟩) W

theorem fn_eq {H : Type} {ds : List (DataW H)} (h : ds.length = 2) : (Rows.fnExactSameWoodSpec.fn H (ds ++ [])).results = [.lit (.bool true)] ∧ (Rows.fnExactSameWoodSpec.fn H (ds ++ [])).args = ds ∧ (Rows.fnExactSameWoodSpec.fn H (ds ++ [])).vars = [] := by
  match ds, h with
  | [_, _], _ => exact ⟨rfl, rfl, rfl⟩

/-! ### the row's step -/
set_option maxRecDepth 100000 in
theorem lifted (os : Os) (started : os.Started) (H : Type) (enc : TypeId × Value → H) :
    ReturnsInHanded {} Try.checked os 3 .any (Rows.fnExactSameWoodSpec.pre6 enc Try.prog Try.f3 Rows.fnExactSameWoodRow.domain false) (Rows.fnExactSameWoodSpec.post enc Try.prog Try.f3 false true false false) := by
  refine returnsInHanded_of_change (C := Try.checked) own started (by kernel_rfl) Try.func3
    (ChangeSpec.witness6 (enc := enc) (C := Try.checked) false ⟨#[], #[.agg (Array.replicate 18 (.float .f32 0)), .agg (Array.replicate 18 (.float .f32 0))], []⟩ 8 (by kernel_rfl) (by kernel_rfl) (by kernel_rfl) (by kernel_rfl)) ?_
  intro W base args ds gs before hval0 hW hcnd _
  have hval : ∀ (j : Nat) t v, Try.f3.params[j]? = some t → args[j]? = some v → Value.okWide Try.prog W .any base t v := hval0
  have hW' := hW
  obtain ⟨p, q, hA0, hV, rfl, hfz, hnd⟩ := hW
  have hA : DataW.TrodAll enc Try.prog W 0 (fun _ => true) true Try.f3.params.toList args.toList ds p := hA0
  obtain ⟨rfl, rfl⟩ := trodVars_none hV
  obtain ⟨hl1, hl2⟩ := trodAll_len hA
  have hlt := hW'.lt
  rw [Try.params3] at hl1 hl2 hval
  have hfn := fn_eq (H := H) (ds := ds) hl2
  refine (walk enc W args (by simpa using hl1) hval hA).mono fun e W' ⟨he, hg⟩ => ?_
  subst he
  exact ⟨_, rfl, post_of_same (pv := []) hW' (fun _ _ _ => by rw [hfn.1]; exact trodAll_cons_mk (shut_bool Try.underlying4 _) trodAll_mk0)
    (fun sp hsp => by rw [hfn.2.1]; exact args_stay kids full hg (by rw [Try.params3]; decide +kernel) hA (fun p hp => hlt p (by simpa using hp)) (fun p hp => hsp p (by simpa using hp)))
    (fun _ _ => by rw [hfn.2.2]; rfl) (by simp) (hg.frame _) hg.2.1 (ok_one (by kernel_rfl) rfl (okWide_bool_mk Try.underlying4 _))⟩

theorem over : Rows.fnExactSameWoodRow.holds Try.pinned (OpenSpec.ofChange Rows.fnExactSameWoodSpec) :=
  OpenClaim.holds_of_wide 3 Try.f3 rfl rfl rfl rfl rfl rfl rfl ⟨rfl, rfl, rfl, rfl, rfl⟩ rfl rfl rfl rfl rfl (by kernel_rfl) Try.func3 (by kernel_rfl)
    (of_decide_eq_true (by kernel_rfl)) (by unfold Func.isWrapper; first | (rw [if_pos (by decide +kernel)]; kernel_rfl) | (rw [if_neg (by decide +kernel)]; exact ⟨rfl, rfl⟩))
    (fun os started H enc _ => lifted os started H enc)

theorem proved : Rows.FnExactSameWoodSaid :=
  over
#print axioms proved
end Go.Proofs.Ytmikpabmlclpiaa.fnExactSameWood
