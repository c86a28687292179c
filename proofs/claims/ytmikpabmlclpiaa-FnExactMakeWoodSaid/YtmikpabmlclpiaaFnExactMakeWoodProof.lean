/- The Go function laws.FnExactMakeWood returns true, whatever its arguments. No condition. -/
import Derived.Test.YtmikpabmlclpiaaRows
import Derived.Test.YtmikpabmlclpiaaVal
import Derived.WalkKit
import Derived.ProofKit
import Derived.OpenShut
namespace Go.Proofs.Ytmikpabmlclpiaa.fnExactMakeWood
open Go.ChangeShapes Go.WideShapes Go.ChangeAt Go.RowKit

theorem own : ownKnob Try.prog.godebug = none := by kernel_rfl
theorem kids : Kids Try.prog (· < Try.prog.types.size) := kids_rows (by kernel_rfl) (by kernel_rfl)
theorem full : ∀ t e, t < Try.prog.types.size → Try.prog.underlying t = some (.slice e) → 0 < Try.prog.cellsOf e := slices_full_of Try.prog (by kernel_rfl)

def w3 (x y z : Nat) : Nat → Nat := fun i => [x, x, x, x, x, x, y, y, y, y, y, y, z, z, z, z, z, z].getD i 0
def gw (V : Bool) (x y z : Nat) : Nat → Nat := w3 (bif !V then 0 else x) (bif !V then 0 else y) (bif !V then 0 else z)
def gc (V : Bool) : Int := bif !V then 1 else 0
noncomputable def G : List SV → Option SV
  | [.c (.flt .f32 x), .c (.flt .f32 y), .c (.flt .f32 z)] => some (.tup [.a [.flt .f32 (gw (valid (w3 x y z)) x y z 0), .flt .f32 (gw (valid (w3 x y z)) x y z 1), .flt .f32 (gw (valid (w3 x y z)) x y z 2), .flt .f32 (gw (valid (w3 x y z)) x y z 3), .flt .f32 (gw (valid (w3 x y z)) x y z 4), .flt .f32 (gw (valid (w3 x y z)) x y z 5), .flt .f32 (gw (valid (w3 x y z)) x y z 6), .flt .f32 (gw (valid (w3 x y z)) x y z 7), .flt .f32 (gw (valid (w3 x y z)) x y z 8), .flt .f32 (gw (valid (w3 x y z)) x y z 9), .flt .f32 (gw (valid (w3 x y z)) x y z 10), .flt .f32 (gw (valid (w3 x y z)) x y z 11), .flt .f32 (gw (valid (w3 x y z)) x y z 12), .flt .f32 (gw (valid (w3 x y z)) x y z 13), .flt .f32 (gw (valid (w3 x y z)) x y z 14), .flt .f32 (gw (valid (w3 x y z)) x y z 15), .flt .f32 (gw (valid (w3 x y z)) x y z 16), .flt .f32 (gw (valid (w3 x y z)) x y z 17)], .c (.int .i64 (.s (gc (valid (w3 x y z)))))])
  | _ => none
def asE : SV → SE
  | .a l => .a l
  | _ => .a []
def out (V : Bool) (x y z : Nat) : SV := .tup [asE (wd (gw V x y z)), .c (.int .i64 (.s (gc V)))]
def L : List (Nat × CS) := [(79, amtS), (78, amtS)]
set_option maxRecDepth 100000 in
theorem spec_run (O : FOps) (x y z : Nat) : inl ⟨Try.prog, O, orcN Try.prog O L 8⟩ Try.f20 ⟨fun _ => none, fun _ => none⟩ 1 [.c (.flt .f32 x), .c (.flt .f32 y), .c (.flt .f32 z)] [] = some ⟨out (six (badS O (w3 x y z))) x y z, [], 5, []⟩ := by kernel_rfl
set_option maxRecDepth 100000 in
theorem impl_run (O : FOps) (x y z : Nat) : inl ⟨Try.prog, O, orcN Try.prog O L 8⟩ Try.f21 ⟨fun _ => none, fun _ => none⟩ 1 [.c (.flt .f32 x), .c (.flt .f32 y), .c (.flt .f32 z)] [] = some ⟨out (six (badI O (w3 x y z))) x y z, [], 4, []⟩ := by kernel_rfl
set_option maxRecDepth 100000 in
theorem cSpec : CallOK Try.prog 20 (gS G) :=
  gS_of (inlN_of (l := L) ⟨cAmtI, cAmtL, trivial⟩ mixed 8 Try.func20 (by kernel_rfl) (fun _ => none)) fun args r E vals hG _ => by
    unfold G at hG
    split at hG <;> cases hG
    exact ⟨rfl, _, spec_run fops _ _ _, rfl, rfl, AllT.nil, fun _ _ h => by rw [validS_eq] at h; exact h⟩
set_option maxRecDepth 100000 in
theorem cImpl : CallOK Try.prog 21 (gS G) :=
  gS_of (inlN_of (l := L) ⟨cAmtI, cAmtL, trivial⟩ mixed 8 Try.func21 (by kernel_rfl) (fun _ => none)) fun args r E vals hG _ => by
    unfold G at hG
    split at hG <;> cases hG
    exact ⟨rfl, _, impl_run fops _ _ _, rfl, rfl, AllT.nil, fun _ _ h => by rw [validI_eq] at h; exact h⟩
noncomputable def L2 (O : FOps) : List (Nat × CS) := [(21, gS G), (20, gS G), (22, gS (eqG O))]
def back (w : Nat → Nat) : Nat → Nat := fun i => [w 0, w 1, w 2, w 3, w 4, w 5, w 6, w 7, w 8, w 9, w 10, w 11, w 12, w 13, w 14, w 15, w 16, w 17].getD i 0
set_option maxRecDepth 100000 in
theorem law_run (O : FOps) (x y z : Nat) : inl ⟨Try.prog, O, orcN Try.prog O (L2 O) 1⟩ Try.f5 ⟨fun _ => none, fun _ => none⟩ 1 [.c (.flt .f32 x), .c (.flt .f32 y), .c (.flt .f32 z)] [] =
    some ⟨.c (.bool (.s (bif (bif !eqW O (back (gw (valid (w3 x y z)) x y z)) (back (gw (valid (w3 x y z)) x y z)) then true else !decide (gc (valid (w3 x y z)) = gc (valid (w3 x y z)))) then false else true))), [], 3, []⟩ := by kernel_rfl
set_option maxRecDepth 100000 in
theorem walk {H : Type} (enc : TypeId × Value → H) (W : World) (args : Array Value) {base : Nat} {ds : List (DataW H)} {p : List MemPlace} (hn : args.size = 3) (hval : ∀ (j : Nat) t v, #[22, 22, 22][j]? = some t → args[j]? = some v → Value.okWide Try.prog W .any base t v)
    (_ : DataW.TrodAll enc Try.prog W 0 (fun _ => true) true Try.f5.params.toList args.toList ds p) : Calls Try.prog 5 args W fun e w' => e = .returned (.bool true) ∧ Grown W w' := by
  obtain ⟨l⟩ := args
  match l, hn with
  | [v0, v1, v2], _ =>
    obtain ⟨x, _, hx⟩ := val_flt (k := .f32) Try.underlying22 (hval 0 22 v0 rfl rfl)
    obtain ⟨y, _, hy⟩ := val_flt (k := .f32) Try.underlying22 (hval 1 22 v1 rfl rfl)
    obtain ⟨z, _, hz⟩ := val_flt (k := .f32) Try.underlying22 (hval 2 22 v2 rfl rfl)
    exact law_of (inlN_of (l := L2 fops) ⟨cImpl, cSpec, cEq, trivial⟩ mixed 1 Try.func5 (by kernel_rfl) (fun _ => none))
      Try.func5 (by kernel_rfl) (by kernel_rfl) (law_run fops x y z) AllT.nil rfl (by rw [eqW_self]; simp [SB.val]) (Nat.le_of_ble_eq_true rfl) (show RelVs _ [.c (.flt .f32 x), .c (.flt .f32 y), .c (.flt .f32 z)] [v0, v1, v2] from ⟨hx, hy, hz, trivial⟩) W

theorem fn_eq {H : Type} {ds : List (DataW H)} (h : ds.length = 3) : (Rows.fnExactMakeWoodSpec.fn H (ds ++ [])).results = [.lit (.bool true)] ∧ (Rows.fnExactMakeWoodSpec.fn H (ds ++ [])).args = ds ∧ (Rows.fnExactMakeWoodSpec.fn H (ds ++ [])).vars = [] := by
  match ds, h with
  | [_, _, _], _ => exact ⟨rfl, rfl, rfl⟩

/-! ### the row's step -/
set_option maxRecDepth 100000 in
theorem lifted (os : Os) (started : os.Started) (H : Type) (enc : TypeId × Value → H) :
    ReturnsInHanded {} Try.checked os 5 .any (Rows.fnExactMakeWoodSpec.pre6 enc Try.prog Try.f5 Rows.fnExactMakeWoodRow.domain false) (Rows.fnExactMakeWoodSpec.post enc Try.prog Try.f5 false true false false) := by
  refine returnsInHanded_of_change (C := Try.checked) own started (by kernel_rfl) Try.func5
    (ChangeSpec.witness6 (enc := enc) (C := Try.checked) false ⟨#[], #[.float .f32 0, .float .f32 0, .float .f32 0], []⟩ 8 (by kernel_rfl) (by kernel_rfl) (by kernel_rfl) (by kernel_rfl)) ?_
  intro W base args ds gs before hval0 hW hcnd _
  have hval : ∀ (j : Nat) t v, Try.f5.params[j]? = some t → args[j]? = some v → Value.okWide Try.prog W .any base t v := hval0
  have hW' := hW
  obtain ⟨p, q, hA0, hV, rfl, hfz, hnd⟩ := hW
  have hA : DataW.TrodAll enc Try.prog W 0 (fun _ => true) true Try.f5.params.toList args.toList ds p := hA0
  obtain ⟨rfl, rfl⟩ := trodVars_none hV
  obtain ⟨hl1, hl2⟩ := trodAll_len hA
  have hlt := hW'.lt
  rw [Try.params5] at hl1 hl2 hval
  have hfn := fn_eq (H := H) (ds := ds) hl2
  refine (walk enc W args (by simpa using hl1) hval hA).mono fun e W' ⟨he, hg⟩ => ?_
  subst he
  exact ⟨_, rfl, post_of_same (pv := []) hW' (fun _ _ _ => by rw [hfn.1]; exact trodAll_cons_mk (shut_bool Try.underlying4 _) trodAll_mk0)
    (fun sp hsp => by rw [hfn.2.1]; exact args_stay kids full hg (by rw [Try.params5]; decide +kernel) hA (fun p hp => hlt p (by simpa using hp)) (fun p hp => hsp p (by simpa using hp)))
    (fun _ _ => by rw [hfn.2.2]; rfl) (by simp) (hg.frame _) hg.2.1 (ok_one (by kernel_rfl) rfl (okWide_bool_mk Try.underlying4 _))⟩

theorem over : Rows.fnExactMakeWoodRow.holds Try.pinned (OpenSpec.ofChange Rows.fnExactMakeWoodSpec) :=
  OpenClaim.holds_of_wide 5 Try.f5 rfl rfl rfl rfl rfl rfl rfl ⟨rfl, rfl, rfl, rfl, rfl⟩ rfl rfl rfl rfl rfl (by kernel_rfl) Try.func5 (by kernel_rfl)
    (of_decide_eq_true (by kernel_rfl)) (by unfold Func.isWrapper; first | (rw [if_pos (by decide +kernel)]; kernel_rfl) | (rw [if_neg (by decide +kernel)]; exact ⟨rfl, rfl⟩))
    (fun os started H enc _ => lifted os started H enc)

theorem proved : Rows.FnExactMakeWoodSaid :=
  over
#print axioms proved
end Go.Proofs.Ytmikpabmlclpiaa.fnExactMakeWood
