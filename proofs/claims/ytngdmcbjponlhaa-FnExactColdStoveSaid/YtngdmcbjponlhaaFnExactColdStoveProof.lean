/- The Go function laws.FnExactColdStove returns true, whatever its arguments. No condition. -/
import Derived.Test.YtngdmcbjponlhaaRows
import Derived.Test.YtngdmcbjponlhaaHp
import Derived.Test.YtngdmcbjponlhaaAmt
import Derived.Test.YtngdmcbjponlhaaAbs
import Derived.Test.YtngdmcbjponlhaaVal
import Derived.WalkKit
import Derived.ProofKit
import Derived.OpenShut
namespace Go.Proofs.Ytngdmcbjponlhaa.fnExactColdStove
open Go.ChangeShapes Go.WideShapes Go.ChangeAt Go.RowKit

theorem own : ownKnob Try.prog.godebug = none := by kernel_rfl
theorem kids : Kids Try.prog (· < Try.prog.types.size) := kids_rows (by kernel_rfl) (by kernel_rfl)
theorem full : ∀ t e, t < Try.prog.types.size → Try.prog.underlying t = some (.slice e) → 0 < Try.prog.cellsOf e := slices_full_of Try.prog (by kernel_rfl)

noncomputable def L (O : FOps) : List (Nat × CS) := [(61, amtS), (66, amtS), (108, absS), (31, gS (sfG O))]
set_option maxRecDepth 100000 in
theorem okL : AllOK Try.prog (L fops) := ⟨cAmtI, cAmtL, cAbs, cSf, trivial⟩
def vI (a b d l : Bool) : Bool := bif (bif a then b else false) then (bif (bif true then d else false) then l else false) else false
def vS (a b d g : Bool) : Bool := bif (bif a then (bif !b then true else bif !(bif true then d else false) then true else g) else true) then false else true
theorem v_eq (a b d : Bool) : vS a b d false = vI a b d true := by cases a <;> cases b <;> cases d <;> rfl
noncomputable def E (O : FOps) (v w : Bool) (x : Nat) : Bool := bif !sf O (O.conv .f32 .f64 (bif !v then 0 else x)) (O.conv .f32 .f64 (bif !w then 0 else x)) then false else bif !sf O (O.conv .f32 .f64 (bif !v then 0 else 1065353216)) (O.conv .f32 .f64 (bif !w then 0 else 1065353216)) then false else bif !sf O (O.conv .f32 .f64 (bif !v then 0 else 0)) (O.conv .f32 .f64 (bif !w then 0 else 0)) then false else true
noncomputable def D (O : FOps) (v w : Bool) (x : Nat) : Bool := bif !E O v w x then true else bif decide ((bif !v then (1 : Int) else 0) = bif !w then 1 else 0) then false else true
noncomputable def B (O : FOps) (x : Nat) : Bool :=
  let v := vI (O.cmp .geq .f32 x 3262119936) (O.cmp .leq .f32 x 1153138688) (O.cmp .leq .f32 1065353216 1065353216) (O.cmp .lss .f32 0 1065353216)
  let w := vS (O.cmp .geq .f32 x 3262119936) (O.cmp .leq .f32 x 1153138688) (O.cmp .leq .f32 1065353216 1065353216) (O.cmp .geq .f32 0 1065353216)
  bif D O v w x then false else bif D O v w x then false else true
set_option maxRecDepth 100000 in
theorem law_run (O : FOps) (x : Nat) : rE 1 (inl ⟨Try.prog, O, orcN Try.prog O (L O) 8⟩ Try.f5 ⟨fun _ => none, fun _ => none⟩ 1 [.c (.flt .f32 x)] []) = some (.c (.bool (.s (B O x))), []) := by kernel_rfl
theorem lss01 : fops.cmp .lss .f32 0 1065353216 = true := by kernel_rfl
theorem geq01 : fops.cmp .geq .f32 0 1065353216 = false := by kernel_rfl
theorem B_true (x : Nat) : B fops x = true := by
  unfold B
  rw [lss01, geq01, v_eq]
  simp only [D, E, sf_self]
  simp
set_option maxRecDepth 100000 in
theorem walk {H : Type} (enc : TypeId × Value → H) (W : World) (args : Array Value) {base : Nat} {ds : List (DataW H)} {p : List MemPlace} (hn : args.size = 1) (hval : ∀ (j : Nat) t v, #[23][j]? = some t → args[j]? = some v → Value.okWide Try.prog W .any base t v)
    (_ : DataW.TrodAll enc Try.prog W 0 (fun _ => true) true Try.f5.params.toList args.toList ds p) : Calls Try.prog 5 args W fun e w' => e = .returned (.bool true) ∧ Grown W w' := by
  obtain ⟨l⟩ := args
  match l, hn with
  | [v0], _ =>
    obtain ⟨x, _, h0⟩ := val_flt (k := .f32) Try.underlying23 (hval 0 23 v0 rfl rfl)
    exact law_of2 (inlN_of (l := L fops) okL mixed 8 Try.func5 (by kernel_rfl) (fun _ => none))
      Try.func5 (by kernel_rfl) (by kernel_rfl) (law_run fops x) AllT.nil (B_true x) (show RelVs (fun _ => none) [.c (.flt .f32 x)] [v0] from ⟨h0, trivial⟩) W

theorem fn_eq {H : Type} {ds : List (DataW H)} (h : ds.length = 1) : (Rows.fnExactColdStoveSpec.fn H (ds ++ [])).results = [.lit (.bool true)] ∧ (Rows.fnExactColdStoveSpec.fn H (ds ++ [])).args = ds ∧ (Rows.fnExactColdStoveSpec.fn H (ds ++ [])).vars = [] := by
  match ds, h with
  | [_], _ => exact ⟨rfl, rfl, rfl⟩

/-! ### the row's step -/
set_option maxRecDepth 100000 in
theorem lifted (os : Os) (started : os.Started) (H : Type) (enc : TypeId × Value → H) :
    ReturnsInHanded {} Try.checked os 5 .any (Rows.fnExactColdStoveSpec.pre6 enc Try.prog Try.f5 Rows.fnExactColdStoveRow.domain false) (Rows.fnExactColdStoveSpec.post enc Try.prog Try.f5 false true false false) := by
  refine returnsInHanded_of_change (C := Try.checked) own started (by kernel_rfl) Try.func5
    (ChangeSpec.witness6 (enc := enc) (C := Try.checked) false ⟨#[], #[.float .f32 0], []⟩ 8 (by kernel_rfl) (by kernel_rfl) (by kernel_rfl) (by kernel_rfl)) ?_
  intro W base args ds gs before hval0 hW hcnd _
  have hval : ∀ (j : Nat) t v, Try.f5.params[j]? = some t → args[j]? = some v → Value.okWide Try.prog W .any base t v := hval0
  have hW' := hW
  obtain ⟨p, q, hA0, hV, rfl, hfz, hnd⟩ := hW
  have hA : DataW.TrodAll enc Try.prog W 0 (fun _ => true) true Try.f5.params.toList args.toList ds p := hA0
  obtain ⟨rfl, rfl⟩ := trodVars_none hV
  obtain ⟨hl1, hl2⟩ := trodAll_len hA
  have hlt := hW'.lt
  rw [Try.params5] at hl1 hl2 hval
  have hfn := fn_eq (H := H) (ds := ds) hl2
  refine (walk enc W args (by simpa using hl1) hval hA).mono fun e W' ⟨he, hg⟩ => ?_
  subst he
  exact ⟨_, rfl, post_of_same (pv := []) hW' (fun _ _ _ => by rw [hfn.1]; exact trodAll_cons_mk (shut_bool Try.underlying4 _) trodAll_mk0)
    (fun sp hsp => by rw [hfn.2.1]; exact args_stay kids full hg (by rw [Try.params5]; decide +kernel) hA (fun p hp => hlt p (by simpa using hp)) (fun p hp => hsp p (by simpa using hp)))
    (fun _ _ => by rw [hfn.2.2]; rfl) (by simp) (hg.frame _) hg.2.1 (ok_one (by kernel_rfl) rfl (okWide_bool_mk Try.underlying4 _))⟩

theorem over : Rows.fnExactColdStoveRow.holds Try.pinned (OpenSpec.ofChange Rows.fnExactColdStoveSpec) :=
  OpenClaim.holds_of_wide 5 Try.f5 rfl rfl rfl rfl rfl rfl rfl ⟨rfl, rfl, rfl, rfl, rfl⟩ rfl rfl rfl rfl rfl (by kernel_rfl) Try.func5 (by kernel_rfl)
    (of_decide_eq_true (by kernel_rfl)) (by unfold Func.isWrapper; first | (rw [if_pos (by decide +kernel)]; kernel_rfl) | (rw [if_neg (by decide +kernel)]; exact ⟨rfl, rfl⟩))
    (fun os started H enc _ => lifted os started H enc)

theorem proved : Rows.FnExactColdStoveSaid :=
  over
#print axioms proved
end Go.Proofs.Ytngdmcbjponlhaa.fnExactColdStove
