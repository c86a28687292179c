/- The Go function laws.FnExactDenseAt returns true, whatever its arguments. No condition. -/
import Derived.Test.YtabiimgfpeldjaaRows
import Derived.Test.YtabiimgfpeldjaaNum
import Derived.Test.YtabiimgfpeldjaaSv
import Derived.WalkKit
import Derived.ProofKit
import Derived.OpenShut
namespace Go.Proofs.Ytabiimgfpeldjaa.fnExactDenseAt
open Go.ChangeShapes Go.WideShapes Go.ChangeAt Go.RowKit

theorem own : ownKnob Try.prog.godebug = none := by kernel_rfl
theorem kids : Kids Try.prog (· < Try.prog.types.size) := kids_rows (by kernel_rfl) (by kernel_rfl)
theorem full : ∀ t e, t < Try.prog.types.size → Try.prog.underlying t = some (.slice e) → 0 < Try.prog.cellsOf e := slices_full_of Try.prog (by kernel_rfl)

noncomputable def hot (O : FOps) (x : Nat) : Bool := bif O.cmp .geq .f32 x 3262119936 then O.cmp .leq .f32 x 1153138688 else false
noncomputable def g0 (O : FOps) (x : Nat) : Nat := bif !hot O x then 0 else O.bin .quo .f32 1135640576 (O.bin .add .f32 x 1133019136)
noncomputable def g1 (O : FOps) (x : Nat) : Int := bif !hot O x then 2 else 0
noncomputable def G (O : FOps) : List SV → Option SV
  | [.c (.flt .f32 x)] => some (.tup [.c (.flt .f32 (g0 O x)), .c (.int .i64 (.s (g1 O x)))])
  | _ => none
set_option maxRecDepth 100000 in
theorem spec_run (O : FOps) (x : Nat) : inl ⟨Try.prog, O, orcN Try.prog O [] 4⟩ Try.f15 ⟨fun _ => none, fun _ => none⟩ 1 [.c (.flt .f32 x)] [] = some ⟨.tup [.c (.flt .f32 (g0 O x)), .c (.int .i64 (.s (g1 O x)))], [], 1, []⟩ := by kernel_rfl
set_option maxRecDepth 100000 in
theorem impl_run (O : FOps) (x : Nat) : inl ⟨Try.prog, O, orcN Try.prog O [] 4⟩ Try.f16 ⟨fun _ => none, fun _ => none⟩ 1 [.c (.flt .f32 x)] [] = some ⟨.tup [.c (.flt .f32 (g0 O x)), .c (.int .i64 (.s (g1 O x)))], [], 1, []⟩ := by kernel_rfl
set_option maxRecDepth 100000 in
theorem cSpec : CallOK Try.prog 15 (gS (G fops)) :=
  gS_of (inlN_of (l := []) trivial mixed 4 Try.func15 (by kernel_rfl) (fun _ => none)) fun args r E vals hG _ => by
    unfold G at hG
    split at hG <;> cases hG
    exact ⟨rfl, _, spec_run fops _, rfl, rfl, AllT.nil, fun _ _ h => h⟩
set_option maxRecDepth 100000 in
theorem cImpl : CallOK Try.prog 16 (gS (G fops)) :=
  gS_of (inlN_of (l := []) trivial mixed 4 Try.func16 (by kernel_rfl) (fun _ => none)) fun args r E vals hG _ => by
    unfold G at hG
    split at hG <;> cases hG
    exact ⟨rfl, _, impl_run fops _, rfl, rfl, AllT.nil, fun _ _ h => h⟩
noncomputable def L (O : FOps) : List (Nat × CS) := [(15, gS (G O)), (16, gS (G O)), (17, gS (sfG O))]
set_option maxRecDepth 100000 in
theorem law_run (O : FOps) (x : Nat) : inl ⟨Try.prog, O, orcN Try.prog O (L O) 1⟩ Try.f7 ⟨fun _ => none, fun _ => none⟩ 1 [.c (.flt .f32 x)] [] =
    some ⟨.c (.bool (.s (bif (bif !(sf O (O.conv .f32 .f64 (g0 O x)) (O.conv .f32 .f64 (g0 O x))) then true else !decide (g1 O x = g1 O x)) then false else true))), [], 1,
      [O.convOk .f32 .f64 (g0 O x), O.convOk .f32 .f64 (g0 O x)]⟩ := by kernel_rfl
theorem walk {H : Type} (enc : TypeId × Value → H) (W : World) (args : Array Value) {base : Nat} {ds : List (DataW H)} {p : List MemPlace} (hn : args.size = 1) (hval : ∀ (j : Nat) t v, #[23][j]? = some t → args[j]? = some v → Value.okWide Try.prog W .any base t v)
    (_ : DataW.TrodAll enc Try.prog W 0 (fun _ => true) true Try.f7.params.toList args.toList ds p) : Calls Try.prog 7 args W fun e w' => e = .returned (.bool true) ∧ Grown W w' := by
  obtain ⟨l⟩ := args
  match l, hn with
  | [v0], _ =>
    obtain ⟨x, _, hx⟩ := val_flt (k := .f32) Try.underlying23 (hval 0 23 v0 rfl rfl)
    exact law_of (inlN_of (l := L fops) ⟨cSpec, cImpl, cSf, trivial⟩ mixed 1 Try.func7 (by kernel_rfl) (fun _ => none))
      Try.func7 (by kernel_rfl) (by kernel_rfl) (law_run fops x) (AllT.cons (conv_ok _) (AllT.cons (conv_ok _) AllT.nil)) rfl (by simp [SB.val, sf_self]) (Nat.le_refl _) (show RelVs _ [.c (.flt .f32 x)] [v0] from ⟨hx, trivial⟩) W

theorem fn_eq {H : Type} {ds : List (DataW H)} (h : ds.length = 1) : (Rows.fnExactDenseAtSpec.fn H (ds ++ [])).results = [.lit (.bool true)] ∧ (Rows.fnExactDenseAtSpec.fn H (ds ++ [])).args = ds ∧ (Rows.fnExactDenseAtSpec.fn H (ds ++ [])).vars = [] := by
  match ds, h with
  | [_], _ => exact ⟨rfl, rfl, rfl⟩

/-! ### the row's step -/
set_option maxRecDepth 100000 in
theorem lifted (os : Os) (started : os.Started) (H : Type) (enc : TypeId × Value → H) :
    ReturnsInHanded {} Try.checked os 7 .any (Rows.fnExactDenseAtSpec.pre6 enc Try.prog Try.f7 Rows.fnExactDenseAtRow.domain false) (Rows.fnExactDenseAtSpec.post enc Try.prog Try.f7 false true false false) := by
  refine returnsInHanded_of_change (C := Try.checked) own started (by kernel_rfl) Try.func7
    (ChangeSpec.witness6 (enc := enc) (C := Try.checked) false ⟨#[], #[.float .f32 0], []⟩ 8 (by kernel_rfl) (by kernel_rfl) (by kernel_rfl) (by kernel_rfl)) ?_
  intro W base args ds gs before hval0 hW hcnd _
  have hval : ∀ (j : Nat) t v, Try.f7.params[j]? = some t → args[j]? = some v → Value.okWide Try.prog W .any base t v := hval0
  have hW' := hW
  obtain ⟨p, q, hA0, hV, rfl, hfz, hnd⟩ := hW
  have hA : DataW.TrodAll enc Try.prog W 0 (fun _ => true) true Try.f7.params.toList args.toList ds p := hA0
  obtain ⟨rfl, rfl⟩ := trodVars_none hV
  obtain ⟨hl1, hl2⟩ := trodAll_len hA
  have hlt := hW'.lt
  rw [Try.params7] at hl1 hl2 hval
  have hfn := fn_eq (H := H) (ds := ds) hl2
  refine (walk enc W args (by simpa using hl1) hval hA).mono fun e W' ⟨he, hg⟩ => ?_
  subst he
  exact ⟨_, rfl, post_of_same (pv := []) hW' (fun _ _ _ => by rw [hfn.1]; exact trodAll_cons_mk (shut_bool Try.underlying4 _) trodAll_mk0)
    (fun sp hsp => by rw [hfn.2.1]; exact args_stay kids full hg (by rw [Try.params7]; decide +kernel) hA (fun p hp => hlt p (by simpa using hp)) (fun p hp => hsp p (by simpa using hp)))
    (fun _ _ => by rw [hfn.2.2]; rfl) (by simp) (hg.frame _) hg.2.1 (ok_one (by kernel_rfl) rfl (okWide_bool_mk Try.underlying4 _))⟩

theorem over : Rows.fnExactDenseAtRow.holds Try.pinned (OpenSpec.ofChange Rows.fnExactDenseAtSpec) :=
  OpenClaim.holds_of_wide 7 Try.f7 rfl rfl rfl rfl rfl rfl rfl ⟨rfl, rfl, rfl, rfl, rfl⟩ rfl rfl rfl rfl rfl (by kernel_rfl) Try.func7 (by kernel_rfl)
    (of_decide_eq_true (by kernel_rfl)) (by unfold Func.isWrapper; first | (rw [if_pos (by decide +kernel)]; kernel_rfl) | (rw [if_neg (by decide +kernel)]; exact ⟨rfl, rfl⟩))
    (fun os started H enc _ => lifted os started H enc)

theorem proved : Rows.FnExactDenseAtSaid :=
  over
#print axioms proved
end Go.Proofs.Ytabiimgfpeldjaa.fnExactDenseAt
