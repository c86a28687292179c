/- The Go function laws.FnExactSplitWood returns true, whatever its arguments. No condition. -/
import Derived.Test.YtmikpabmlclpiaaRows
import Derived.Test.YtmikpabmlclpiaaLog
import Derived.WalkKit
import Derived.ProofKit
import Derived.OpenShut
namespace Go.Proofs.Ytmikpabmlclpiaa.fnExactSplitWood
open Go.ChangeShapes Go.WideShapes Go.ChangeAt Go.RowKit

theorem own : ownKnob Try.prog.godebug = none := by kernel_rfl
theorem kids : Kids Try.prog (· < Try.prog.types.size) := kids_rows (by kernel_rfl) (by kernel_rfl)
theorem full : ∀ t e, t < Try.prog.types.size → Try.prog.underlying t = some (.slice e) → 0 < Try.prog.cellsOf e := slices_full_of Try.prog (by kernel_rfl)

def pm (i k j : Nat) : Nat := bif Nat.beq (j % 6) i then j / 6 * 6 + k else bif Nat.beq (j % 6) k then j / 6 * 6 + i else j
noncomputable def sw1 (O : FOps) (i k : Nat) (f : Nat → Nat) : Nat → Nat := fun j => bif O.cmp .gtr .f32 (f i) (f k) then f (pm i k j) else f j
noncomputable def swaps (O : FOps) (f : Nat → Nat) : Nat → Nat := sw1 O 4 1 (sw1 O 2 3 (sw1 O 0 5 f))
def hv (g : Nat → Nat) (w : Nat → Nat) : Nat → Nat := fun i => [g (w 0), g (w 1), g (w 2), g (w 3), g (w 4), g (w 5), w 6, w 7, w 8, w 9, w 10, w 11, g (w 12), g (w 13), g (w 14), g (w 15), g (w 16), g (w 17)].getD i 0
noncomputable def out (O : FOps) (A : Bool) (g : Nat → Nat) (w : Nat → Nat) : SV :=
  .tup [asE (wd (fun i => bif A then 0 else swaps O (hv g w) i)), .c (.int .i64 (.s (bif A then 1 else 0)))]
noncomputable def outS (O : FOps) (w : Nat → Nat) : SV := out O (!six (badS O w)) (fun x => O.bin .mul .f32 1056964608 x) w
noncomputable def outI (O : FOps) (w : Nat → Nat) : SV := out O (!six (badI O w)) (fun x => O.bin .mul .f32 x 1056964608) w
noncomputable def outG (w : Nat → Nat) : SV := out fops (!valid w) (fun x => fops.bin .mul .f32 1056964608 x) w
theorem outS_eq (w : Nat → Nat) : outS fops w = outG w := by
  unfold outS outG
  rw [validS_eq]
theorem outI_eq (w : Nat → Nat) : outI fops w = outG w := by
  unfold outI outG
  rw [validI_eq, show (fun x => fops.bin .mul .f32 x 1056964608) = (fun x => fops.bin .mul .f32 1056964608 x) from funext fun x => mul_comm_f .f32 _ _]
noncomputable def G : List SV → Option SV
  | [v] => match wdOf v with
    | some w => some (outG w)
    | none => none
  | _ => none
noncomputable def L : List (Nat × CS) := [(79, amtS), (78, amtS)]
set_option maxRecDepth 100000 in
theorem okL : AllOK Try.prog L := ⟨cAmtI, cAmtL, trivial⟩
set_option maxRecDepth 100000 in
theorem spec_run (O : FOps) (w : Nat → Nat) : inl ⟨Try.prog, O, orcN Try.prog O L 8⟩ Try.f28 ⟨fun _ => none, fun _ => none⟩ 1 [wd w] [] = some ⟨outS O w, [], 3, []⟩ := by kernel_rfl
set_option maxRecDepth 100000 in
theorem impl_run (O : FOps) (w : Nat → Nat) : inl ⟨Try.prog, O, orcN Try.prog O L 8⟩ Try.f29 ⟨fun _ => none, fun _ => none⟩ 1 [wd w] [] = some ⟨outI O w, [], 4, []⟩ := by kernel_rfl
set_option maxRecDepth 100000 in
theorem cSpec : CallOK Try.prog 28 (gS G) :=
  gS_of (inlN_of (l := L) okL mixed 8 Try.func28 (by kernel_rfl) (fun _ => none)) fun args r E vals hG _ => by
    unfold G at hG
    split at hG <;> try (cases hG; done)
    split at hG <;> cases hG
    rename_i w hw
    rw [wdOf_ok hw]
    exact ⟨rfl, _, spec_run fops w, rfl, rfl, AllT.nil, fun _ _ h => by rw [outS_eq] at h; exact h⟩
set_option maxRecDepth 100000 in
theorem cImpl : CallOK Try.prog 29 (gS G) :=
  gS_of (inlN_of (l := L) okL mixed 8 Try.func29 (by kernel_rfl) (fun _ => none)) fun args r E vals hG _ => by
    unfold G at hG
    split at hG <;> try (cases hG; done)
    split at hG <;> cases hG
    rename_i w hw
    rw [wdOf_ok hw]
    exact ⟨rfl, _, impl_run fops w, rfl, rfl, AllT.nil, fun _ _ h => by rw [outI_eq] at h; exact h⟩
noncomputable def GG (F1 : (Nat → Nat) → Nat → Nat) (F2 : (Nat → Nat) → Int) : List SV → Option SV
  | [v] => match wdOf v with
    | some w => some (.tup [asE (wd (F1 w)), .c (.int .i64 (.s (F2 w)))])
    | none => none
  | _ => none
noncomputable def F1 (w : Nat → Nat) : Nat → Nat := fun i => bif !valid w then 0 else swaps fops (hv (fun x => fops.bin .mul .f32 1056964608 x) w) i
noncomputable def F2 (w : Nat → Nat) : Int := bif !valid w then 1 else 0
theorem G_eq : G = GG F1 F2 := rfl
noncomputable def L2 (O : FOps) (F1 : (Nat → Nat) → Nat → Nat) (F2 : (Nat → Nat) → Int) : List (Nat × CS) := [(29, gS (GG F1 F2)), (28, gS (GG F1 F2)), (22, gS (eqG O))]
set_option maxRecDepth 100000 in
theorem okL2 : AllOK Try.prog (L2 fops F1 F2) := ⟨G_eq ▸ cImpl, G_eq ▸ cSpec, cEq, trivial⟩
set_option maxRecDepth 100000 in
theorem law_run (O : FOps) (F1 : (Nat → Nat) → Nat → Nat) (F2 : (Nat → Nat) → Int) (w : Nat → Nat) : inl ⟨Try.prog, O, orcN Try.prog O (L2 O F1 F2) 3⟩ Try.f7 ⟨fun _ => none, fun _ => none⟩ 1 [wd w] [] =
    some ⟨.c (.bool (.s (bif (bif !eqW O (back (F1 (back w))) (back (F1 (back w))) then true else !decide (F2 (back w) = F2 (back w))) then false else true))), [], 28, []⟩ := by kernel_rfl
set_option maxRecDepth 100000 in
theorem walk {H : Type} (enc : TypeId × Value → H) (W : World) (args : Array Value) {base : Nat} {ds : List (DataW H)} {p : List MemPlace} (hn : args.size = 1) (hval : ∀ (j : Nat) t v, #[25][j]? = some t → args[j]? = some v → Value.okWide Try.prog W .any base t v)
    (_ : DataW.TrodAll enc Try.prog W 0 (fun _ => true) true Try.f7.params.toList args.toList ds p) : Calls Try.prog 7 args W fun e w' => e = .returned (.bool true) ∧ Grown W w' := by
  obtain ⟨l⟩ := args
  match l, hn with
  | [v0], _ =>
    obtain ⟨w, _, hx⟩ := wd_rel (E := fun _ => none) (hval 0 25 v0 rfl rfl)
    exact law_of (inlN_of (l := L2 fops F1 F2) okL2 mixed 3 Try.func7 (by kernel_rfl) (fun _ => none))
      Try.func7 (by kernel_rfl) (by kernel_rfl) (law_run fops F1 F2 w) AllT.nil rfl (by rw [eqW_self]; simp [SB.val]) (Nat.le_of_ble_eq_true rfl) (show RelVs _ [wd w] [v0] from ⟨hx, trivial⟩) W

theorem fn_eq {H : Type} {ds : List (DataW H)} (h : ds.length = 1) : (Rows.fnExactSplitWoodSpec.fn H (ds ++ [])).results = [.lit (.bool true)] ∧ (Rows.fnExactSplitWoodSpec.fn H (ds ++ [])).args = ds ∧ (Rows.fnExactSplitWoodSpec.fn H (ds ++ [])).vars = [] := by
  match ds, h with
  | [_], _ => exact ⟨rfl, rfl, rfl⟩

/-! ### the row's step -/
set_option maxRecDepth 100000 in
theorem lifted (os : Os) (started : os.Started) (H : Type) (enc : TypeId × Value → H) :
    ReturnsInHanded {} Try.checked os 7 .any (Rows.fnExactSplitWoodSpec.pre6 enc Try.prog Try.f7 Rows.fnExactSplitWoodRow.domain false) (Rows.fnExactSplitWoodSpec.post enc Try.prog Try.f7 false true false false) := by
  refine returnsInHanded_of_change (C := Try.checked) own started (by kernel_rfl) Try.func7
    (ChangeSpec.witness6 (enc := enc) (C := Try.checked) false ⟨#[], #[.agg (Array.replicate 18 (.float .f32 0))], []⟩ 8 (by kernel_rfl) (by kernel_rfl) (by kernel_rfl) (by kernel_rfl)) ?_
  intro W base args ds gs before hval0 hW hcnd _
  have hval : ∀ (j : Nat) t v, Try.f7.params[j]? = some t → args[j]? = some v → Value.okWide Try.prog W .any base t v := hval0
  have hW' := hW
  obtain ⟨p, q, hA0, hV, rfl, hfz, hnd⟩ := hW
  have hA : DataW.TrodAll enc Try.prog W 0 (fun _ => true) true Try.f7.params.toList args.toList ds p := hA0
  obtain ⟨rfl, rfl⟩ := trodVars_none hV
  obtain ⟨hl1, hl2⟩ := trodAll_len hA
  have hlt := hW'.lt
  rw [Try.params7] at hl1 hl2 hval
  have hfn := fn_eq (H := H) (ds := ds) hl2
  refine (walk enc W args (by simpa using hl1) hval hA).mono fun e W' ⟨he, hg⟩ => ?_
  subst he
  exact ⟨_, rfl, post_of_same (pv := []) hW' (fun _ _ _ => by rw [hfn.1]; exact trodAll_cons_mk (shut_bool Try.underlying4 _) trodAll_mk0)
    (fun sp hsp => by rw [hfn.2.1]; exact args_stay kids full hg (by rw [Try.params7]; decide +kernel) hA (fun p hp => hlt p (by simpa using hp)) (fun p hp => hsp p (by simpa using hp)))
    (fun _ _ => by rw [hfn.2.2]; rfl) (by simp) (hg.frame _) hg.2.1 (ok_one (by kernel_rfl) rfl (okWide_bool_mk Try.underlying4 _))⟩

theorem over : Rows.fnExactSplitWoodRow.holds Try.pinned (OpenSpec.ofChange Rows.fnExactSplitWoodSpec) :=
  OpenClaim.holds_of_wide 7 Try.f7 rfl rfl rfl rfl rfl rfl rfl ⟨rfl, rfl, rfl, rfl, rfl⟩ rfl rfl rfl rfl rfl (by kernel_rfl) Try.func7 (by kernel_rfl)
    (of_decide_eq_true (by kernel_rfl)) (by unfold Func.isWrapper; first | (rw [if_pos (by decide +kernel)]; kernel_rfl) | (rw [if_neg (by decide +kernel)]; exact ⟨rfl, rfl⟩))
    (fun os started H enc _ => lifted os started H enc)

theorem proved : Rows.FnExactSplitWoodSaid :=
  over
#print axioms proved
end Go.Proofs.Ytmikpabmlclpiaa.fnExactSplitWood
