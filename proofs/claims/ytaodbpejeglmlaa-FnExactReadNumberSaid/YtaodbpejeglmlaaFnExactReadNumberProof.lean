/- The Go function laws.FnExactReadNumber returns true, whatever its arguments. No condition. -/
import Derived.Test.YtaodbpejeglmlaaRows
import Derived.Test.YtaodbpejeglmlaaRdn
import Derived.WalkKit
import Derived.ProofKit
import Derived.OpenShut
namespace Go.Proofs.Ytaodbpejeglmlaa.fnExactReadNumber
open Go.ChangeShapes Go.WideShapes Go.ChangeAt Go.RowKit

theorem own : ownKnob Try.prog.godebug = none := by kernel_rfl
theorem kids : Kids Try.prog (· < Try.prog.types.size) := kids_rows (by kernel_rfl) (by kernel_rfl)
theorem full : ∀ t e, t < Try.prog.types.size → Try.prog.underlying t = some (.slice e) → 0 < Try.prog.cellsOf e := slices_full_of Try.prog (by kernel_rfl)

noncomputable def L3 (O : FOps) : List (Nat × CS) := [(10, gS Rdn.fG), (9, gS Rdn.fG), (11, gS (sfG O))]
noncomputable def X (O : FOps) (s : ByteArray) : Nat := O.conv .f32 .f64 (bif !Rdn.rB s then 0 else Rdn.rA s)
noncomputable def B (O : FOps) (s : ByteArray) : Bool := bif decide ((s.size : Int) > 1048576) then true else bif (bif !(sf O (X O s) (X O s)) then true else !decide ((bif !Rdn.rB s then 5 else 0 : Int) = (bif !Rdn.rB s then 5 else 0 : Int))) then false else true
set_option maxRecDepth 100000 in
theorem law_run (O : FOps) (s : ByteArray) : rE 1 (inl ⟨Try.prog, O, orcN Try.prog O (L3 O) 8⟩ Try.f4 ⟨fun _ => none, fun _ => none⟩ 1 [.c (.str s)] []) = some (.c (.bool (.s (B O s))), []) := by kernel_rfl
theorem B_true (s : ByteArray) : B fops s = true := by
  unfold B
  simp [sf_self]
theorem val_str {P : Program} {W : World} {base : Nat} {t : TypeId} {v : Value} (ht : P.underlying t = some .string) (h : Value.okWide P W .any base t v) : ∃ s, v = .string s := by
  simp only [Value.okWide, ht, Cell.okWide] at h
  cases v <;> simp_all [Cell.ok]
set_option maxRecDepth 100000 in
theorem walk {H : Type} (enc : TypeId × Value → H) (W : World) (args : Array Value) {base : Nat} {ds : List (DataW H)} {p : List MemPlace} (hn : args.size = 1) (hval : ∀ (j : Nat) t v, #[9][j]? = some t → args[j]? = some v → Value.okWide Try.prog W .any base t v)
    (_ : DataW.TrodAll enc Try.prog W 0 (fun _ => true) true Try.f4.params.toList args.toList ds p) : Calls Try.prog 4 args W fun e w' => e = .returned (.bool true) ∧ Grown W w' := by
  obtain ⟨l⟩ := args
  match l, hn with
  | [v0], _ =>
    obtain ⟨s, hs⟩ := val_str Try.underlying9 (hval 0 9 v0 rfl rfl)
    exact law_of2 (inlN_of (l := L3 fops) ⟨Rdn.cI, Rdn.cS, cSf, trivial⟩ mixed 8 Try.func4 (by kernel_rfl) (fun _ => none))
      Try.func4 (by kernel_rfl) (by kernel_rfl) (law_run fops s) AllT.nil (B_true s) (show RelVs (fun _ => none) [.c (.str s)] [v0] from ⟨hs, trivial⟩) W

theorem fn_eq {H : Type} {ds : List (DataW H)} (h : ds.length = 1) : (Rows.fnExactReadNumberSpec.fn H (ds ++ [])).results = [.lit (.bool true)] ∧ (Rows.fnExactReadNumberSpec.fn H (ds ++ [])).args = ds ∧ (Rows.fnExactReadNumberSpec.fn H (ds ++ [])).vars = [] := by
  match ds, h with
  | [_], _ => exact ⟨rfl, rfl, rfl⟩

/-! ### the row's step -/
set_option maxRecDepth 100000 in
theorem lifted (os : Os) (started : os.Started) (H : Type) (enc : TypeId × Value → H) :
    ReturnsInHanded {} Try.checked os 4 .any (Rows.fnExactReadNumberSpec.pre6 enc Try.prog Try.f4 Rows.fnExactReadNumberRow.domain false) (Rows.fnExactReadNumberSpec.post enc Try.prog Try.f4 false true false false) := by
  refine returnsInHanded_of_change (C := Try.checked) own started (by kernel_rfl) Try.func4
    (ChangeSpec.witness6 (enc := enc) (C := Try.checked) false ⟨#[], #[.string ⟨#[]⟩], []⟩ 8 (by kernel_rfl) (by kernel_rfl) (by kernel_rfl) (by kernel_rfl)) ?_
  intro W base args ds gs before hval0 hW hcnd _
  have hval : ∀ (j : Nat) t v, Try.f4.params[j]? = some t → args[j]? = some v → Value.okWide Try.prog W .any base t v := hval0
  have hW' := hW
  obtain ⟨p, q, hA0, hV, rfl, hfz, hnd⟩ := hW
  have hA : DataW.TrodAll enc Try.prog W 0 (fun _ => true) true Try.f4.params.toList args.toList ds p := hA0
  obtain ⟨rfl, rfl⟩ := trodVars_none hV
  obtain ⟨hl1, hl2⟩ := trodAll_len hA
  have hlt := hW'.lt
  rw [Try.params4] at hl1 hl2 hval
  have hfn := fn_eq (H := H) (ds := ds) hl2
  refine (walk enc W args (by simpa using hl1) hval hA).mono fun e W' ⟨he, hg⟩ => ?_
  subst he
  exact ⟨_, rfl, post_of_same (pv := []) hW' (fun _ _ _ => by rw [hfn.1]; exact trodAll_cons_mk (shut_bool Try.underlying4 _) trodAll_mk0)
    (fun sp hsp => by rw [hfn.2.1]; exact args_stay kids full hg (by rw [Try.params4]; decide +kernel) hA (fun p hp => hlt p (by simpa using hp)) (fun p hp => hsp p (by simpa using hp)))
    (fun _ _ => by rw [hfn.2.2]; rfl) (by simp) (hg.frame _) hg.2.1 (ok_one (by kernel_rfl) rfl (okWide_bool_mk Try.underlying4 _))⟩

theorem over : Rows.fnExactReadNumberRow.holds Try.pinned (OpenSpec.ofChange Rows.fnExactReadNumberSpec) :=
  OpenClaim.holds_of_wide 4 Try.f4 rfl rfl rfl rfl rfl rfl rfl ⟨rfl, rfl, rfl, rfl, rfl⟩ rfl rfl rfl rfl rfl (by kernel_rfl) Try.func4 (by kernel_rfl)
    (of_decide_eq_true (by kernel_rfl)) (by unfold Func.isWrapper; first | (rw [if_pos (by decide +kernel)]; kernel_rfl) | (rw [if_neg (by decide +kernel)]; exact ⟨rfl, rfl⟩))
    (fun os started H enc _ => lifted os started H enc)

theorem proved : Rows.FnExactReadNumberSaid :=
  over
#print axioms proved
end Go.Proofs.Ytaodbpejeglmlaa.fnExactReadNumber
