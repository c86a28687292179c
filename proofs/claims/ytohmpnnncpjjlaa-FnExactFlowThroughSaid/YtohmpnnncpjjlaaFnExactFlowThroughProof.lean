/- The Go function laws.FnExactFlowThrough returns true, whatever its arguments. No condition. -/
import Derived.Test.YtohmpnnncpjjlaaRows
import Derived.Test.YtohmpnnncpjjlaaHp
import Derived.Test.YtohmpnnncpjjlaaFlu
import Derived.Test.YtohmpnnncpjjlaaThr
import Derived.WalkKit
import Derived.ProofKit
import Derived.OpenShut
namespace Go.Proofs.Ytohmpnnncpjjlaa.fnExactFlowThrough
open Go.ChangeShapes Go.WideShapes Go.ChangeAt Go.RowKit

theorem own : ownKnob Try.prog.godebug = none := by kernel_rfl
theorem kids : Kids Try.prog (· < Try.prog.types.size) := kids_rows (by kernel_rfl) (by kernel_rfl)
theorem full : ∀ t e, t < Try.prog.types.size → Try.prog.underlying t = some (.slice e) → 0 < Try.prog.cellsOf e := slices_full_of Try.prog (by kernel_rfl)

noncomputable def L (O : FOps) (nm : Nat → Bool) : List (Nat × CS) := [(15, amtS), (47, amtS), (98, absS), (48, gQ [.s 1] (finG nm)), (82, gS (fin1G nm)), (59, gS (flueG O)), (56, gQ [.p 5] (flueG O)), (71, gS (thrG O)), (69, gQ [.p 5, .v, .v] (thrG O))]
set_option maxRecDepth 100000 in
theorem okL : AllOK Try.prog (L fops isNum) := ⟨cAmtI, cAmtL, cAbs, cFin, cFinL, cFlueI, cFlueL, cThrI, cThrS, trivial⟩
noncomputable def RI (O : FOps) (nm : Nat → Bool) (f0 : Nat) (f1 : Nat) (f2 : Nat) (f3 : Nat) (f4 : Int) (x : Nat) (y : Nat) : Option (SV × List Bool) := rE 1 (inl ⟨Try.prog, O, orcN Try.prog O (L O nm) 8⟩ Try.f34 ⟨fun _ => none, fun _ => none⟩ 1 [.a [.flt .f32 f0, .flt .f32 f1, .flt .f32 f2, .flt .f32 f3, .int .i64 (.s f4)], .c (.flt .f32 x), .c (.flt .f32 y)] [])
noncomputable def RS (O : FOps) (nm : Nat → Bool) (f0 : Nat) (f1 : Nat) (f2 : Nat) (f3 : Nat) (f4 : Int) (x : Nat) (y : Nat) : Option (SV × List Bool) := rE 1 (inl ⟨Try.prog, O, orcN Try.prog O (L O nm) 8⟩ Try.f33 ⟨fun _ => none, fun _ => none⟩ 1 [.a [.flt .f32 f0, .flt .f32 f1, .flt .f32 f2, .flt .f32 f3, .int .i64 (.s f4)], .c (.flt .f32 x), .c (.flt .f32 y)] [])
set_option maxRecDepth 100000 in
theorem RI_plain (O : FOps) (nm : Nat → Bool) (f0 : Nat) (f1 : Nat) (f2 : Nat) (f3 : Nat) (f4 : Int) (x : Nat) (y : Nat) : plainR (RI O nm f0 f1 f2 f3 f4 x y) = true := by kernel_rfl
def out (F X Y N : Bool) (z : Nat) : SV := .tup [.c (.flt .f32 (bif !F then 0 else bif (bif !X then true else bif Y then false else true) then 0 else bif !N then 0 else z)), .c (.int .i64 (.s (bif !F then 1 else bif (bif !X then true else bif Y then false else true) then 2 else bif !N then 4 else 0)))]
def xin (O : FOps) (x : Nat) : Bool := bif O.cmp .geq .f32 x 3262119936 then O.cmp .leq .f32 x 1114636288 else false
def yin (O : FOps) (y : Nat) : Bool := bif O.cmp .geq .f32 y 3296329728 then O.cmp .leq .f32 y 1148846080 else false
set_option maxRecDepth 100000 in
theorem RI_out (O : FOps) (nm : Nat → Bool) (f0 f1 f2 f3 : Nat) (f4 : Int) (x y : Nat) : RI O nm f0 f1 f2 f3 f4 x y = some (out (flueB O f0 f1 f2 f3) (xin O x) (yin O y) (allB nm [thr O f0 f1 f2 f3 x y]) (thr O f0 f1 f2 f3 x y), []) := by kernel_rfl
set_option maxRecDepth 100000 in
theorem RS_out (O : FOps) (nm : Nat → Bool) (f0 f1 f2 f3 : Nat) (f4 : Int) (x y : Nat) : RS O nm f0 f1 f2 f3 f4 x y = some (out (flueB O f0 f1 f2 f3) (xin O x) (yin O y) (nm (thr O f0 f1 f2 f3 x y)) (thr O f0 f1 f2 f3 x y), []) := by kernel_rfl
theorem all_one (nm : Nat → Bool) (z : Nat) : allB nm [z] = nm z := by
  unfold allB
  cases h : nm z <;> simp [h, allB]
set_option maxRecDepth 100000 in
theorem RS_eq (f0 : Nat) (f1 : Nat) (f2 : Nat) (f3 : Nat) (f4 : Int) (x : Nat) (y : Nat) : RS fops isNum f0 f1 f2 f3 f4 x y = RI fops isNum f0 f1 f2 f3 f4 x y := by rw [RI_out, RS_out, all_one]
noncomputable def Rr (O : FOps) (nm : Nat → Bool) : List SV → Option (SV × List Bool)
  | [.a [.flt .f32 f0, .flt .f32 f1, .flt .f32 f2, .flt .f32 f3, .int .i64 (.s f4)], .c (.flt .f32 x), .c (.flt .f32 y)] => RI O nm f0 f1 f2 f3 f4 x y
  | _ => none
set_option maxRecDepth 100000 in
theorem cImpl : CallOK Try.prog 34 (gS (runG (Rr fops isNum))) :=
  runG_ok (inlN_of (l := L fops isNum) okL mixed 8 Try.func34 (by kernel_rfl) (fun _ => none)) fun args x hx => by
    unfold Rr at hx
    split at hx
    · obtain ⟨v, h1, h2⟩ := plainR_some (RI_plain fops isNum _ _ _ _ _ _ _)
      have h3 := h1.symm.trans hx
      cases h3
      exact ⟨rfl, hx, h2, rfl⟩
    · cases hx
set_option maxRecDepth 100000 in
theorem cSpec : CallOK Try.prog 33 (gS (runG (Rr fops isNum))) :=
  runG_ok (inlN_of (l := L fops isNum) okL mixed 8 Try.func33 (by kernel_rfl) (fun _ => none)) fun args x hx => by
    unfold Rr at hx
    split at hx
    · obtain ⟨v, h1, h2⟩ := plainR_some (RI_plain fops isNum _ _ _ _ _ _ _)
      have h3 := h1.symm.trans hx
      cases h3
      exact ⟨rfl, (RS_eq ..).trans hx, h2, rfl⟩
    · cases hx
noncomputable def L3 (O : FOps) (nm : Nat → Bool) : List (Nat × CS) := [(34, gS (runG (Rr O nm))), (33, gS (runG (Rr O nm))), (22, gS (sfG O))]
noncomputable def B (O : FOps) (nm : Nat → Bool) (f0 : Nat) (f1 : Nat) (f2 : Nat) (f3 : Nat) (f4 : Int) (x : Nat) (y : Nat) : Bool := bif (bif !(sf O (O.conv .f32 .f64 (fltAt (RI O nm f0 f1 f2 f3 f4 x y) 0)) (O.conv .f32 .f64 (fltAt (RI O nm f0 f1 f2 f3 f4 x y) 0))) then true else !decide (intAt (RI O nm f0 f1 f2 f3 f4 x y) 1 = intAt (RI O nm f0 f1 f2 f3 f4 x y) 1)) then false else true
set_option maxRecDepth 100000 in
theorem law_run (O : FOps) (nm : Nat → Bool) (f0 : Nat) (f1 : Nat) (f2 : Nat) (f3 : Nat) (f4 : Int) (x : Nat) (y : Nat) : rE 1 (inl ⟨Try.prog, O, orcN Try.prog O (L3 O nm) 3⟩ Try.f10 ⟨fun _ => none, fun _ => none⟩ 1 [.a [.flt .f32 f0, .flt .f32 f1, .flt .f32 f2, .flt .f32 f3, .int .i64 (.s f4)], .c (.flt .f32 x), .c (.flt .f32 y)] []) = some (.c (.bool (.s (B O nm f0 f1 f2 f3 f4 x y))), []) := by kernel_rfl
theorem B_true (f0 : Nat) (f1 : Nat) (f2 : Nat) (f3 : Nat) (f4 : Int) (x : Nat) (y : Nat) : B fops isNum f0 f1 f2 f3 f4 x y = true := by
  unfold B
  simp [sf_self]
set_option maxRecDepth 100000 in
theorem walk {H : Type} (enc : TypeId × Value → H) (W : World) (args : Array Value) {base : Nat} {ds : List (DataW H)} {p : List MemPlace} (hn : args.size = 3) (hval : ∀ (j : Nat) t v, #[33, 22, 22][j]? = some t → args[j]? = some v → Value.okWide Try.prog W .any base t v)
    (hA : DataW.TrodAll enc Try.prog W 0 (fun _ => true) true Try.f10.params.toList args.toList ds p) : Calls Try.prog 10 args W fun e w' => e = .returned (.bool true) ∧ Grown W w' := by
  obtain ⟨l⟩ := args
  match l, hn with
  | [v0, v1, v2], _ =>
    rw [Try.params10] at hA
    match ds, hA with
    | [_, _, _], hA =>
    obtain ⟨p0, q0, ⟨n0, t0⟩, hA, _⟩ := hA
    obtain ⟨p1, q1, ⟨n1, t1⟩, hA, _⟩ := hA
    obtain ⟨p2, q2, ⟨n2, t2⟩, hA, _⟩ := hA
    obtain ⟨cs0, e0, z0⟩ := okWide_struct Try.underlying33 (hval 0 33 v0 rfl rfl)
    subst e0
    obtain ⟨F0, G0, B0, _, h0⟩ := st_arg (E := fun _ => none) (P := Try.prog) (d := 6) (ts := [.flt .f32, .flt .f32, .flt .f32, .flt .f32, .int .i64]) (by kernel_rfl) (z0.trans (by kernel_rfl)) t0
    obtain ⟨x, _, h1⟩ := val_flt (k := .f32) Try.underlying22 (hval 1 22 v1 rfl rfl)
    obtain ⟨y, _, h2⟩ := val_flt (k := .f32) Try.underlying22 (hval 2 22 v2 rfl rfl)
    exact law_of2 (inlN_of (l := L3 fops isNum) ⟨cImpl, cSpec, cSf, trivial⟩ mixed 3 Try.func10 (by kernel_rfl) (fun _ => none))
      Try.func10 (by kernel_rfl) (by kernel_rfl) (law_run fops isNum (F0 0) (F0 1) (F0 2) (F0 3) (G0 4) x y) AllT.nil (B_true (F0 0) (F0 1) (F0 2) (F0 3) (G0 4) x y) (show RelVs (fun _ => none) [.a [.flt .f32 (F0 0), .flt .f32 (F0 1), .flt .f32 (F0 2), .flt .f32 (F0 3), .int .i64 (.s (G0 4))], .c (.flt .f32 x), .c (.flt .f32 y)] [.agg cs0, v1, v2] from ⟨⟨cs0, rfl, h0⟩, h1, h2, trivial⟩) W

theorem fn_eq {H : Type} {ds : List (DataW H)} (h : ds.length = 3) : (Rows.fnExactFlowThroughSpec.fn H (ds ++ [])).results = [.lit (.bool true)] ∧ (Rows.fnExactFlowThroughSpec.fn H (ds ++ [])).args = ds ∧ (Rows.fnExactFlowThroughSpec.fn H (ds ++ [])).vars = [] := by
  match ds, h with
  | [_, _, _], _ => exact ⟨rfl, rfl, rfl⟩

/-! ### the row's step -/
set_option maxRecDepth 100000 in
theorem lifted (os : Os) (started : os.Started) (H : Type) (enc : TypeId × Value → H) :
    ReturnsInHanded {} Try.checked os 10 .any (Rows.fnExactFlowThroughSpec.pre6 enc Try.prog Try.f10 Rows.fnExactFlowThroughRow.domain false) (Rows.fnExactFlowThroughSpec.post enc Try.prog Try.f10 false true false false) := by
  refine returnsInHanded_of_change (C := Try.checked) own started (by kernel_rfl) Try.func10
    (ChangeSpec.witness6 (enc := enc) (C := Try.checked) false ⟨#[], #[.agg #[.float .f32 0, .float .f32 0, .float .f32 0, .float .f32 0, .int .i64 0],.float .f32 0,.float .f32 0], []⟩ 8 (by kernel_rfl) (by kernel_rfl) (by kernel_rfl) (by kernel_rfl)) ?_
  intro W base args ds gs before hval0 hW hcnd _
  have hval : ∀ (j : Nat) t v, Try.f10.params[j]? = some t → args[j]? = some v → Value.okWide Try.prog W .any base t v := hval0
  have hW' := hW
  obtain ⟨p, q, hA0, hV, rfl, hfz, hnd⟩ := hW
  have hA : DataW.TrodAll enc Try.prog W 0 (fun _ => true) true Try.f10.params.toList args.toList ds p := hA0
  obtain ⟨rfl, rfl⟩ := trodVars_none hV
  obtain ⟨hl1, hl2⟩ := trodAll_len hA
  have hlt := hW'.lt
  rw [Try.params10] at hl1 hl2 hval
  have hfn := fn_eq (H := H) (ds := ds) hl2
  refine (walk enc W args (by simpa using hl1) hval hA).mono fun e W' ⟨he, hg⟩ => ?_
  subst he
  exact ⟨_, rfl, post_of_same (pv := []) hW' (fun _ _ _ => by rw [hfn.1]; exact trodAll_cons_mk (shut_bool Try.underlying4 _) trodAll_mk0)
    (fun sp hsp => by rw [hfn.2.1]; exact args_stay kids full hg (by rw [Try.params10]; decide +kernel) hA (fun p hp => hlt p (by simpa using hp)) (fun p hp => hsp p (by simpa using hp)))
    (fun _ _ => by rw [hfn.2.2]; rfl) (by simp) (hg.frame _) hg.2.1 (ok_one (by kernel_rfl) rfl (okWide_bool_mk Try.underlying4 _))⟩

theorem over : Rows.fnExactFlowThroughRow.holds Try.pinned (OpenSpec.ofChange Rows.fnExactFlowThroughSpec) :=
  OpenClaim.holds_of_wide 10 Try.f10 rfl rfl rfl rfl rfl rfl rfl ⟨rfl, rfl, rfl, rfl, rfl⟩ rfl rfl rfl rfl rfl (by kernel_rfl) Try.func10 (by kernel_rfl)
    (of_decide_eq_true (by kernel_rfl)) (by unfold Func.isWrapper; first | (rw [if_pos (by decide +kernel)]; kernel_rfl) | (rw [if_neg (by decide +kernel)]; exact ⟨rfl, rfl⟩))
    (fun os started H enc _ => lifted os started H enc)

theorem proved : Rows.FnExactFlowThroughSaid :=
  over
#print axioms proved
end Go.Proofs.Ytohmpnnncpjjlaa.fnExactFlowThrough
