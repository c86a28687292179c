/- The Go function laws.FnExactSmokeInto returns true, whatever its arguments. No condition. -/
import Derived.Test.YtaoeigofmfpamaaRows
import Derived.WalkKit
import Derived.ProofKit
import Derived.OpenShut
import Derived.Test.YtaoeigofmfpamaaMiD
namespace Go.Proofs.Ytaoeigofmfpamaa.fnExactSmokeInto
open Go.ChangeShapes Go.WideShapes Go.ChangeAt Go.RowKit

theorem own : ownKnob Try.prog.godebug = none := by kernel_rfl
theorem kids : Kids Try.prog (· < Try.prog.types.size) := kids_rows (by kernel_rfl) (by kernel_rfl)
theorem full : ∀ t e, t < Try.prog.types.size → Try.prog.underlying t = some (.slice e) → 0 < Try.prog.cellsOf e := slices_full_of Try.prog (by kernel_rfl)

open Smk
theorem law_mem2 {P : Program} {f : FuncId} {S : CS} (h : CallOK P f S) {fn : Func} (hf : P.funcs[f]? = some fn) (hname : (fn.name == "runtime.NumGoroutine") = false) (hb : fn.body.isSome = true) {args : List SV} {vals : Array Value} {ob : List Bool} {b : SB} {E : EM} {rd : List (Nat × Seg)} {n : Nat} {w : World}
    (he : rE n (S n args rd) = some (.c (.bool b), ob)) (hob : AllT ob) (hbv : b.val = true) (h1 : 1 ≤ n) (hvals : RelVs E args vals.toList) (hE : ∀ i, n ≤ i → E i = none) (hro : ∀ i g, findS i rd = some g → g.rw = false) (hm : MemRel w (Tch E rd) E (fun i => findS i rd) w) :
    Calls P f vals w fun e w' => e = .returned (.bool true) ∧ Grown w w' := by
  obtain ⟨e, e1, e2, e3, e4⟩ := rE_some he
  subst e3
  exact law_mem h hf hname hb e1 hob e2 hbv h1 (Nat.le_of_ble_eq_true e4) hvals hE hro hm
set_option maxRecDepth 100000 in
theorem walk {H : Type} (enc : TypeId × Value → H) (W : World) (args : Array Value) {base : Nat} {ds : List (DataW H)} {p : List MemPlace} (hn : args.size = 4) (hval : ∀ (j : Nat) t v, #[40, 22, 22, 28][j]? = some t → args[j]? = some v → Value.okWide Try.prog W .any base t v)
    (hA : DataW.TrodAll enc Try.prog W 0 (fun _ => true) true Try.f6.params.toList args.toList ds p) : Calls Try.prog 6 args W fun e w' => e = .returned (.bool true) ∧ Grown W w' := by
  obtain ⟨l⟩ := args
  match l, hn with
  | [v0, v1, v2, v3], _ =>
    rw [Try.params6] at hA
    match ds, hA with
    | [_, _, _, _], hA =>
    obtain ⟨p0, q0, ⟨g0, t0⟩, hA, _⟩ := hA
    obtain ⟨p1, q1, ⟨g1, t1⟩, hA, _⟩ := hA
    obtain ⟨p2, q2, ⟨g2, t2⟩, hA, _⟩ := hA
    obtain ⟨p3, q3, ⟨g3, t3⟩, hA, _⟩ := hA
    obtain ⟨ba0, ln0, cp0, rfl⟩ := okWide_slice Try.underlying40 (hval 0 40 v0 rfl rfl)
    obtain ⟨n0, F0, G0, B0, hsl0⟩ := sl_arg (P := Try.prog) (t := 40) (e := 80) Try.underlying40 (d := 5) (ts := SlFlue.ts) (by kernel_rfl) (by kernel_rfl) (by decide) (by rfl) t0
    let S0 : SA := ⟨.slice ba0 ln0 cp0, n0, SlFlue.ts, F0, G0, B0⟩
    have hmax0 : (n0 : Int) ≤ 9223372036854775807 := by
      obtain ⟨_, cap, _, g1, g2, _⟩ := hsl0.len
      have : maxLen = 9223372036854775807 := by decide +kernel
      omega
    obtain ⟨ba1, ln1, cp1, rfl⟩ := okWide_slice Try.underlying22 (hval 1 22 v1 rfl rfl)
    obtain ⟨n1, F1, G1, B1, hsl1⟩ := sl_arg (P := Try.prog) (t := 22) (e := 28) Try.underlying22 (d := 5) (ts := SlFloat32.ts) (by kernel_rfl) (by kernel_rfl) (by decide) (by rfl) t1
    let S1 : SA := ⟨.slice ba1 ln1 cp1, n1, SlFloat32.ts, F1, G1, B1⟩
    have hmax1 : (n1 : Int) ≤ 9223372036854775807 := by
      obtain ⟨_, cap, _, g1, g2, _⟩ := hsl1.len
      have : maxLen = 9223372036854775807 := by decide +kernel
      omega
    obtain ⟨ba2, ln2, cp2, rfl⟩ := okWide_slice Try.underlying22 (hval 2 22 v2 rfl rfl)
    obtain ⟨n2, F2, G2, B2, hsl2⟩ := sl_arg (P := Try.prog) (t := 22) (e := 28) Try.underlying22 (d := 5) (ts := SlFloat32.ts) (by kernel_rfl) (by kernel_rfl) (by decide) (by rfl) t2
    let S2 : SA := ⟨.slice ba2 ln2 cp2, n2, SlFloat32.ts, F2, G2, B2⟩
    have hmax2 : (n2 : Int) ≤ 9223372036854775807 := by
      obtain ⟨_, cap, _, g1, g2, _⟩ := hsl2.len
      have : maxLen = 9223372036854775807 := by decide +kernel
      omega
    obtain ⟨dd, _, h3⟩ := val_flt (k := .f32) Try.underlying28 (hval 3 28 v3 rfl rfl)
    have hS : ∀ s ∈ [S0, S1, S2], s.ok W := by
      intro s hs
      simp only [List.mem_cons, List.not_mem_nil, or_false] at hs
      rcases hs with rfl | rfl | rfl
      · exact hsl0
      · exact hsl1
      · exact hsl2
    have hp : ∀ s ∈ [S0, S1, S2], 0 < s.ts.length := by
      intro s hs
      simp only [List.mem_cons, List.not_mem_nil, or_false] at hs
      rcases hs with rfl | rfl | rfl <;> first | exact (by decide : 0 < SlFlue.ts.length) | exact (by decide : 0 < SlFloat32.ts.length)
    have main : ∀ d, Stands W d → Calls Try.prog 6 #[.slice ba0 ln0 cp0, .slice ba1 ln1 cp1, .slice ba2 ln2 cp2, v3] W fun e w' => e = .returned (.bool true) ∧ Grown W w' := fun d hd => by
      have hm := mem_of (l := [S0, S1, S2]) (fun s hs => ⟨hS s hs, hp s hs⟩) hd
      have hrel : RelVs (emOf d [S0, S1, S2]) [slA 1 5 n0, slA 2 1 n1, slA 3 1 n2, .c (.flt .f32 dd)] [.slice ba0 ln0 cp0, .slice ba1 ln1 cp1, .slice ba2 ln2 cp2, v3] := ⟨SA.rel (l := [S0, S1, S2]) (i := 0) (s := S0) rfl hsl0, SA.rel (l := [S0, S1, S2]) (i := 1) (s := S1) rfl hsl1, SA.rel (l := [S0, S1, S2]) (i := 2) (s := S2) rfl hsl2, h3, trivial⟩
      have hE : ∀ i, 4 ≤ i → emOf d [S0, S1, S2] i = none := fun i hi => emOf_none (by simpa using hi)
      have hro : ∀ i g, findS i (rdOf [S0, S1, S2] 1) = some g → g.rw = false := fun i g hg => by
        obtain ⟨_, s, hs, rfl⟩ := findS_rdOf hg
        rfl
      obtain ⟨h, hl, ob, hr, ho⟩ := law_all (x := ⟨F0, G0, F1, G1, F2, G2, n0, n1, n2⟩) ⟨Int.natCast_nonneg n0, hmax0⟩ (Int.natCast_nonneg n1) (Int.natCast_nonneg n2) dd
      exact law_mem2 (inlN_of (l := L3 fops isNum h) (okL3 h) mixed 8 Try.func6 (by kernel_rfl) (hintS hl)) Try.func6 (by kernel_rfl) (by kernel_rfl) hr ho rfl (by decide) hrel hE hro hm
    rcases stands_or hS with ⟨d, hd⟩ | h0
    · exact main d hd
    · by_cases hd : ∃ d, Stands W d
      · obtain ⟨d, hd⟩ := hd
        exact main d hd
      · let E : EM := fun i => if i = 1 then some (0, 0, 0) else if i = 2 then some (0, 0, 0) else if i = 3 then some (0, 0, 0) else none
        have hrel : RelVs E [sl0 1 5, sl0 2 1, sl0 3 1, .c (.flt .f32 dd)] [.slice ba0 ln0 cp0, .slice ba1 ln1 cp1, .slice ba2 ln2 cp2, v3] := ⟨SA.rel0 (s := S0) hsl0 (h0 S0 (by simp)) hd (by decide) rfl, SA.rel0 (s := S1) hsl1 (h0 S1 (by simp)) hd (by decide) rfl, SA.rel0 (s := S2) hsl2 (h0 S2 (by simp)) hd (by decide) rfl, h3, trivial⟩
        exact law_mem2 (E := E) (rd := []) (inlN_of (l := L3 fops isNum hE1) (okL3 hE1) mixed 8 Try.func6 (by kernel_rfl) (hintS _)) Try.func6 (by kernel_rfl) (by kernel_rfl) (run0 fops isNum dd) AllT.nil rfl (by decide) hrel (fun i hi => by
            show (if i = 1 then _ else if i = 2 then _ else if i = 3 then _ else none) = _
            rw [if_neg (by omega), if_neg (by omega), if_neg (by omega)]) (fun i g hg => by cases hg)
          (mem_nil _ _)

theorem fn_eq {H : Type} {ds : List (DataW H)} (h : ds.length = 4) : (Rows.fnExactSmokeIntoSpec.fn H (ds ++ [])).results = [.lit (.bool true)] ∧ (Rows.fnExactSmokeIntoSpec.fn H (ds ++ [])).args = ds ∧ (Rows.fnExactSmokeIntoSpec.fn H (ds ++ [])).vars = [] := by
  match ds, h with
  | [_, _, _, _], _ => exact ⟨rfl, rfl, rfl⟩

/-! ### the row's step -/
set_option maxRecDepth 100000 in
theorem lifted (os : Os) (started : os.Started) (H : Type) (enc : TypeId × Value → H) :
    ReturnsInHanded {} Try.checked os 6 .any (Rows.fnExactSmokeIntoSpec.pre6 enc Try.prog Try.f6 Rows.fnExactSmokeIntoRow.domain false) (Rows.fnExactSmokeIntoSpec.post enc Try.prog Try.f6 false true false false) := by
  refine returnsInHanded_of_change (C := Try.checked) own started (by kernel_rfl) Try.func6
    (ChangeSpec.witness6 (enc := enc) (C := Try.checked) false ⟨#[], #[.slice none 0 0,.slice none 0 0,.slice none 0 0,.float .f32 0], []⟩ 8 (by kernel_rfl) (by kernel_rfl) (by kernel_rfl) (by kernel_rfl)) ?_
  intro W base args ds gs before hval0 hW hcnd _
  have hval : ∀ (j : Nat) t v, Try.f6.params[j]? = some t → args[j]? = some v → Value.okWide Try.prog W .any base t v := hval0
  have hW' := hW
  obtain ⟨p, q, hA0, hV, rfl, hfz, hnd⟩ := hW
  have hA : DataW.TrodAll enc Try.prog W 0 (fun _ => true) true Try.f6.params.toList args.toList ds p := hA0
  obtain ⟨rfl, rfl⟩ := trodVars_none hV
  obtain ⟨hl1, hl2⟩ := trodAll_len hA
  have hlt := hW'.lt
  rw [Try.params6] at hl1 hl2 hval
  have hfn := fn_eq (H := H) (ds := ds) hl2
  refine (walk enc W args (by simpa using hl1) hval hA).mono fun e W' ⟨he, hg⟩ => ?_
  subst he
  exact ⟨_, rfl, post_of_same (pv := []) hW' (fun _ _ _ => by rw [hfn.1]; exact trodAll_cons_mk (shut_bool Try.underlying4 _) trodAll_mk0)
    (fun sp hsp => by rw [hfn.2.1]; exact args_stay kids full hg (by rw [Try.params6]; decide +kernel) hA (fun p hp => hlt p (by simpa using hp)) (fun p hp => hsp p (by simpa using hp)))
    (fun _ _ => by rw [hfn.2.2]; rfl) (by simp) (hg.frame _) hg.2.1 (ok_one (by kernel_rfl) rfl (okWide_bool_mk Try.underlying4 _))⟩

theorem over : Rows.fnExactSmokeIntoRow.holds Try.pinned (OpenSpec.ofChange Rows.fnExactSmokeIntoSpec) :=
  OpenClaim.holds_of_wide 6 Try.f6 rfl rfl rfl rfl rfl rfl rfl ⟨rfl, rfl, rfl, rfl, rfl⟩ rfl rfl rfl rfl rfl (by kernel_rfl) Try.func6 (by kernel_rfl)
    (of_decide_eq_true (by kernel_rfl)) (by unfold Func.isWrapper; first | (rw [if_pos (by decide +kernel)]; kernel_rfl) | (rw [if_neg (by decide +kernel)]; exact ⟨rfl, rfl⟩))
    (fun os started H enc _ => lifted os started H enc)

theorem proved : Rows.FnExactSmokeIntoSaid :=
  over
#print axioms proved
end Go.Proofs.Ytaoeigofmfpamaa.fnExactSmokeInto
