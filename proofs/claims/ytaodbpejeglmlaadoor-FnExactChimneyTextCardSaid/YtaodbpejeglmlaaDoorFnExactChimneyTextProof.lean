/- The Go function laws.FnExactChimneyText returns true, whatever its arguments. No condition. -/
import Derived.Test.YtaodbpejeglmlaaDoorRows
import Derived.Test.YtaodbpejeglmlaaDoorCards
import Derived.Test.YtaodbpejeglmlaaDoorTie
import Derived.Test.YtaodbpejeglmlaaDoorCtx
import Derived.WalkKit
import Derived.ProofKit
import Derived.OpenShut
import Derived.LaidMore
import Derived.Lay
import Derived.SevenTiedAt
import Derived.Stop.Joined
namespace Go.Proofs.YtaodbpejeglmlaaDoor.fnExactChimneyText
open Go.ChangeShapes Go.WideShapes Go.ChangeAt Go.RowKit

theorem own : ownKnob Tryd.prog.godebug = none := by kernel_rfl
theorem kids : Kids Tryd.prog (· < Tryd.prog.types.size) := kids_rows (by kernel_rfl) (by kernel_rfl)
theorem full : ∀ t e, t < Tryd.prog.types.size → Tryd.prog.underlying t = some (.slice e) → 0 < Tryd.prog.cellsOf e := slices_full_of Tryd.prog (by kernel_rfl)

open SlFlue Chy Chl Ctx
theorem law_mem2 {P : Program} {f : FuncId} {S : CS} (h : CallOK P f S) {fn : Func} (hf : P.funcs[f]? = some fn) (hname : (fn.name == "runtime.NumGoroutine") = false) (hb : fn.body.isSome = true) {args : List SV} {vals : Array Value} {ob : List Bool} {b : SB} {E : EM} {rd : List (Nat × Seg)} {n : Nat} {w : World}
    (he : rE n (S n args rd) = some (.c (.bool b), ob)) (hob : AllT ob) (hbv : b.val = true) (h1 : 1 ≤ n) (hvals : RelVs E args vals.toList) (hE : ∀ i, n ≤ i → E i = none) (hro : ∀ i g, findS i rd = some g → g.rw = false) (hm : MemRel w (Tch E rd) E (fun i => findS i rd) w) :
    Calls P f vals w fun e w' => e = .returned (.bool true) ∧ Grown w w' := by
  obtain ⟨e, e1, e2, e3, e4⟩ := rE_some he
  subst e3
  exact law_mem h hf hname hb e1 hob e2 hbv h1 (Nat.le_of_ble_eq_true e4) hvals hE hro hm
set_option maxRecDepth 100000 in
theorem walk {H : Type} (enc : TypeId × Value → H) (W : World) (args : Array Value) {base : Nat} {ds : List (DataW H)} {p : List MemPlace} (hn : args.size = 1) (hval : ∀ (j : Nat) t v, #[22][j]? = some t → args[j]? = some v → Value.okWide Tryd.prog W .any base t v)
    (hA : DataW.TrodAll enc Tryd.prog W 0 (fun _ => true) true Tryd.f3.params.toList args.toList ds p) : Calls Tryd.prog 3 args W fun e w' => e = .returned (.bool true) ∧ Grown W w' := by
  obtain ⟨l⟩ := args
  match l, hn with
  | [v0], _ =>
    rw [Tryd.params3] at hA
    match ds, hA with
    | [_], hA =>
    obtain ⟨p0, q0, ⟨g0, t0⟩, hA, _⟩ := hA
    obtain ⟨ba0, ln0, cp0, rfl⟩ := okWide_slice Tryd.underlying22 (hval 0 22 v0 rfl rfl)
    obtain ⟨n0, F0, G0, B0, hsl0⟩ := sl_arg (P := Tryd.prog) (t := 22) (e := 46) Tryd.underlying22 (d := 5) (ts := SlFlue.ts) (by kernel_rfl) (by kernel_rfl) (by decide) (by rfl) t0
    let S0 : SA := ⟨.slice ba0 ln0 cp0, n0, SlFlue.ts, F0, G0, B0⟩
    have hmax0 : (n0 : Int) ≤ 9223372036854775807 := by
      obtain ⟨_, cap, _, g1, g2, _⟩ := hsl0.len
      have : maxLen = 9223372036854775807 := by decide +kernel
      omega
    have hS : ∀ s ∈ [S0], s.ok W := by
      intro s hs
      simp only [List.mem_cons, List.not_mem_nil, or_false] at hs
      rcases hs with rfl
      exact hsl0
    have hp : ∀ s ∈ [S0], 0 < s.ts.length := by
      intro s hs
      simp only [List.mem_cons, List.not_mem_nil, or_false] at hs
      rcases hs with rfl <;> exact (by decide : 0 < SlFlue.ts.length)
    have main : ∀ d, Stands W d → Calls Tryd.prog 3 #[.slice ba0 ln0 cp0] W fun e w' => e = .returned (.bool true) ∧ Grown W w' := fun d hd => by
      have hm := mem_of (l := [S0]) (fun s hs => ⟨hS s hs, hp s hs⟩) hd
      have hrel : RelVs (emOf d [S0]) [chA 1 n0] [.slice ba0 ln0 cp0] := ⟨SA.rel (l := [S0]) (i := 0) (s := S0) rfl hsl0, trivial⟩
      have hE : ∀ i, 2 ≤ i → emOf d [S0] i = none := fun i hi => emOf_none (by simpa using hi)
      have hro : ∀ i g, findS i (rdOf [S0] 1) = some g → g.rw = false := fun i g hg => by
        obtain ⟨_, s, hs, rfl⟩ := findS_rdOf hg
        rfl
      obtain ⟨hl, ob, hr, ho⟩ := allX F0 G0 (n := n0) (by omega) hmax0
      exact law_mem2 (inlN_of (l := LX fops) okLX mixed 8 Tryd.func3 (by kernel_rfl) (hints hl)) Tryd.func3 (by kernel_rfl) (by kernel_rfl) hr ho rfl (by decide) hrel hE hro hm
    rcases stands_or hS with ⟨d, hd⟩ | h0
    · exact main d hd
    · by_cases hd : ∃ d, Stands W d
      · obtain ⟨d, hd⟩ := hd
        exact main d hd
      · let E : EM := fun i => if i = 1 then some (0, 0, 0) else none
        have hrel : RelVs E [ch0 1] [.slice ba0 ln0 cp0] := ⟨SA.rel0 (s := S0) hsl0 (h0 S0 (by simp)) hd (by decide) rfl, trivial⟩
        exact law_mem2 (E := E) (rd := []) (inlN_of (l := LX fops) okLX mixed 8 Tryd.func3 (by kernel_rfl) (hints _)) Tryd.func3 (by kernel_rfl) (by kernel_rfl) (runX0 fops ) (AllT.one rfl) rfl (by decide) hrel (fun i hi => by
            show (if i = 1 then _ else none) = _
            rw [if_neg (by omega)]) (fun i g hg => by cases hg)
          ⟨fun i g hg => (by cases hg), fun i j g h b o z b' o' z' _ hg => (by cases hg), fun i g b o z hg => (by cases hg), Fr.refl _ _⟩

theorem fn_eq {H : Type} {ds : List (DataW H)} (h : ds.length = 1) : (Rows.fnExactChimneyTextSpec.fn H (ds ++ [])).results = [.lit (.bool true)] ∧ (Rows.fnExactChimneyTextSpec.fn H (ds ++ [])).args = ds ∧ (Rows.fnExactChimneyTextSpec.fn H (ds ++ [])).vars = [] := by
  match ds, h with
  | [_], _ => exact ⟨rfl, rfl, rfl⟩

/-! ### the row's step -/
set_option maxRecDepth 100000 in
theorem lifted (os : Os) (started : os.Started) (H : Type) (enc : TypeId × Value → H) :
    ReturnsInHanded {} Tryd.checked os 3 .any (fun w args => (Rows.fnExactChimneyTextSpec.pre enc Tryd.prog Tryd.f3 Rows.fnExactChimneyTextRow.domain false w args ∧ laidMetH Tryd.prog Rows.fnExactChimneyTextRow.laid w) ∧ sizedMet enc Tryd.prog Tryd.f3 (OpenSpec.ofChange Rows.fnExactChimneyTextSpec) false w args)
      (Rows.fnExactChimneyTextSpec.post enc Tryd.prog Tryd.f3 false true false false) := by
  refine returnsInHanded_of_change_and (C := Tryd.checked) (X := fun w _ => laidMetH Tryd.prog Rows.fnExactChimneyTextRow.laid w) (fun _ _ _ hh h => h.of_heap hh) own started (by kernel_rfl) Tryd.func3
    (ChangeSpec.witness_shaped (enc := enc) (C := Tryd.checked) (os := os) (X := fun w _ => laidMetH Tryd.prog Rows.fnExactChimneyTextRow.laid w) false (World.laidAll Tryd.prog os Rows.fnExactChimneyTextRow.laid) #[.slice none 0 0] 8 (World.laidAll_os _ _ _)
      (World.shaped_of_ZipB (by kernel_rfl) (by kernel_rfl)) (by kernel_rfl) (by kernel_rfl) (by kernel_rfl)
      (by rw [MakeChecks.laidMetH_plain _ _ _ (by kernel_rfl)]; exact laidMet_laidAll _ (by kernel_rfl) (by kernel_rfl))) ?_
  intro W base args ds gs before hval0 hW hcnd _ hL _
  have hval : ∀ (j : Nat) t v, Tryd.f3.params[j]? = some t → args[j]? = some v → Value.okWide Tryd.prog W .any base t v := hval0
  have hW' := hW
  obtain ⟨p, q, hA0, hV, rfl, hfz, hnd⟩ := hW
  have hA : DataW.TrodAll enc Tryd.prog W 0 (fun _ => true) true Tryd.f3.params.toList args.toList ds p := hA0
  obtain ⟨rfl, rfl⟩ := trodVars_none hV
  obtain ⟨hl1, hl2⟩ := trodAll_len hA
  have hlt := hW'.lt
  rw [Tryd.params3] at hl1 hl2 hval
  have hfn := fn_eq (H := H) (ds := ds) hl2
  refine (walk enc W args (by simpa using hl1) hval hA).mono fun e W' ⟨he, hg⟩ => ?_
  subst he
  exact ⟨_, rfl, post_of_same (pv := []) hW' (fun _ _ _ => by rw [hfn.1]; exact trodAll_cons_mk (shut_bool Tryd.underlying4 _) trodAll_mk0)
    (fun sp hsp => by rw [hfn.2.1]; exact args_stay kids full hg (by rw [Tryd.params3]; decide +kernel) hA (fun p hp => hlt p (by simpa using hp)) (fun p hp => hsp p (by simpa using hp)))
    (fun _ _ => by rw [hfn.2.2]; rfl) (by simp) (hg.frame _) hg.2.1 (ok_one (by kernel_rfl) rfl (okWide_bool_mk Tryd.underlying4 _))⟩

theorem over : Rows.fnExactChimneyTextRow.holds Tryd.pinned (OpenSpec.ofChange Rows.fnExactChimneyTextSpec) :=
  OpenClaim.holds_of_wide 3 Tryd.f3 rfl rfl rfl rfl rfl rfl rfl ⟨rfl, rfl, rfl, rfl, rfl⟩ rfl rfl rfl rfl rfl (by kernel_rfl) Tryd.func3 (by kernel_rfl)
    (of_decide_eq_true (by kernel_rfl)) (by unfold Func.isWrapper; first | (rw [if_pos (by decide +kernel)]; kernel_rfl) | (rw [if_neg (by decide +kernel)]; exact ⟨rfl, rfl⟩))
    (fun os started H enc _ => lifted os started H enc)

theorem proved : Rows.FnExactChimneyTextCardSaid :=
  Claim7.holds_tied_plain_at .later [] [.data, .data, .data] true (true, "a961e54c0f648040228c4f5a9bf9da664e0540ced2cfdcb8155d72be7b30d40f") false over (fun _ h => by cases h) (by kernel_rfl) (fun _ h => by cases h) fnExactChimneyText_row_tie rfl ⟨rfl, rfl⟩ (by kernel_rfl) rfl
    (fun f fn hf hfn => by
      obtain rfl : f = 3 := Option.some.inj ((show Tryd.prog.funcNamed "loop.example/g01229/laws.FnExactChimneyText" = some 3 by kernel_rfl).symm.trans hf) |>.symm
      obtain rfl : fn = Tryd.f3 := (Option.some.inj (Tryd.func3.symm.trans hfn)).symm
      exact ⟨by kernel_rfl, fun j t ht => by
        rw [Tryd.params3] at ht
        have hm : t ∈ [22] := by simpa using Array.mem_of_getElem? ht
        have hall : ([22].all fun u => !Tryd.prog.wantsStandIn u) = true := by kernel_rfl
        exact (show Tryd.prog.wantsStandIn t = false by simpa using List.all_eq_true.1 hall t hm)⟩)
    (by kernel_rfl)
#print axioms proved
end Go.Proofs.YtaodbpejeglmlaaDoor.fnExactChimneyText
