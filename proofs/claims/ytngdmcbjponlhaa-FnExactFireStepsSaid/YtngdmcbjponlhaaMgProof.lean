/- The Go function laws.FnExactFireSteps returns true, whatever its arguments. No condition. -/
import Derived.Test.YtngdmcbjponlhaaRows
import Derived.WalkKit
import Derived.ProofKit
import Derived.OpenShut
import Derived.Test.YtngdmcbjponlhaaMgE
namespace Go.Proofs.Ytngdmcbjponlhaa.fnExactFireSteps
open Go.ChangeShapes Go.WideShapes Go.ChangeAt Go.RowKit

theorem own : ownKnob Try.prog.godebug = none := by kernel_rfl
theorem kids : Kids Try.prog (· < Try.prog.types.size) := kids_rows (by kernel_rfl) (by kernel_rfl)
theorem full : ∀ t e, t < Try.prog.types.size → Try.prog.underlying t = some (.slice e) → 0 < Try.prog.cellsOf e := slices_full_of Try.prog (by kernel_rfl)

open SlWood Stv Sto Fsl
theorem law_mem2 {P : Program} {f : FuncId} {S : CS} (h : CallOK P f S) {fn : Func} (hf : P.funcs[f]? = some fn) (hname : (fn.name == "runtime.NumGoroutine") = false) (hb : fn.body.isSome = true) {args : List SV} {vals : Array Value} {ob : List Bool} {b : SB} {E : EM} {rd : List (Nat × Seg)} {n : Nat} {w : World}
    (he : rE n (S n args rd) = some (.c (.bool b), ob)) (hob : AllT ob) (hbv : b.val = true) (h1 : 1 ≤ n) (hvals : RelVs E args vals.toList) (hE : ∀ i, n ≤ i → E i = none) (hro : ∀ i g, findS i rd = some g → g.rw = false) (hm : MemRel w (Tch E rd) E (fun i => findS i rd) w) :
    Calls P f vals w fun e w' => e = .returned (.bool true) ∧ Grown w w' := by
  obtain ⟨e, e1, e2, e3, e4⟩ := rE_some he
  subst e3
  exact law_mem h hf hname hb e1 hob e2 hbv h1 (Nat.le_of_ble_eq_true e4) hvals hE hro hm
set_option maxRecDepth 100000 in
theorem walk {H : Type} (enc : TypeId × Value → H) (W : World) (args : Array Value) {base : Nat} {ds : List (DataW H)} {p : List MemPlace} (hn : args.size = 5) (hval : ∀ (j : Nat) t v, #[26, 23, 23, 23, 2][j]? = some t → args[j]? = some v → Value.okWide Try.prog W .any base t v)
    (hA : DataW.TrodAll enc Try.prog W 0 (fun _ => true) true Try.f14.params.toList args.toList ds p) : Calls Try.prog 14 args W fun e w' => e = .returned (.bool true) ∧ Grown W w' := by
  obtain ⟨l⟩ := args
  match l, hn with
  | [v0, v1, v2, v3, v4], _ =>
    rw [Try.params14] at hA
    match ds, hA with
    | [_, _, _, _, _], hA =>
    obtain ⟨p0, q0, ⟨n0, t0⟩, hA, _⟩ := hA
    obtain ⟨d0, _, h1⟩ := val_flt (k := .f32) Try.underlying23 (hval 1 23 v1 rfl rfl)
    obtain ⟨d1, _, h2⟩ := val_flt (k := .f32) Try.underlying23 (hval 2 23 v2 rfl rfl)
    obtain ⟨d2, _, h3⟩ := val_flt (k := .f32) Try.underlying23 (hval 3 23 v3 rfl rfl)
    obtain ⟨l0, h4, hb4⟩ := val_int (k := .i64) Try.underlying2 (hval 4 2 v4 rfl rfl)
    obtain ⟨cs, e0, z0⟩ := okWide_struct Try.underlying26 (hval 0 26 v0 rfl rfl)
    subst e0
    have hk := trod_kds (enc := enc) (P := Try.prog) (w := W) 6 26 [.sl 22 54, .flt .f32, .flt .f32, .int .i8, .int .i64, .flt .f32] (by kernel_rfl) _ _ _ t0
    have hsz : cs.size = 6 := z0.trans (by kernel_rfl)
    obtain ⟨cl⟩ := cs
    match cl, hsz with
    | [c0, c1, c2, c3, c4, c5], _ =>
    obtain ⟨_, e0, k0⟩ := hk 0 _ rfl
    obtain rfl := Option.some.inj e0
    obtain ⟨_, e1, k1⟩ := hk 1 _ rfl
    obtain rfl := Option.some.inj e1
    obtain ⟨_, e2, k2⟩ := hk 2 _ rfl
    obtain rfl := Option.some.inj e2
    obtain ⟨_, e3, k3⟩ := hk 3 _ rfl
    obtain rfl := Option.some.inj e3
    obtain ⟨_, e4, k4⟩ := hk 4 _ rfl
    obtain rfl := Option.some.inj e4
    obtain ⟨_, e5, k5⟩ := hk 5 _ rfl
    obtain rfl := Option.some.inj e5
    obtain ⟨_, nn, x, hx⟩ := k0
    obtain ⟨n, F, G, Bf, hsl⟩ := sl_arg (P := Try.prog) (t := 22) (e := 54) Try.underlying22 (d := 5) (ts := SlWood.ts) (by kernel_rfl) (by kernel_rfl) (by decide) (by rfl) hx
    obtain ⟨a, _, _, ha⟩ := kok_dat (E := fun _ => none) k1
    obtain ⟨b, _, _, hb⟩ := kok_dat (E := fun _ => none) k2
    obtain ⟨_, s, _, hs, hs1, hs2⟩ := kok_dat (E := fun _ => none) k3
    obtain ⟨_, t, _, ht, _⟩ := kok_dat (E := fun _ => none) k4
    obtain ⟨c, _, _, hc⟩ := kok_dat (E := fun _ => none) k5
    have hsb : -128 ≤ s ∧ s ≤ 127 := by
      have m1 : IntKind.i8.min = -128 := by decide +kernel
      have m2 : IntKind.i8.max = 127 := by decide +kernel
      omega
    let S : SA := ⟨c0, n, SlWood.ts, F, G, Bf⟩
    have hS : ∀ s ∈ [S], s.ok W := by
      intro s hs
      cases List.mem_singleton.1 hs
      exact hsl
    have hpos : 0 < S.ts.length := (by decide : 0 < SlWood.ts.length)
    have hmax : (n : Int) ≤ 9223372036854775807 := by
      obtain ⟨_, cap, _, g1, g2, _⟩ := hsl.len
      have : maxLen = 9223372036854775807 := by decide +kernel
      omega
    have main : ∀ d, Stands W d → Calls Try.prog 14 #[.agg #[c0, c1, c2, c3, c4, c5], v1, v2, v3, v4] W fun e w' => e = .returned (.bool true) ∧ Grown W w' := fun d hd => by
      have hm := mem_of (l := [S]) (fun s hs => ⟨hS s hs, by cases List.mem_singleton.1 hs; exact hpos⟩) hd
      have hrel : RelVs (emOf d [S]) [stA n a b s t c, .c (.flt .f32 d0), .c (.flt .f32 d1), .c (.flt .f32 d2), .c (.int .i64 (.s l0))] [.agg #[c0, c1, c2, c3, c4, c5], v1, v2, v3, v4] := ⟨⟨_, rfl, SA.rel (l := [S]) (i := 0) (s := S) rfl (hS S (List.mem_singleton.2 rfl)), ha, hb, hs, ht, hc, trivial⟩, h1, h2, h3, h4, trivial⟩
      have hE : ∀ i, 2 ≤ i → emOf d [S] i = none := fun i hi => emOf_none (by simpa using hi)
      have hro : ∀ i g, findS i (rdOf [S] 1) = some g → g.rw = false := fun i g hg => by
        obtain ⟨_, s, hs, rfl⟩ := findS_rdOf hg
        rfl
      obtain ⟨h, hl, ob, hr, ho⟩ := law_all F G (by omega) hmax a b hsb t c d0 d1 d2 l0 (Fst.cn_dat hsl.dat)
      exact law_mem2 (inlN_of (l := L3 fops valid h) (okL3 h) mixed 8 Try.func14 (by kernel_rfl) (hint hl)) Try.func14 (by kernel_rfl) (by kernel_rfl) hr ho rfl (by decide) hrel hE hro hm
    rcases stands_or hS with ⟨d, hd⟩ | h0
    · exact main d hd
    · by_cases hd : ∃ d, Stands W d
      · obtain ⟨d, hd⟩ := hd
        exact main d hd
      · let E : EM := fun i => if i = 1 then some (0, 0, 0) else none
        have hrel : RelVs E [st0 a b s t c, .c (.flt .f32 d0), .c (.flt .f32 d1), .c (.flt .f32 d2), .c (.int .i64 (.s l0))] [.agg #[c0, c1, c2, c3, c4, c5], v1, v2, v3, v4] := ⟨⟨_, rfl, SA.rel0 (s := S) (hS S (List.mem_singleton.2 rfl)) (h0 S (List.mem_singleton.2 rfl)) hd (by decide) rfl, ha, hb, hs, ht, hc, trivial⟩, h1, h2, h3, h4, trivial⟩
        obtain ⟨h, hl, ob, hr, ho⟩ := law_all0 a b hsb t c d0 d1 d2 l0 
        exact law_mem2 (E := E) (rd := []) (inlN_of (l := L3 fops valid h) (okL3 h) mixed 8 Try.func14 (by kernel_rfl) (hint hl)) Try.func14 (by kernel_rfl) (by kernel_rfl) hr ho rfl (by decide) hrel (fun i hi => if_neg (by omega)) (fun i g hg => by cases hg)
          (mem_nil _ _)

theorem fn_eq {H : Type} {ds : List (DataW H)} (h : ds.length = 5) : (Rows.fnExactFireStepsSpec.fn H (ds ++ [])).results = [.lit (.bool true)] ∧ (Rows.fnExactFireStepsSpec.fn H (ds ++ [])).args = ds ∧ (Rows.fnExactFireStepsSpec.fn H (ds ++ [])).vars = [] := by
  match ds, h with
  | [_, _, _, _, _], _ => exact ⟨rfl, rfl, rfl⟩

/-! ### the row's step -/
set_option maxRecDepth 100000 in
theorem lifted (os : Os) (started : os.Started) (H : Type) (enc : TypeId × Value → H) :
    ReturnsInHanded {} Try.checked os 14 .any (Rows.fnExactFireStepsSpec.pre6 enc Try.prog Try.f14 Rows.fnExactFireStepsRow.domain false) (Rows.fnExactFireStepsSpec.post enc Try.prog Try.f14 false true false false) := by
  refine returnsInHanded_of_change (C := Try.checked) own started (by kernel_rfl) Try.func14
    (ChangeSpec.witness6 (enc := enc) (C := Try.checked) false ⟨#[], #[.agg #[.slice none 0 0, .float .f32 0, .float .f32 0, .int .i8 0, .int .i64 0, .float .f32 0],.float .f32 0,.float .f32 0,.float .f32 0,.int .i64 0], []⟩ 8 (by kernel_rfl) (by kernel_rfl) (by kernel_rfl) (by kernel_rfl)) ?_
  intro W base args ds gs before hval0 hW hcnd _
  have hval : ∀ (j : Nat) t v, Try.f14.params[j]? = some t → args[j]? = some v → Value.okWide Try.prog W .any base t v := hval0
  have hW' := hW
  obtain ⟨p, q, hA0, hV, rfl, hfz, hnd⟩ := hW
  have hA : DataW.TrodAll enc Try.prog W 0 (fun _ => true) true Try.f14.params.toList args.toList ds p := hA0
  obtain ⟨rfl, rfl⟩ := trodVars_none hV
  obtain ⟨hl1, hl2⟩ := trodAll_len hA
  have hlt := hW'.lt
  rw [Try.params14] at hl1 hl2 hval
  have hfn := fn_eq (H := H) (ds := ds) hl2
  refine (walk enc W args (by simpa using hl1) hval hA).mono fun e W' ⟨he, hg⟩ => ?_
  subst he
  exact ⟨_, rfl, post_of_same (pv := []) hW' (fun _ _ _ => by rw [hfn.1]; exact trodAll_cons_mk (shut_bool Try.underlying4 _) trodAll_mk0)
    (fun sp hsp => by rw [hfn.2.1]; exact args_stay kids full hg (by rw [Try.params14]; decide +kernel) hA (fun p hp => hlt p (by simpa using hp)) (fun p hp => hsp p (by simpa using hp)))
    (fun _ _ => by rw [hfn.2.2]; rfl) (by simp) (hg.frame _) hg.2.1 (ok_one (by kernel_rfl) rfl (okWide_bool_mk Try.underlying4 _))⟩

theorem over : Rows.fnExactFireStepsRow.holds Try.pinned (OpenSpec.ofChange Rows.fnExactFireStepsSpec) :=
  OpenClaim.holds_of_wide 14 Try.f14 rfl rfl rfl rfl rfl rfl rfl ⟨rfl, rfl, rfl, rfl, rfl⟩ rfl rfl rfl rfl rfl (by kernel_rfl) Try.func14 (by kernel_rfl)
    (of_decide_eq_true (by kernel_rfl)) (by unfold Func.isWrapper; first | (rw [if_pos (by decide +kernel)]; kernel_rfl) | (rw [if_neg (by decide +kernel)]; exact ⟨rfl, rfl⟩))
    (fun os started H enc _ => lifted os started H enc)

theorem proved : Rows.FnExactFireStepsSaid :=
  over
#print axioms proved
end Go.Proofs.Ytngdmcbjponlhaa.fnExactFireSteps
