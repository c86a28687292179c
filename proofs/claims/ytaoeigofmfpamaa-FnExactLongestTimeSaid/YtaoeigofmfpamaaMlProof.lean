/- The Go function laws.FnExactLongestTime returns true, whatever its arguments. No condition. -/
import Derived.Test.YtaoeigofmfpamaaRows
import Derived.WalkKit
import Derived.ProofKit
import Derived.OpenShut
import Derived.Test.YtaoeigofmfpamaaMlE
namespace Go.Proofs.Ytaoeigofmfpamaa.fnExactLongestTime
open Go.ChangeShapes Go.WideShapes Go.ChangeAt Go.RowKit

theorem own : ownKnob Try.prog.godebug = none := by kernel_rfl
theorem kids : Kids Try.prog (· < Try.prog.types.size) := kids_rows (by kernel_rfl) (by kernel_rfl)
theorem full : ∀ t e, t < Try.prog.types.size → Try.prog.underlying t = some (.slice e) → 0 < Try.prog.cellsOf e := slices_full_of Try.prog (by kernel_rfl)

open Fla Lt
theorem law_mem2 {P : Program} {f : FuncId} {S : CS} (h : CallOK P f S) {fn : Func} (hf : P.funcs[f]? = some fn) (hname : (fn.name == "runtime.NumGoroutine") = false) (hb : fn.body.isSome = true) {args : List SV} {vals : Array Value} {ob : List Bool} {b : SB} {E : EM} {rd : List (Nat × Seg)} {n : Nat} {w : World}
    (he : rE n (S n args rd) = some (.c (.bool b), ob)) (hob : AllT ob) (hbv : b.val = true) (h1 : 1 ≤ n) (hvals : RelVs E args vals.toList) (hE : ∀ i, n ≤ i → E i = none) (hro : ∀ i g, findS i rd = some g → g.rw = false) (hm : MemRel w (Tch E rd) E (fun i => findS i rd) w) :
    Calls P f vals w fun e w' => e = .returned (.bool true) ∧ Grown w w' := by
  obtain ⟨e, e1, e2, e3, e4⟩ := rE_some he
  subst e3
  exact law_mem h hf hname hb e1 hob e2 hbv h1 (Nat.le_of_ble_eq_true e4) hvals hE hro hm
set_option maxRecDepth 100000 in
theorem walk {H : Type} (enc : TypeId × Value → H) (W : World) (args : Array Value) {base : Nat} {ds : List (DataW H)} {p : List MemPlace} (hn : args.size = 1) (hval : ∀ (j : Nat) t v, #[26][j]? = some t → args[j]? = some v → Value.okWide Try.prog W .any base t v)
    (hA : DataW.TrodAll enc Try.prog W 0 (fun _ => true) true Try.f3.params.toList args.toList ds p) : Calls Try.prog 3 args W fun e w' => e = .returned (.bool true) ∧ Grown W w' := by
  obtain ⟨l⟩ := args
  match l, hn with
  | [v0], _ =>
    rw [Try.params3] at hA
    match ds, hA with
    | [_], hA =>
    obtain ⟨p0, q0, ⟨g0, t0⟩, hA, _⟩ := hA
    obtain ⟨cs0, e0, z0⟩ := okWide_struct Try.underlying26 (hval 0 26 v0 rfl rfl)
    subst e0
    have hk0 := trod_kds (enc := enc) (P := Try.prog) (w := W) 6 26 [.sl 22 28, .sl 22 28, .sl 23 96, .sl 24 98] (by kernel_rfl) _ _ _ t0
    have hsz0 : cs0.size = 4 := z0.trans (by kernel_rfl)
    obtain ⟨cl0⟩ := cs0
    match cl0, hsz0 with
    | [c00, c01, c02, c03], _ =>
    obtain ⟨_, e00, k00⟩ := hk0 0 _ rfl
    obtain rfl := Option.some.inj e00
    obtain ⟨_, nn00, x00, hx00⟩ := k00
    obtain ⟨n00, F00, G00, B00, hsl00⟩ := sl_arg (P := Try.prog) (t := 22) (e := 28) Try.underlying22 (d := 5) (ts := SlFloat32.ts) (by kernel_rfl) (by kernel_rfl) (by decide) (by rfl) hx00
    let S00 : SA := ⟨c00, n00, SlFloat32.ts, F00, G00, B00⟩
    have hp00 : 0 < S00.ts.length := (by decide : 0 < SlFloat32.ts.length)
    have hmax00 : (n00 : Int) ≤ 9223372036854775807 := by
      obtain ⟨_, cap, _, g1, g2, _⟩ := hsl00.len
      have : maxLen = 9223372036854775807 := by decide +kernel
      omega
    obtain ⟨_, e01, k01⟩ := hk0 1 _ rfl
    obtain rfl := Option.some.inj e01
    obtain ⟨_, nn01, x01, hx01⟩ := k01
    obtain ⟨n01, F01, G01, B01, hsl01⟩ := sl_arg (P := Try.prog) (t := 22) (e := 28) Try.underlying22 (d := 5) (ts := SlFloat32.ts) (by kernel_rfl) (by kernel_rfl) (by decide) (by rfl) hx01
    let S01 : SA := ⟨c01, n01, SlFloat32.ts, F01, G01, B01⟩
    have hp01 : 0 < S01.ts.length := (by decide : 0 < SlFloat32.ts.length)
    have hmax01 : (n01 : Int) ≤ 9223372036854775807 := by
      obtain ⟨_, cap, _, g1, g2, _⟩ := hsl01.len
      have : maxLen = 9223372036854775807 := by decide +kernel
      omega
    obtain ⟨_, e02, k02⟩ := hk0 2 _ rfl
    obtain rfl := Option.some.inj e02
    obtain ⟨_, nn02, x02, hx02⟩ := k02
    obtain ⟨n02, F02, G02, B02, hsl02⟩ := sl_arg (P := Try.prog) (t := 23) (e := 96) Try.underlying23 (d := 5) (ts := SlWall.ts) (by kernel_rfl) (by kernel_rfl) (by decide) (by rfl) hx02
    let S02 : SA := ⟨c02, n02, SlWall.ts, F02, G02, B02⟩
    have hp02 : 0 < S02.ts.length := (by decide : 0 < SlWall.ts.length)
    have hmax02 : (n02 : Int) ≤ 9223372036854775807 := by
      obtain ⟨_, cap, _, g1, g2, _⟩ := hsl02.len
      have : maxLen = 9223372036854775807 := by decide +kernel
      omega
    obtain ⟨_, e03, k03⟩ := hk0 3 _ rfl
    obtain rfl := Option.some.inj e03
    obtain ⟨_, nn03, x03, hx03⟩ := k03
    obtain ⟨n03, F03, G03, B03, hsl03⟩ := sl_arg (P := Try.prog) (t := 24) (e := 98) Try.underlying24 (d := 5) (ts := SlPane.ts) (by kernel_rfl) (by kernel_rfl) (by decide) (by rfl) hx03
    let S03 : SA := ⟨c03, n03, SlPane.ts, F03, G03, B03⟩
    have hp03 : 0 < S03.ts.length := (by decide : 0 < SlPane.ts.length)
    have hmax03 : (n03 : Int) ≤ 9223372036854775807 := by
      obtain ⟨_, cap, _, g1, g2, _⟩ := hsl03.len
      have : maxLen = 9223372036854775807 := by decide +kernel
      omega
    let X0 : FD := ⟨F00, F01, F02, F03, G00, G01, G02, G03, n00, n01, n02, n03⟩
    have hN0 : Nn X0 := ⟨⟨Int.natCast_nonneg n00, hmax00⟩, ⟨Int.natCast_nonneg n01, hmax01⟩, ⟨Int.natCast_nonneg n02, hmax02⟩, ⟨Int.natCast_nonneg n03, hmax03⟩⟩
    have hS : ∀ s ∈ [S00, S01, S02, S03], s.ok W ∧ 0 < s.ts.length := by
      intro s hs
      simp only [List.mem_cons, List.not_mem_nil, or_false] at hs
      rcases hs with rfl | rfl | rfl | rfl
      · exact ⟨hsl00, hp00⟩
      · exact ⟨hsl01, hp01⟩
      · exact ⟨hsl02, hp02⟩
      · exact ⟨hsl03, hp03⟩
    have main : ∀ d, Stands W d → Calls Try.prog 3 #[.agg #[c00, c01, c02, c03]] W fun e w' => e = .returned (.bool true) ∧ Grown W w' := fun d hd => by
      have hm := mem_of (l := [S00, S01, S02, S03]) hS hd
      have hrel : RelVs (emOf d [S00, S01, S02, S03]) [flA X0] [.agg #[c00, c01, c02, c03]] := ⟨⟨_, rfl, SA.rel (l := [S00, S01, S02, S03]) (i := 0) (s := S00) rfl hsl00, SA.rel (l := [S00, S01, S02, S03]) (i := 1) (s := S01) rfl hsl01, SA.rel (l := [S00, S01, S02, S03]) (i := 2) (s := S02) rfl hsl02, SA.rel (l := [S00, S01, S02, S03]) (i := 3) (s := S03) rfl hsl03, trivial⟩, trivial⟩
      have hE : ∀ i, 5 ≤ i → emOf d [S00, S01, S02, S03] i = none := fun i hi => emOf_none (by simpa using hi)
      have hro : ∀ i g, findS i (rdOf [S00, S01, S02, S03] 1) = some g → g.rw = false := fun i g hg => by
        obtain ⟨_, s, hs, rfl⟩ := findS_rdOf hg
        rfl
      obtain ⟨hh, hl, ob, hr, ho⟩ := law_all hN0
      exact law_mem2 (inlN_of (l := L3 fops isNum hh) (okL3 hh) mixed 8 Try.func3 (by kernel_rfl) (hints hl)) Try.func3 (by kernel_rfl) (by kernel_rfl) hr ho rfl (by decide) hrel hE hro hm
    rcases stands_or (fun s hs => (hS s hs).1) with ⟨d, hd⟩ | h0
    · exact main d hd
    · by_cases hd : ∃ d, Stands W d
      · obtain ⟨d, hd⟩ := hd
        exact main d hd
      · let E : EM := fun i => if i = 1 then some (0, 0, 0) else if i = 2 then some (0, 0, 0) else if i = 3 then some (0, 0, 0) else if i = 4 then some (0, 0, 0) else none
        have hrel : RelVs E [flA0] [.agg #[c00, c01, c02, c03]] := ⟨⟨_, rfl, SA.rel0 (s := S00) hsl00 (h0 S00 (by simp)) hd (by decide) rfl, SA.rel0 (s := S01) hsl01 (h0 S01 (by simp)) hd (by decide) rfl, SA.rel0 (s := S02) hsl02 (h0 S02 (by simp)) hd (by decide) rfl, SA.rel0 (s := S03) hsl03 (h0 S03 (by simp)) hd (by decide) rfl, trivial⟩, trivial⟩
        obtain ⟨hh, hl, ob, hr, ho⟩ := law_all0 
        exact law_mem2 (E := E) (rd := []) (inlN_of (l := L3 fops isNum hh) (okL3 hh) mixed 8 Try.func3 (by kernel_rfl) (hints hl)) Try.func3 (by kernel_rfl) (by kernel_rfl) hr ho rfl (by decide) hrel (fun i hi => by
            show (if i = 1 then _ else if i = 2 then _ else if i = 3 then _ else if i = 4 then _ else none) = _
            rw [if_neg (by omega), if_neg (by omega), if_neg (by omega), if_neg (by omega)]) (fun i g hg => by cases hg)
          (mem_nil _ _)

theorem fn_eq {H : Type} {ds : List (DataW H)} (h : ds.length = 1) : (Rows.fnExactLongestTimeSpec.fn H (ds ++ [])).results = [.lit (.bool true)] ∧ (Rows.fnExactLongestTimeSpec.fn H (ds ++ [])).args = ds ∧ (Rows.fnExactLongestTimeSpec.fn H (ds ++ [])).vars = [] := by
  match ds, h with
  | [_], _ => exact ⟨rfl, rfl, rfl⟩

/-! ### the row's step -/
set_option maxRecDepth 100000 in
theorem lifted (os : Os) (started : os.Started) (H : Type) (enc : TypeId × Value → H) :
    ReturnsInHanded {} Try.checked os 3 .any (Rows.fnExactLongestTimeSpec.pre6 enc Try.prog Try.f3 Rows.fnExactLongestTimeRow.domain false) (Rows.fnExactLongestTimeSpec.post enc Try.prog Try.f3 false true false false) := by
  refine returnsInHanded_of_change (C := Try.checked) own started (by kernel_rfl) Try.func3
    (ChangeSpec.witness6 (enc := enc) (C := Try.checked) false ⟨#[], #[.agg #[.slice none 0 0, .slice none 0 0, .slice none 0 0, .slice none 0 0]], []⟩ 8 (by kernel_rfl) (by kernel_rfl) (by kernel_rfl) (by kernel_rfl)) ?_
  intro W base args ds gs before hval0 hW hcnd _
  have hval : ∀ (j : Nat) t v, Try.f3.params[j]? = some t → args[j]? = some v → Value.okWide Try.prog W .any base t v := hval0
  have hW' := hW
  obtain ⟨p, q, hA0, hV, rfl, hfz, hnd⟩ := hW
  have hA : DataW.TrodAll enc Try.prog W 0 (fun _ => true) true Try.f3.params.toList args.toList ds p := hA0
  obtain ⟨rfl, rfl⟩ := trodVars_none hV
  obtain ⟨hl1, hl2⟩ := trodAll_len hA
  have hlt := hW'.lt
  rw [Try.params3] at hl1 hl2 hval
  have hfn := fn_eq (H := H) (ds := ds) hl2
  refine (walk enc W args (by simpa using hl1) hval hA).mono fun e W' ⟨he, hg⟩ => ?_
  subst he
  exact ⟨_, rfl, post_of_same (pv := []) hW' (fun _ _ _ => by rw [hfn.1]; exact trodAll_cons_mk (shut_bool Try.underlying4 _) trodAll_mk0)
    (fun sp hsp => by rw [hfn.2.1]; exact args_stay kids full hg (by rw [Try.params3]; decide +kernel) hA (fun p hp => hlt p (by simpa using hp)) (fun p hp => hsp p (by simpa using hp)))
    (fun _ _ => by rw [hfn.2.2]; rfl) (by simp) (hg.frame _) hg.2.1 (ok_one (by kernel_rfl) rfl (okWide_bool_mk Try.underlying4 _))⟩

theorem over : Rows.fnExactLongestTimeRow.holds Try.pinned (OpenSpec.ofChange Rows.fnExactLongestTimeSpec) :=
  OpenClaim.holds_of_wide 3 Try.f3 rfl rfl rfl rfl rfl rfl rfl ⟨rfl, rfl, rfl, rfl, rfl⟩ rfl rfl rfl rfl rfl (by kernel_rfl) Try.func3 (by kernel_rfl)
    (of_decide_eq_true (by kernel_rfl)) (by unfold Func.isWrapper; first | (rw [if_pos (by decide +kernel)]; kernel_rfl) | (rw [if_neg (by decide +kernel)]; exact ⟨rfl, rfl⟩))
    (fun os started H enc _ => lifted os started H enc)

theorem proved : Rows.FnExactLongestTimeSaid :=
  over
#print axioms proved
end Go.Proofs.Ytaoeigofmfpamaa.fnExactLongestTime
