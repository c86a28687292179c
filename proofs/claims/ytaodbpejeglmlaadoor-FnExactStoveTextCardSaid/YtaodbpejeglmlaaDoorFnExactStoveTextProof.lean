/- The Go function laws.FnExactStoveText returns true, whatever its arguments. No condition. -/
import Derived.Test.YtaodbpejeglmlaaDoorRows
import Derived.Test.YtaodbpejeglmlaaDoorCards
import Derived.Test.YtaodbpejeglmlaaDoorTie
import Derived.Test.YtaodbpejeglmlaaDoorStl
import Derived.WalkKit
import Derived.ProofKit
import Derived.OpenShut
import Derived.LaidMore
import Derived.Lib.LaidTab
import Derived.Lay
import Derived.SevenTiedAt
import Derived.Stop.Joined
namespace Go.Proofs.YtaodbpejeglmlaaDoor.fnExactStoveText
open Go.ChangeShapes Go.WideShapes Go.ChangeAt Go.RowKit

theorem own : ownKnob Tryd.prog.godebug = none := by kernel_rfl
theorem kids : Kids Tryd.prog (· < Tryd.prog.types.size) := kids_rows (by kernel_rfl) (by kernel_rfl)
theorem full : ∀ t e, t < Tryd.prog.types.size → Tryd.prog.underlying t = some (.slice e) → 0 < Tryd.prog.cellsOf e := slices_full_of Tryd.prog (by kernel_rfl)

open SlWood Stv Sto Stx
theorem law_mem2 {P : Program} {f : FuncId} {S : CS} (h : CallOK P f S) {fn : Func} (hf : P.funcs[f]? = some fn) (hname : (fn.name == "runtime.NumGoroutine") = false) (hb : fn.body.isSome = true) {args : List SV} {vals : Array Value} {ob : List Bool} {b : SB} {E : EM} {rd : List (Nat × Seg)} {n : Nat} {w : World}
    (he : rE n (S n args rd) = some (.c (.bool b), ob)) (hob : AllT ob) (hbv : b.val = true) (h1 : 1 ≤ n) (hvals : RelVs E args vals.toList) (hE : ∀ i, n ≤ i → E i = none) (hro : ∀ i g, findS i rd = some g → g.rw = false) (hm : MemRel w (Tch E rd) E (fun i => findS i rd) w) :
    Calls P f vals w fun e w' => e = .returned (.bool true) ∧ Grown w w' := by
  obtain ⟨e, e1, e2, e3, e4⟩ := rE_some he
  subst e3
  exact law_mem h hf hname hb e1 hob e2 hbv h1 (Nat.le_of_ble_eq_true e4) hvals hE hro hm
set_option maxRecDepth 100000 in
theorem walk {H : Type} (enc : TypeId × Value → H) (W : World) (args : Array Value) {base : Nat} {ds : List (DataW H)} {p : List MemPlace} (hn : args.size = 1) (hTab : Tab W) (hval : ∀ (j : Nat) t v, #[33][j]? = some t → args[j]? = some v → Value.okWide Tryd.prog W .any base t v)
    (hA : DataW.TrodAll enc Tryd.prog W 0 (fun _ => true) true Tryd.f4.params.toList args.toList ds p) : Calls Tryd.prog 4 args W fun e w' => e = .returned (.bool true) ∧ Grown W w' := by
  obtain ⟨l⟩ := args
  match l, hn with
  | [v0], _ =>
    rw [Tryd.params4] at hA
    match ds, hA with
    | [_], hA =>
    obtain ⟨p0, q0, ⟨n0, t0⟩, hA, _⟩ := hA
    obtain ⟨cs, e0, z0⟩ := okWide_struct Tryd.underlying33 (hval 0 33 v0 rfl rfl)
    subst e0
    have hk := trod_kds (enc := enc) (P := Tryd.prog) (w := W) 6 33 [.sl 29 74, .flt .f32, .flt .f32, .int .i8, .int .i64, .flt .f32] (by kernel_rfl) _ _ _ t0
    have hsz : cs.size = 6 := z0.trans (by kernel_rfl)
    obtain ⟨cl⟩ := cs
    match cl, hsz with
    | [c0, c1, c2, c3, c4, c5], _ =>
    obtain ⟨_, e0, k0⟩ := hk 0 _ rfl
    obtain rfl := Option.some.inj e0
    obtain ⟨_, e1, k1⟩ := hk 1 _ rfl
    obtain rfl := Option.some.inj e1
    obtain ⟨_, e2, k2⟩ := hk 2 _ rfl
    obtain rfl := Option.some.inj e2
    obtain ⟨_, e3, k3⟩ := hk 3 _ rfl
    obtain rfl := Option.some.inj e3
    obtain ⟨_, e4, k4⟩ := hk 4 _ rfl
    obtain rfl := Option.some.inj e4
    obtain ⟨_, e5, k5⟩ := hk 5 _ rfl
    obtain rfl := Option.some.inj e5
    obtain ⟨_, nn, x, hx⟩ := k0
    obtain ⟨n, F, G, Bf, hsl⟩ := sl_arg (P := Tryd.prog) (t := 29) (e := 74) Tryd.underlying29 (d := 5) (ts := SlWood.ts) (by kernel_rfl) (by kernel_rfl) (by decide) (by rfl) hx
    obtain ⟨a, _, _, ha⟩ := kok_dat (E := fun _ => none) k1
    obtain ⟨b, _, _, hb⟩ := kok_dat (E := fun _ => none) k2
    obtain ⟨_, s, _, hs, hs1, hs2⟩ := kok_dat (E := fun _ => none) k3
    obtain ⟨_, t, _, ht, _⟩ := kok_dat (E := fun _ => none) k4
    obtain ⟨c, _, _, hc⟩ := kok_dat (E := fun _ => none) k5
    have hsb : -128 ≤ s ∧ s ≤ 127 := by
      have m1 : IntKind.i8.min = -128 := by decide +kernel
      have m2 : IntKind.i8.max = 127 := by decide +kernel
      omega
    let S : SA := ⟨c0, n, SlWood.ts, F, G, Bf⟩
    have hS : ∀ s ∈ [S], s.ok W := by
      intro s hs
      cases List.mem_singleton.1 hs
      exact hsl
    have hpos : 0 < S.ts.length := (by decide : 0 < SlWood.ts.length)
    have hmax : (n : Int) ≤ 9223372036854775807 := by
      obtain ⟨_, cap, _, g1, g2, _⟩ := hsl.len
      have : maxLen = 9223372036854775807 := by decide +kernel
      omega
    have main : ∀ d, Stands W d → Calls Tryd.prog 4 #[.agg #[c0, c1, c2, c3, c4, c5]] W fun e w' => e = .returned (.bool true) ∧ Grown W w' := fun d hd => by
      have hm := mem_of (l := [S]) (fun s hs => ⟨hS s hs, by cases List.mem_singleton.1 hs; exact hpos⟩) hd hTab
      have hrel : RelVs (emOf d [S]) [stA n a b s t c] [.agg #[c0, c1, c2, c3, c4, c5]] := ⟨⟨_, rfl, SA.rel (l := [S]) (i := 0) (s := S) rfl (hS S (List.mem_singleton.2 rfl)), ha, hb, hs, ht, hc, trivial⟩, trivial⟩
      have hE : ∀ i, 2 ≤ i → emOf d [S] i = none := fun i hi => emOf_none (by simpa using hi)
      have hro : ∀ i g, findS i (rdOf [S] 1) = some g → g.rw = false := fun i g hg => by
        obtain ⟨_, s, hs, rfl⟩ := findS_rdOf hg
        rfl
      obtain ⟨h, hl, ob, hr, ho⟩ := law_all F G (by omega) hmax a b hsb t c  
      exact law_mem2 (inlN_of (l := L3 fops valid h) (okL3 h) mixed 8 Tryd.func4 (by kernel_rfl) (hints hl)) Tryd.func4 (by kernel_rfl) (by kernel_rfl) hr ho rfl (by decide) hrel hE hro hm
    rcases stands_or hS with ⟨d, hd⟩ | h0
    · exact main d hd
    · by_cases hd : ∃ d, Stands W d
      · obtain ⟨d, hd⟩ := hd
        exact main d hd
      · let E : EM := fun i => if i = 1 then some (0, 0, 0) else none
        have hrel : RelVs E [st0 a b s t c] [.agg #[c0, c1, c2, c3, c4, c5]] := ⟨⟨_, rfl, SA.rel0 (s := S) (hS S (List.mem_singleton.2 rfl)) (h0 S (List.mem_singleton.2 rfl)) hd (by decide) rfl, ha, hb, hs, ht, hc, trivial⟩, trivial⟩
        obtain ⟨h, hl, ob, hr, ho⟩ := law_all0 a b hsb t c  
        exact law_mem2 (E := E) (rd := []) (inlN_of (l := L3 fops valid h) (okL3 h) mixed 8 Tryd.func4 (by kernel_rfl) (hints hl)) Tryd.func4 (by kernel_rfl) (by kernel_rfl) hr ho rfl (by decide) hrel (fun i hi => if_neg (by omega)) (fun i g hg => by cases hg)
          (mem_nil _ _ hTab)

theorem fn_eq {H : Type} {ds : List (DataW H)} (h : ds.length = 1) : (Rows.fnExactStoveTextSpec.fn H (ds ++ [])).results = [.lit (.bool true)] ∧ (Rows.fnExactStoveTextSpec.fn H (ds ++ [])).args = ds ∧ (Rows.fnExactStoveTextSpec.fn H (ds ++ [])).vars = [] := by
  match ds, h with
  | [_], _ => exact ⟨rfl, rfl, rfl⟩

/-! ### the row's step -/
theorem tab_laid {W : World} (h : laidMetH Tryd.prog Rows.fnExactStoveTextRow.laid W) : Tab W := by
  rw [MakeChecks.laidMetH_plain _ _ _ (by kernel_rfl)] at h
  obtain ⟨ps, ⟨_, _, _, _, _, _, _, _, _, _, ⟨_, _, _, _, _, _, _, _, _, _, ⟨g, t, cs, fuel, p, q, hg, ht, hv, hd, _, _⟩, _⟩, _⟩, _⟩ := h
  obtain rfl := Option.some.inj (Fm.gN.symm.trans hg)
  obtain rfl := Option.some.inj ((show (Tryd.prog.globals[1]?).map (·.type) = some 116 by kernel_rfl).symm.trans ht)
  have e : (Rows.laid_internal_strconv_uint64pow10 : DataW Unit) = Go.Lib.tabData .u64 Go.Lib.pow10Tab := by kernel_rfl
  rw [e] at hd
  refine Fm.tab_of ?_
  unfold Go.Lib.TabIs
  rw [hv, ← Go.Lib.cells_of_tab Tryd.underlying116 Tryd.underlying105 (by kernel_rfl) (by kernel_rfl) hd]
set_option maxRecDepth 100000 in
theorem lifted (os : Os) (started : os.Started) (H : Type) (enc : TypeId × Value → H) :
    ReturnsInHanded {} Tryd.checked os 4 .any (fun w args => (Rows.fnExactStoveTextSpec.pre enc Tryd.prog Tryd.f4 Rows.fnExactStoveTextRow.domain false w args ∧ laidMetH Tryd.prog Rows.fnExactStoveTextRow.laid w) ∧ sizedMet enc Tryd.prog Tryd.f4 (OpenSpec.ofChange Rows.fnExactStoveTextSpec) false w args)
      (Rows.fnExactStoveTextSpec.post enc Tryd.prog Tryd.f4 false true false false) := by
  refine returnsInHanded_of_change_and (C := Tryd.checked) (X := fun w _ => laidMetH Tryd.prog Rows.fnExactStoveTextRow.laid w) (fun _ _ _ hh h => h.of_heap hh) own started (by kernel_rfl) Tryd.func4
    (ChangeSpec.witness_shaped (enc := enc) (C := Tryd.checked) (os := os) (X := fun w _ => laidMetH Tryd.prog Rows.fnExactStoveTextRow.laid w) false (World.laidAll Tryd.prog os Rows.fnExactStoveTextRow.laid) #[.agg #[.slice none 0 0, .float .f32 0, .float .f32 0, .int .i8 0, .int .i64 0, .float .f32 0]] 8 (World.laidAll_os _ _ _)
      (World.shaped_of_ZipB (by kernel_rfl) (by kernel_rfl)) (by kernel_rfl) (by kernel_rfl) (by kernel_rfl)
      (by rw [MakeChecks.laidMetH_plain _ _ _ (by kernel_rfl)]; exact laidMet_laidAll _ (by kernel_rfl) (by kernel_rfl))) ?_
  intro W base args ds gs before hval0 hW hcnd _ hL _
  have hval : ∀ (j : Nat) t v, Tryd.f4.params[j]? = some t → args[j]? = some v → Value.okWide Tryd.prog W .any base t v := hval0
  have hW' := hW
  obtain ⟨p, q, hA0, hV, rfl, hfz, hnd⟩ := hW
  have hA : DataW.TrodAll enc Tryd.prog W 0 (fun _ => true) true Tryd.f4.params.toList args.toList ds p := hA0
  obtain ⟨rfl, rfl⟩ := trodVars_none hV
  obtain ⟨hl1, hl2⟩ := trodAll_len hA
  have hlt := hW'.lt
  rw [Tryd.params4] at hl1 hl2 hval
  have hfn := fn_eq (H := H) (ds := ds) hl2
  refine (walk enc W args (by simpa using hl1) (tab_laid hL) hval hA).mono fun e W' ⟨he, hg⟩ => ?_
  subst he
  exact ⟨_, rfl, post_of_same (pv := []) hW' (fun _ _ _ => by rw [hfn.1]; exact trodAll_cons_mk (shut_bool Tryd.underlying4 _) trodAll_mk0)
    (fun sp hsp => by rw [hfn.2.1]; exact args_stay kids full hg (by rw [Tryd.params4]; decide +kernel) hA (fun p hp => hlt p (by simpa using hp)) (fun p hp => hsp p (by simpa using hp)))
    (fun _ _ => by rw [hfn.2.2]; rfl) (by simp) (hg.frame _) hg.2.1 (ok_one (by kernel_rfl) rfl (okWide_bool_mk Tryd.underlying4 _))⟩

theorem over : Rows.fnExactStoveTextRow.holds Tryd.pinned (OpenSpec.ofChange Rows.fnExactStoveTextSpec) :=
  OpenClaim.holds_of_wide 4 Tryd.f4 rfl rfl rfl rfl rfl rfl rfl ⟨rfl, rfl, rfl, rfl, rfl⟩ rfl rfl rfl rfl rfl (by kernel_rfl) Tryd.func4 (by kernel_rfl)
    (of_decide_eq_true (by kernel_rfl)) (by unfold Func.isWrapper; first | (rw [if_pos (by decide +kernel)]; kernel_rfl) | (rw [if_neg (by decide +kernel)]; exact ⟨rfl, rfl⟩))
    (fun os started H enc _ => lifted os started H enc)

theorem proved : Rows.FnExactStoveTextCardSaid :=
  Claim7.holds_tied_plain_at .later [] [.data, .data, .data] true (true, "a961e54c0f648040228c4f5a9bf9da664e0540ced2cfdcb8155d72be7b30d40f") false over (fun _ h => by cases h) (by kernel_rfl) (fun _ h => by cases h) fnExactStoveText_row_tie rfl ⟨rfl, rfl⟩ (by kernel_rfl) rfl
    (fun f fn hf hfn => by
      obtain rfl : f = 4 := Option.some.inj ((show Tryd.prog.funcNamed "loop.example/g01229/laws.FnExactStoveText" = some 4 by kernel_rfl).symm.trans hf) |>.symm
      obtain rfl : fn = Tryd.f4 := (Option.some.inj (Tryd.func4.symm.trans hfn)).symm
      exact ⟨by kernel_rfl, fun j t ht => by
        rw [Tryd.params4] at ht
        have hm : t ∈ [33] := by simpa using Array.mem_of_getElem? ht
        have hall : ([33].all fun u => !Tryd.prog.wantsStandIn u) = true := by kernel_rfl
        exact (show Tryd.prog.wantsStandIn t = false by simpa using List.all_eq_true.1 hall t hm)⟩)
    (by kernel_rfl)
#print axioms proved
end Go.Proofs.YtaodbpejeglmlaaDoor.fnExactStoveText
