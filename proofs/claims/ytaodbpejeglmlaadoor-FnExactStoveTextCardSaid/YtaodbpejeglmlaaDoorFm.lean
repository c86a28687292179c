/- What the shelf's strconv.FormatInt asks of this program, and a contract of it for small numbers. Nothing is assumed. -/
import Derived.Test.YtaodbpejeglmlaaDoorNum
import Derived.Test.YtaodbpejeglmlaaDoorGl
import Derived.Shelf.Strconv.Itoa4
namespace Go.Proofs.YtaodbpejeglmlaaDoor.Fm
open Go Go.Shelf
noncomputable section
def ρ : Ren := ⟨fun i => match i with
  | 129 => 78
  | 173 => 48
  | 246 => 64
  | 283 => 70
  | 284 => 71
  | 285 => 72
  | 286 => 73
  | 317 => 77
  | 318 => 79
  | 319 => 80
  | 320 => 81
  | 337 => 84
  | 338 => 85
  | _ => 0, fun i => match i with
  | 0 => 0
  | 2 => 2
  | 3 => 3
  | 4 => 4
  | 5 => 5
  | 9 => 9
  | 20 => 20
  | 37 => 80
  | 46 => 97
  | 51 => 81
  | 53 => 105
  | 171 => 104
  | 173 => 108
  | 212 => 116
  | 213 => 117
  | 232 => 123
  | 233 => 124
  | _ => 0, fun i => match i with
  | 17 => 1
  | 18 => 3
  | 19 => 4
  | _ => 0⟩
set_option maxRecDepth 100000 in
theorem lays : Lays.n173 Tryd.prog ρ where
  mixed := mixed
  f129 := by kernel_rfl
  f173 := by kernel_rfl
  f246 := by kernel_rfl
  f283 := by kernel_rfl
  f284 := by kernel_rfl
  f285 := by kernel_rfl
  f286 := by kernel_rfl
  f317 := by kernel_rfl
  f318 := by kernel_rfl
  f319 := by kernel_rfl
  f320 := by kernel_rfl
  f337 := by kernel_rfl
  f338 := by kernel_rfl
  t0 := by kernel_rfl
  a0 := fun w => by kernel_rfl
  z0 := fun w => by kernel_rfl
  v0 := fun w => by kernel_rfl
  t2 := by kernel_rfl
  a2 := fun w => by kernel_rfl
  z2 := fun w => by kernel_rfl
  v2 := fun w => by kernel_rfl
  t3 := by kernel_rfl
  a3 := fun w => by kernel_rfl
  z3 := fun w => by kernel_rfl
  v3 := fun w => by kernel_rfl
  t4 := by kernel_rfl
  a4 := fun w => by kernel_rfl
  z4 := fun w => by kernel_rfl
  v4 := fun w => by kernel_rfl
  t5 := by kernel_rfl
  a5 := fun w => by kernel_rfl
  z5 := fun w => by kernel_rfl
  v5 := fun w => by kernel_rfl
  t9 := by kernel_rfl
  a9 := fun w => by kernel_rfl
  z9 := fun w => by kernel_rfl
  v9 := fun w => by kernel_rfl
  t20 := by kernel_rfl
  a20 := fun w => by kernel_rfl
  z20 := fun w => by kernel_rfl
  v20 := fun w => by kernel_rfl
  t37 := by kernel_rfl
  a37 := fun w => by kernel_rfl
  z37 := fun w => by kernel_rfl
  v37 := fun w => by kernel_rfl
  t46 := by kernel_rfl
  a46 := fun w => by kernel_rfl
  z46 := fun w => by kernel_rfl
  v46 := fun w => by kernel_rfl
  t51 := by kernel_rfl
  a51 := fun w => by kernel_rfl
  z51 := fun w => by kernel_rfl
  v51 := fun w => by kernel_rfl
  t53 := by kernel_rfl
  a53 := fun w => by kernel_rfl
  z53 := fun w => by kernel_rfl
  v53 := fun w => by kernel_rfl
  t171 := by kernel_rfl
  a171 := fun w => by kernel_rfl
  z171 := fun w => by kernel_rfl
  v171 := fun w => by kernel_rfl
  t173 := by kernel_rfl
  a173 := fun w => by kernel_rfl
  z173 := fun w => by kernel_rfl
  v173 := fun w => by kernel_rfl
  t212 := by kernel_rfl
  a212 := fun w => by kernel_rfl
  z212 := fun w => by kernel_rfl
  v212 := fun w => by kernel_rfl
  t213 := by kernel_rfl
  a213 := fun w => by kernel_rfl
  z213 := fun w => by kernel_rfl
  t232 := by kernel_rfl
  a232 := fun w => by kernel_rfl
  z232 := fun w => by kernel_rfl
  v232 := fun w => by kernel_rfl
  t233 := by kernel_rfl
  a233 := fun w => by kernel_rfl
  z233 := fun w => by kernel_rfl
  v233 := fun w => by kernel_rfl
  g17 := by kernel_rfl
  g18 := by kernel_rfl
  g19 := by kernel_rfl
set_option maxRecDepth 100000 in
theorem laysM : LaysM.n173 Tryd.prog ρ := { lays with
  i0 := by kernel_rfl,
  i2 := by kernel_rfl,
  i3 := by kernel_rfl,
  i4 := by kernel_rfl,
  i5 := by kernel_rfl,
  i9 := by kernel_rfl,
  i20 := by kernel_rfl,
  i37 := by kernel_rfl,
  i46 := by kernel_rfl,
  i51 := by kernel_rfl,
  i53 := by kernel_rfl,
  i171 := by kernel_rfl,
  i173 := by kernel_rfl,
  i212 := by kernel_rfl,
  i232 := by kernel_rfl,
  i233 := by kernel_rfl,
  m17 := by kernel_rfl,
  m18 := by kernel_rfl,
  m19 := by kernel_rfl }
theorem gN : Tryd.prog.globalNamed "internal/strconv.uint64pow10" = some 1 := by kernel_rfl
theorem tab_is {w : World} (h : Tab w) : Go.Lib.TabIs Tryd.prog w "internal/strconv.uint64pow10" .u64 Go.Lib.pow10Tab := by
  obtain ⟨T, fr, e⟩ := h 1 rfl
  unfold Go.Lib.TabIs World.var?
  rw [gN]
  simp only [Option.bind_some, e]
  unfold tabCells Go.Lib.pow10Tab
  rw [List.map_map]
  rfl
/-- The library's table, laid. -/
theorem tab_of {w : World} (h : Go.Lib.TabIs Tryd.prog w "internal/strconv.uint64pow10" .u64 Go.Lib.pow10Tab) : Tab w := by
  intro b hb
  cases hb
  unfold Go.Lib.TabIs World.var? at h
  rw [gN] at h
  simp only [Option.bind_some] at h
  split at h
  · rename_i cs T fr e
    cases h
    refine ⟨T, fr, ?_⟩
    rw [e]
    unfold tabCells Go.Lib.pow10Tab
    rw [List.map_map]
    rfl
  · cases h
/-- A number's text. -/
def decT (n : Int) : ByteArray := ⟨(Go.Lib.decDigits n.toNat).toArray⟩
def okF (n : Int) : Bool := decide (0 ≤ n ∧ n < 10000000)
def fmtS : CS := fun base args rd => match args with
  | [.c (.int .i64 n), .c (.int .i64 (.c (.ofNat b)))] => match Nat.beq b 10 with
    | true => some ⟨.c (.str (decT n.val)), [], base, [okF n.val]⟩
    | false => none
  | _ => none
set_option maxRecDepth 100000 in
theorem cFmt : CallOK Tryd.prog 48 fmtS := by
  intro E base args vals rd w e hs hob hargs hb1 hbe hfr hmem
  unfold fmtS at hs
  split at hs <;> try (cases hs; done)
  rename_i n b
  split at hs <;> cases hs
  rename_i hb10
  have hb10' := beqN.1 hb10
  subst hb10'
  have hr := of_decide_eq_true hob.head
  obtain ⟨l⟩ := vals
  match l, hargs with
  | [v, u], hargs =>
    have hv : v = .int .i64 n.val := hargs.1
    have hu : u = .int .i64 10 := hargs.2.1
    subst hv; subst hu
    have e1 : Go.Lib.itoa n.val = Go.Lib.decDigits n.val.toNat := by unfold Go.Lib.itoa; rw [if_neg (by omega)]
    have hc : Calls Tryd.prog 48 #[.int .i64 n.val, .int .i64 10] w (fun e w'' => ∃ v, e = .returned v ∧ CallPost E base rd w ⟨.c (.str (decT n.val)), [], base, [okF n.val]⟩ v w'') :=
      (Any.strconv_FormatInt_10 laysM n.val (by omega) (by omega) w (tab_is hmem.tab.1)).mono fun e w' ⟨he, k, os, hw⟩ => ⟨_, he, by
        rw [e1]
        have hsame : ∀ b, b < w.heap.size → w'.heap[b]? = w.heap[b]? := fun b hb => by
          rw [hw]
          show (w.heap ++ os)[b]? = _
          rw [Array.getElem?_append_left hb]
        refine ⟨E, Ext.refl E, fun i hi => .inl hi, rfl, fun j gj hgj => ?_, hmem.disj, hmem.tch, ⟨by rw [hw]; rfl, by rw [hw]; rfl, ?_, fun b hb => .inr (hsame b hb), fun hn => hn.elim⟩, hmem.tab⟩
        · obtain ⟨b3, o3, z3, cs3, T3, fr3, e3, s3⟩ := hmem.segs j gj hgj
          exact ⟨b3, o3, z3, cs3, T3, fr3, e3, { s3 with heap := (hsame b3 (lt_of_heap s3.heap)).trans s3.heap }⟩
        · rw [hw]
          show w.heap.size ≤ (w.heap ++ os).size
          rw [Array.size_append]; omega⟩
    have hrun : (callFunc 48 #[.int .i64 n.val, .int .i64 10]).run Tryd.prog w = .ok (.enter 48 #[.int .i64 n.val, .int .i64 10]) w := by
      have hb : Tryd.f48.body.isSome = true := by kernel_rfl
      have hne : ¬ Tryd.f48.name = "runtime.NumGoroutine" := by
        have : (Tryd.f48.name == "runtime.NumGoroutine") = false := by kernel_rfl
        simpa using this
      obtain ⟨c, hc⟩ := Option.isSome_iff_exists.1 hb
      simp [callFunc, Tryd.func48, hne, hc]
    show NextOK Tryd.prog ((callFunc 48 #[.int .i64 n.val, .int .i64 10]).run Tryd.prog w) _
    rw [hrun]
    exact hc
end
end Go.Proofs.YtaodbpejeglmlaaDoor.Fm
