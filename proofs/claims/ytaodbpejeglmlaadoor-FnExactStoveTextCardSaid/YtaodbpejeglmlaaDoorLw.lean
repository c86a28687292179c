/- From a contract to a law's walk, where arguments lead to memory. Nothing is assumed. -/
import Derived.Test.YtaodbpejeglmlaaDoorAg
import Derived.Test.YtaodbpejeglmlaaDoorRn
namespace Go.Proofs.YtaodbpejeglmlaaDoor
open Go Go.RowKit

/-- A law whose arguments lead to memory that it only reads. -/
theorem law_mem {P : Program} {f : FuncId} {S : CS} (h : CallOK P f S) {fn : Func} (hf : P.funcs[f]? = some fn) (hname : (fn.name == "runtime.NumGoroutine") = false) (hb : fn.body.isSome = true) {args : List SV} {vals : Array Value} {e : CEff} {b : SB} {E : EM} {rd : List (Nat × Seg)} {n : Nat} {w : World}
    (he : S n args rd = some e) (hob : AllT e.obs) (hret : e.ret = .c (.bool b)) (hbv : b.val = true) (h1 : 1 ≤ n) (hn : n ≤ e.next) (hvals : RelVs E args vals.toList) (hE : ∀ i, n ≤ i → E i = none) (hro : ∀ i g, findS i rd = some g → g.rw = false) (hm : MemRel w (Tch E rd) E (fun i => findS i rd) w) :
    Calls P f vals w fun e w' => e = .returned (.bool true) ∧ Grown w w' := by
  refine (calls_of hf hname hb (h E n args vals rd w e he hob hvals h1 hn (fun i hi _ => hE i hi) hm)).mono fun x w' hx => ?_
  obtain ⟨v, hv, E', k1, k2, k3, k4⟩ := hx
  rw [hret] at k3
  have k3' : v = .bool b.val := k3
  rw [hbv] at k3'
  refine ⟨by rw [hv, k3'], grown_of k4.fr fun b k _ ⟨i, g, o, z, hg, hrw, _⟩ => ?_⟩
  rw [hro i g hg] at hrw; cases hrw

/-! ### several slices -/
structure SA where
  v : Value
  n : Nat
  ts : List KK
  F : Nat → Int → Nat
  G : Nat → Int → Int
  B : Nat → Int → Bool
def SA.ok (w : World) (s : SA) : Prop := SlArg w s.ts.length s.ts s.v s.n s.F s.G s.B
def SA.row (s : SA) (j : Int) : List SC := mkL (fun c => s.F c j) (fun c => s.G c j) (fun c => s.B c j) s.ts 0
def SA.seg (s : SA) : Seg := ⟨false, false, .rows s.ts.length s.n s.row⟩
/-- The rows, one behind the other. -/
def cat (row : Int → List SC) : Nat → Nat → List SC
  | _, 0 => []
  | i, n + 1 => row i ++ cat row (i + 1) n
def SA.segC (s : SA) : Seg := ⟨false, false, .cells (cat s.row 0 s.n)⟩
def SA.arg (s : SA) (i : Nat) : SC := .sl i 0 s.ts.length (.s s.n) false
def SA.argC (s : SA) (i : Nat) : SC := .sl i 0 s.ts.length (.c s.n) false
theorem cat_len {row : Int → List SC} {es : Nat} (h : ∀ j, (row j).length = es) : ∀ i n, (cat row i n).length = es * n
  | _, 0 => by simp [cat]
  | i, n + 1 => by rw [cat, List.length_append, h, cat_len h (i + 1) n, Nat.mul_succ]; omega
theorem cat_get {row : Int → List SC} {es : Nat} (hp : 0 < es) (h : ∀ j, (row j).length = es) : ∀ n i k, k < es * n → (cat row i n).getD k .any = (row ((i + k / es : Nat) : Int)).getD (k % es) .any
  | 0, i, k, hk => by simp at hk
  | n + 1, i, k, hk => by
    rw [cat, List.getD_eq_getElem?_getD, List.getElem?_append, h]
    split
    · rename_i hl
      rw [Nat.div_eq_of_lt hl, Nat.mod_eq_of_lt hl, ← List.getD_eq_getElem?_getD]; rfl
    · rename_i hl
      rw [← List.getD_eq_getElem?_getD, cat_get hp h n (i + 1) (k - es) (by rw [Nat.mul_succ] at hk; omega)]
      have e : k = (k - es) + es := by omega
      have e1 : k / es = (k - es) / es + 1 := by
        conv => lhs; rw [e]
        exact Nat.add_div_right _ hp
      have e2 : k % es = (k - es) % es := by
        conv => lhs; rw [e]
        exact Nat.add_mod_right _ _
      rw [e1, e2]
      congr 2; omega
theorem seg_cells (s : SA) (hp : 0 < s.ts.length) : SegLe s.seg s.segC := by
  have hl : ∀ j, (s.row j).length = s.ts.length := fun j => mkL_len _ _ _ _ _
  refine ⟨id, id, ?_, fun E k v hk hv => ?_⟩
  · show (cat s.row 0 s.n).length = s.ts.length * (s.n : Int).toNat
    rw [cat_len hl, Int.toNat_natCast]
  · have hk' : k < s.ts.length * s.n := hk
    show RelC E ((cat s.row 0 s.n).getD k .any) v
    rw [cat_get hp hl s.n 0 k hk', Nat.zero_add]
    exact hv
/-- Where the slices lie: 'd' is a block that stands. -/
noncomputable def plc (d : Nat) (s : SA) : Nat × Nat × Nat :=
  match s.v with
  | .slice (some a) n cap => if cap = 0 then (d, 0, 0) else (a.block, a.off, n * s.ts.length)
  | _ => (d, 0, 0)
noncomputable def emOf (d : Nat) (l : List SA) : EM := fun i => if i = 0 then none else (l[i - 1]?).map (plc d)
theorem emOf_get {d : Nat} {l : List SA} {i : Nat} {s : SA} (h : l[i]? = some s) : emOf d l (i + 1) = some (plc d s) := by
  unfold emOf
  rw [if_neg (by omega), Nat.add_sub_cancel, h]; rfl
theorem emOf_none {d : Nat} {l : List SA} {i : Nat} (h : l.length + 1 ≤ i) : emOf d l i = none := by
  unfold emOf
  rw [if_neg (by omega), List.getElem?_eq_none (by omega)]; rfl
def rdOf : List SA → Nat → List (Nat × Seg)
  | [], _ => []
  | s :: l, i => (i, s.seg) :: rdOf l (i + 1)
theorem findS_rdOf : ∀ {l : List SA} {i j : Nat} {g : Seg}, findS j (rdOf l i) = some g → i ≤ j ∧ ∃ s, l[j - i]? = some s ∧ g = s.seg
  | [], i, j, g, h => by cases h
  | s :: l, i, j, g, h => by
    simp only [rdOf, findS] at h
    split at h
    · rename_i hb; cases h
      rw [beqN] at hb; subst hb
      exact ⟨Nat.le_refl _, s, by simp, rfl⟩
    · obtain ⟨h1, s', h2, h3⟩ := findS_rdOf h
      refine ⟨by omega, s', ?_, h3⟩
      rw [show j - i = (j - (i + 1)) + 1 by omega, List.getElem?_cons_succ]; exact h2
theorem SA.rel {w : World} {d : Nat} {l : List SA} {s : SA} {i : Nat} (hi : l[i]? = some s) (h : s.ok w) : RelC (emOf d l) (s.arg (i + 1)) s.v := by
  obtain ⟨b, cap, hv, h1, h2, h3⟩ := h.len
  refine ⟨b, s.n, cap, hv, rfl, h1, h3, fun a ha => ⟨by omega, ?_⟩⟩
  subst ha
  refine ⟨(plc d s).1, (plc d s).2.1, (plc d s).2.2, emOf_get hi, fun hcap => ?_, fun hf => by cases hf⟩
  rcases h.none_ with ⟨b, h0⟩ | ⟨b, o, cap', cs, T, fr, hv', hne, hh, hfit, hc⟩
  · rw [hv] at h0; cases h0; exact absurd rfl hcap
  · rw [hv] at hv'; cases hv'
    unfold plc; rw [hv]
    simp [hcap]
/-- A block stands. -/
def Stands (w : World) (d : Nat) : Prop := ∃ cs T fr, w.heap[d]? = some (.cells cs T fr)
theorem SA.segAt {w : World} {d : Nat} {E : EM} {s : SA} (hp : 0 < s.ts.length) (h : s.ok w) (hd : Stands w d) : ∃ cs T fr, SegAt E (plc d s).1 (plc d s).2.1 (plc d s).2.2 s.seg w cs T fr := by
  rcases h.none_ with ⟨b, h0⟩ | ⟨b, o, cap', cs, T, fr, hv', hne, hh, hfit, hc⟩
  · obtain ⟨cs, T, fr, hd⟩ := hd
    have hn : s.n = 0 := by
      obtain ⟨b', cap, hv, h1, _⟩ := h.len
      rw [h0] at hv; cases hv; omega
    have hpl : plc d s = (d, 0, 0) := by
      unfold plc; rw [h0]; cases b <;> simp
    have hl : s.seg.body.len = 0 := by
      show s.ts.length * (s.n : Int).toNat = 0
      rw [hn]; simp
    rw [hpl]
    exact ⟨cs, T, fr, hd, by rw [hl]; exact Nat.le_refl _, by simp, fun ho => (by cases ho), fun hr => (by cases hr), fun k hk => (by rw [hl] at hk; omega)⟩
  · have hpl : plc d s = (b, o, s.n * s.ts.length) := by
      unfold plc; rw [hv']; simp [hne]
    have hl : s.seg.body.len = s.ts.length * s.n := by
      show s.ts.length * (s.n : Int).toNat = _
      rw [Int.toNat_natCast]
    rw [hpl]
    refine ⟨cs, T, fr, hh, by rw [hl, Nat.mul_comm]; exact Nat.le_refl _, hfit, fun ho => (by cases ho), fun hr => (by cases hr), fun k hk => ?_⟩
    rw [hl] at hk
    obtain ⟨u, h1, h2⟩ := hc E k hk
    exact ⟨u, h1, h2⟩
/-- The memory that slices lead to. -/
theorem mem_of {w : World} {d : Nat} {l : List SA} (h : ∀ s ∈ l, s.ok w ∧ 0 < s.ts.length) (hd : Stands w d)
    (htab : Tab w)
    : MemRel w (Tch (emOf d l) (rdOf l 1)) (emOf d l) (fun i => findS i (rdOf l 1)) w := by
  have ro : ∀ i g, findS i (rdOf l 1) = some g → g.rw = false := fun i g hg => by
    obtain ⟨_, s, _, rfl⟩ := findS_rdOf hg; rfl
  refine ⟨fun i g hg => ?_, fun i j g k b o z b' o' z' _ hg hk hr => ?_, fun i g b o z hg hr => ?_, Fr.refl _ _, htab, fun b k _ ⟨i, g, o, z, hg, hr, _⟩ => by rw [ro i g hg] at hr; cases hr⟩
  · obtain ⟨h1, s, h2, rfl⟩ := findS_rdOf hg
    obtain ⟨h3, h4⟩ := h s (List.mem_of_getElem? h2)
    obtain ⟨cs, T, fr, h5⟩ := SA.segAt (E := emOf d l) h4 h3 hd
    refine ⟨_, _, _, cs, T, fr, ?_, h5⟩
    have := emOf_get (d := d) h2
    rw [show i - 1 + 1 = i by omega] at this
    exact this
  · rw [ro i g hg, ro j k hk] at hr
    rcases hr with hr | hr <;> cases hr
  · rw [ro i g hg] at hr; cases hr
/-- One of some slices leads to a block, or none has a cell. -/
theorem stands_or {w : World} {l : List SA} (h : ∀ s ∈ l, s.ok w) : (∃ d, Stands w d) ∨ ∀ s ∈ l, s.n = 0 := by
  by_cases hd : ∃ d, Stands w d
  · exact .inl hd
  · refine .inr fun s hs => ?_
    rcases (h s hs).none_ with ⟨b, h0⟩ | ⟨b, o, cap', cs, T, fr, _, _, hh, _⟩
    · obtain ⟨b', cap, hv, h1, _⟩ := (h s hs).len
      rw [h0] at hv; cases hv; omega
    · exact absurd ⟨b, cs, T, fr, hh⟩ hd
/-- A slice without cells. -/
theorem SA.rel0 {w : World} {E : EM} {s : SA} {i : Nat} (h : s.ok w) (h0 : s.n = 0) (hd : ¬ ∃ d, Stands w d) (hi : i ≠ 0) (hE : E i = some (0, 0, 0)) : RelC E (.sl i 0 s.ts.length (.c 0) false) s.v := by
  obtain ⟨b, cap, hv, h1, h2, h3⟩ := h.len
  refine ⟨b, s.n, cap, hv, by rw [h0]; rfl, h1, h3, fun a ha => ⟨hi, 0, 0, 0, hE, fun hc => ?_, fun hf => by cases hf⟩⟩
  rcases h.none_ with ⟨b, h0⟩ | ⟨b, o, cap', cs, T, fr, _, _, hh, _⟩
  · rw [hv] at h0; cases h0; exact absurd rfl hc
  · exact absurd ⟨b, cs, T, fr, hh⟩ hd
end Go.Proofs.YtaodbpejeglmlaaDoor
