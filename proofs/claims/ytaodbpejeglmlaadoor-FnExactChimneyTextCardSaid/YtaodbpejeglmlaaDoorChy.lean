/- Chimneys: validity, sameness, with any number of flues. Nothing is assumed. -/
import Derived.Test.YtaodbpejeglmlaaDoorSlFlue
import Derived.Test.YtaodbpejeglmlaaDoorFlu
import Derived.Test.YtaodbpejeglmlaaDoorLw
import Derived.Test.YtaodbpejeglmlaaDoorHp
namespace Go.Proofs.YtaodbpejeglmlaaDoor.Chy
open Go SlFlue
noncomputable section
noncomputable def hint (l : List (Nat × Bool)) (t : Nat) : Option Bool := List.rec (motive := fun _ => Option Bool) none (fun p _ ih => bif Nat.beq t p.1 then some p.2 else ih) l
noncomputable def bnd (n k : Int) : Bool := decide (0 ≤ k ∧ k < n)
theorem bnd_ok {n k : Int} (h0 : 0 ≤ k) (h1 : k < n) : bnd n k = true := by unfold bnd; simp; omega
theorem AllT.one {b : Bool} (h : b = true) : AllT [b] := AllT.cons h AllT.nil
theorem wrap_in {x : Int} (h0 : -9223372036854775808 ≤ x) (h1 : x < 9223372036854775808) : IntKind.i64.wrap x = x := by
  unfold IntKind.wrap
  have hb : IntKind.bits IntKind.i64 = 64 := rfl
  have hs : IntKind.signed IntKind.i64 = true := rfl
  rw [hb, hs]
  by_cases hx : 0 ≤ x
  · have e : x % 2 ^ 64 = x := Int.emod_eq_of_lt hx (by omega)
    rw [e]
    simp; omega
  · have e : x % 2 ^ 64 = x + 18446744073709551616 := by omega
    rw [e]
    simp; omega
/-! ### validity -/
noncomputable def LV (O : FOps) : List (Nat × CS) := [(33, gS (flueG O)), (30, gQ [.p 5] (flueG O))]
set_option maxRecDepth 100000 in
theorem okLV : AllOK Tryd.prog (LV fops) := ⟨cFlueI, cFlueL, trivial⟩
noncomputable def cxV (O : FOps) : Cx := ⟨Tryd.prog, O, orcN Tryd.prog O (LV O) 8⟩
noncomputable def fk (O : FOps) (F : Nat → Int → Nat) (k : Int) : Bool := flueB O (F 0 k) (F 1 k) (F 2 k) (F 3 k)
noncomputable def bI (n k x y : Int) : Bool := bif decide (x < 0) then true else bif decide (n ≤ x) then true else bif decide (x = k) then true else !decide (y = -1)
noncomputable def inS (n x : Int) : Bool := bif decide (0 ≤ x) then decide (x ≤ IntKind.i64.wrap (n - 1)) else false
noncomputable def bS (n k x y : Int) : Bool := bif !inS n x then true else bif decide (x = k) then true else !decide (y = -1)
theorem inS_eq {n : Int} (h0 : 0 ≤ n) (h1 : n ≤ 1048576) (x : Int) : inS n x = bif decide (x < 0) then false else !decide (n ≤ x) := by
  unfold inS
  rw [wrap_in (by omega) (by omega)]
  by_cases h : x < 0
  · rw [decide_eq_true h, decide_eq_false (by omega : ¬ 0 ≤ x)]; rfl
  · rw [decide_eq_false h, decide_eq_true (by omega : 0 ≤ x)]
    by_cases h2 : n ≤ x
    · rw [decide_eq_true h2, decide_eq_false (by omega : ¬ x ≤ n - 1)]; rfl
    · rw [decide_eq_false h2, decide_eq_true (by omega : x ≤ n - 1)]; rfl
theorem bS_eq {n : Int} (h0 : 0 ≤ n) (h1 : n ≤ 1048576) (k x y : Int) : bS n k x y = bI n k x y := by
  unfold bS bI
  rw [inS_eq h0 h1]
  cases decide (x < 0) <;> cases decide (n ≤ x) <;> rfl
/-- A flue of the chimney is as it must be. -/
noncomputable def qC (O : FOps) (n : Int) (F : Nat → Int → Nat) (G : Nat → Int → Int) (k : Int) : Bool := bif fk O F k then (bif decide (G 4 k = -1) then true else !bI n k (G 4 k) (G 4 (G 4 k))) else false
noncomputable def hdI (n k : Int) : List Bool := [decide (k < n), bnd n k, bnd n k]
noncomputable def idI (n k x : Int) : List Bool := gdB (decide (x < 0)) (gdB (decide (n ≤ x)) (gdB (decide (x = k)) [bnd n x, bnd n x]))
noncomputable def idS (n k x : Int) : List Bool := [bnd n k, bnd n k] ++ gdB (!inS n x) [bnd n k, bnd n k] ++ gdB (!inS n x) (gdB (decide (x = k)) [bnd n k, bnd n k, bnd n x, bnd n x])
theorem hdI_ok {n k : Int} (h0 : 0 ≤ k) (h1 : k < n) : AllT (hdI n k) := AllT.cons (by simpa using h1) (AllT.cons (bnd_ok h0 h1) (AllT.one (bnd_ok h0 h1)))
theorem idI_ok (n k x : Int) : AllT (idI n k x) := gdB_ok fun e1 => gdB_ok fun e2 => gdB_ok fun _ => by
  have h1 := of_decide_eq_false e1
  have h2 := of_decide_eq_false e2
  exact AllT.cons (bnd_ok (by omega) (by omega)) (AllT.one (bnd_ok (by omega) (by omega)))
theorem idS_ok {n k : Int} (h0 : 0 ≤ k) (h1 : k < n) (hn : n ≤ 1048576) (x : Int) : AllT (idS n k x) := by
  have b := bnd_ok h0 h1
  refine AllT.app (AllT.app (AllT.cons b (AllT.one b)) (gdB_ok fun _ => AllT.cons b (AllT.one b))) (gdB_ok fun e => gdB_ok fun _ => ?_)
  have e' : inS n x = true := by simpa using e
  rw [inS_eq (by omega) hn] at e'
  have hx : bnd n x = true := by
    by_cases h2 : x < 0
    · rw [decide_eq_true h2] at e'; cases e'
    · by_cases h3 : n ≤ x
      · rw [decide_eq_false h2, decide_eq_true h3] at e'; cases e'
      · exact bnd_ok (by omega) (by omega)
  exact AllT.cons b (AllT.cons b (AllT.cons hx (AllT.one hx)))
noncomputable def skR : Sk := ⟨[(2, .c (.boolc false))], [], 2⟩
noncomputable def skE : Sk := ⟨[], [], 2⟩
/-! ### impl.ValidChimney -/
noncomputable def skI : Sk := ⟨[(0, .c (.sl 1 0 5 false)), (13, .c (.sl 1 0 5 false)), (14, .c (.int .i64)), (15, .c (.int .i64))], [(1, ⟨false, false, .rows 5⟩)], 2⟩
noncomputable def NI : Nat := Tryd.f18.ntmps
noncomputable def goI (O : FOps) (h : List (Nat × Bool)) (s : Sk) (F : Nat → Int → Nat) (G : Nat → Int → Int) (n k : Int) : Option (Option XK × List LD × List Bool) :=
  goL (cxV O) NI ⟨hint h, fun _ => none⟩ (bodyOf Tryd.f18 4) 2 60 skI [] s [.i n, .i n, .i n, .i k, .i n, .r (Row F G)]
noncomputable def hIa : List (Nat × Bool) := [(16, true), (22, false), (25, true)]
noncomputable def hIb : List (Nat × Bool) := [(16, true), (22, false), (25, false), (50, false)]
noncomputable def hIc : List (Nat × Bool) := [(16, true), (22, true)]
noncomputable def hId : List (Nat × Bool) := [(16, true), (22, false), (25, false), (50, true)]
noncomputable def hIe : List (Nat × Bool) := [(16, false)]
set_option maxRecDepth 100000 in
theorem raI (O : FOps) (F : Nat → Int → Nat) (G : Nat → Int → Int) (n k : Int) : goI O hIa skI F G n k = some (none, [.i n, .i n, .i n, .i (IntKind.i64.wrap (k + 1)), .i n, .r (Row F G)], hdI n k ++ ([!!fk O F k] ++ ([] : List Bool) ++ [decide (G 4 k = -1), flatR (Row F G)])) := by kernel_rfl
set_option maxRecDepth 100000 in
theorem rbI (O : FOps) (F : Nat → Int → Nat) (G : Nat → Int → Int) (n k : Int) : goI O hIb skI F G n k = some (none, [.i n, .i n, .i n, .i (IntKind.i64.wrap (k + 1)), .i n, .r (Row F G)], hdI n k ++ ([!!fk O F k] ++ ([] : List Bool) ++ [!decide (G 4 k = -1)] ++ idI n k (G 4 k) ++ [!bI n k (G 4 k) (G 4 (G 4 k)), flatR (Row F G)])) := by kernel_rfl
set_option maxRecDepth 100000 in
theorem rcI (O : FOps) (F : Nat → Int → Nat) (G : Nat → Int → Int) (n k : Int) : goI O hIc skR F G n k = some (some .ret, [], hdI n k ++ [!fk O F k]) := by kernel_rfl
set_option maxRecDepth 100000 in
theorem rdI (O : FOps) (F : Nat → Int → Nat) (G : Nat → Int → Int) (n k : Int) : goI O hId skR F G n k = some (some .ret, [], hdI n k ++ ([!!fk O F k] ++ ([] : List Bool) ++ [!decide (G 4 k = -1)] ++ idI n k (G 4 k) ++ [bI n k (G 4 k) (G 4 (G 4 k))])) := by kernel_rfl
set_option maxRecDepth 100000 in
theorem reI (O : FOps) (F : Nat → Int → Nat) (G : Nat → Int → Int) (n k : Int) : goI O hIe skE F G n k = some (some (.exit 0), [], [!decide (k < n)]) := by kernel_rfl
theorem loI (F : Nat → Int → Nat) (G : Nat → Int → Int) (n : Int) (hn : n ≤ 1048576) : ∀ (m : Nat) (k : Int), 0 ≤ k → k + m = n →
    (eqFrom (qC fops n F G) k m = true → Loops (cxV fops) NI (fun _ => none) (bodyOf Tryd.f18 4) 2 60 skI [.i n, .i n, .i n, .i k, .i n, .r (Row F G)] (.exit 0) skE []) ∧
    (eqFrom (qC fops n F G) k m = false → Loops (cxV fops) NI (fun _ => none) (bodyOf Tryd.f18 4) 2 60 skI [.i n, .i n, .i n, .i k, .i n, .r (Row F G)] .ret skR []) := by
  have fl : flatR (Row F G) = true := rowK_flat _ _ _
  intro m
  induction m with
  | zero =>
    intro k hk hkn
    have e : k = n := by omega
    subst e
    refine ⟨fun _ => .done (ts := hint hIe) (ρ := []) (reI fops F G k k) (AllT.one (by simp)), fun h => by cases h⟩
  | succ m ih =>
    intro k hk hkn
    have hlt : k < n := by omega
    obtain ⟨i1, i2⟩ := ih (k + 1) (by omega) (by omega)
    have hE : eqFrom (qC fops n F G) k (m + 1) = bif qC fops n F G k then eqFrom (qC fops n F G) (k + 1) m else false := rfl
    have hq : qC fops n F G k = bif fk fops F k then (bif decide (G 4 k = -1) then true else !bI n k (G 4 k) (G 4 (G 4 k))) else false := rfl
    have hh := hdI_ok hk hlt
    have hb := bnd_ok hk hlt
    have hm : AllT ([] : List Bool) := AllT.nil
    rw [hE, hq]
    cases hf : fk fops F k with
    | false => exact ⟨fun h => (by cases h), fun _ => .done (ts := hint hIc) (ρ := []) (rcI fops F G n k) (AllT.app hh (AllT.one (by rw [hf]; rfl)))⟩
    | true =>
      cases hx : decide (G 4 k = -1) with
      | true =>
        have h1 := raI fops F G n k
        rw [wrap_succ hk (by omega)] at h1
        have ho : AllT (hdI n k ++ ([!!fk fops F k] ++ ([] : List Bool) ++ [decide (G 4 k = -1), flatR (Row F G)])) := AllT.app hh (AllT.app (AllT.app (AllT.one (by rw [hf]; rfl)) hm) (AllT.cons hx (AllT.one fl)))
        exact ⟨fun h => .step (ts := hint hIa) (ρ := []) h1 ho (i1 h), fun h => .step (ts := hint hIa) (ρ := []) h1 ho (i2 h)⟩
      | false =>
        have hid : AllT (idI n k (G 4 k)) := idI_ok _ _ _
        have hbb : bI n k (G 4 k) (G 4 (G 4 k)) = bI n k (G 4 k) (G 4 (G 4 k)) := rfl
        cases hy : bI n k (G 4 k) (G 4 (G 4 k)) with
        | false =>
          have h1 := rbI fops F G n k
          rw [wrap_succ hk (by omega)] at h1
          have ho : AllT (hdI n k ++ ([!!fk fops F k] ++ ([] : List Bool) ++ [!decide (G 4 k = -1)] ++ idI n k (G 4 k) ++ [!bI n k (G 4 k) (G 4 (G 4 k)), flatR (Row F G)])) := AllT.app hh (AllT.app (AllT.app (AllT.app (AllT.app (AllT.one (by rw [hf]; rfl)) hm) (AllT.one (by rw [hx]; rfl))) hid) (AllT.cons (by rw [hbb, hy]; rfl) (AllT.one fl)))
          exact ⟨fun h => .step (ts := hint hIb) (ρ := []) h1 ho (i1 h), fun h => .step (ts := hint hIb) (ρ := []) h1 ho (i2 h)⟩
        | true =>
          have ho : AllT (hdI n k ++ ([!!fk fops F k] ++ ([] : List Bool) ++ [!decide (G 4 k = -1)] ++ idI n k (G 4 k) ++ [bI n k (G 4 k) (G 4 (G 4 k))])) := AllT.app hh (AllT.app (AllT.app (AllT.app (AllT.app (AllT.one (by rw [hf]; rfl)) hm) (AllT.one (by rw [hx]; rfl))) hid) (AllT.one (by rw [hbb, hy])))
          exact ⟨fun h => (by cases h), fun _ => .done (ts := hint hId) (ρ := []) (rdI fops F G n k) ho⟩
def PI (n n1 n2 k N : Int) (row : Int → List SC) : Prop := n1 = n ∧ n2 = n ∧ k = 0 ∧ N = n ∧ 0 ≤ n ∧ n ≤ 1048576 ∧ Shape ts row
noncomputable def FI (O : FOps) : List LD → Option (XO × List Bool)
  | [.i n, .i n1, .i n2, .i k, .i N, .r row] => some ([(.s (!eqFrom (qC O n (datF row) (datG row)) 0 n.toNat), .ret, skR, []), (.t, .exit 0, skE, [])], [pB (PI n n1 n2 k N row)])
  | _ => none
noncomputable def LIv (O : FOps) : List Ly → Top → Option Outs := orIter (cxV O) NI (bodyOf Tryd.f18 4) (loopL NI 2 60 skI [] (FI O))
set_option maxRecDepth 100000 in
theorem okI : CodeOK Tryd.prog NI (.loop (bodyOf Tryd.f18 4)) (LIv fops) := by
  refine orIter_ok (l := LV fops) okLV mixed 8 (loopL_ok (cx := cxV fops) (lp := fun _ => none) (fun ts => body_ok (l := LV fops) okLV mixed 8 _ ts) fun p r hr hob => ?_)
  unfold FI at hr
  split at hr <;> cases hr
  rename_i n n1 n2 k N row
  obtain ⟨f0, f1, e1, e2, h0, hm, hs⟩ := pB_iff.1 hob.head
  obtain ⟨h1, h2⟩ := loI (datF row) (datG row) n hm n.toNat 0 (Int.le_refl _) (by omega)
  have hs1 : Row (datF row) (datG row) = row := hs.symm
  rw [hs1] at h1 h2
  rw [e1, e2, f0, f1]
  cases hq : eqFrom (qC fops n (datF row) (datG row)) 0 n.toNat with
  | true => exact ⟨.exit 0, skE, [], by simp [pickX, SB.val], h1 hq⟩
  | false => exact ⟨.ret, skR, [], by simp [pickX, SB.val], h2 hq⟩
set_option maxRecDepth 100000 in
theorem cI0 : CallOK Tryd.prog 18 (inl (cxV fops) Tryd.f18 ⟨fun _ => none, lpOf [(4, LIv fops)]⟩) := by
  have hb : Tryd.f18.body.isSome = true := by kernel_rfl
  obtain ⟨c, hc⟩ := Option.isSome_iff_exists.1 hb
  have h1 : (match Tryd.f18.body with | some c => onceB (loopsIn c) && (match loopAt 4 (loopsIn c) with | some _ => true | none => false) | none => false) = true := by kernel_rfl
  rw [hc] at h1
  simp only [Bool.and_eq_true] at h1
  exact inlL_of (l := LV fops) (ls := [(4, LIv fops)]) okLV mixed 8 Tryd.func18 (by kernel_rfl) (fun _ => none) hc h1.1 ⟨⟨_, bodyOf_at hc h1.2, okI⟩, trivial⟩
/-! ### spec.l03Ok -/
noncomputable def skS : Sk := ⟨[(0, .c (.sl 1 0 5 false)), (3, .c (.int .i64)), (4, .c (.int .i64))], [(1, ⟨false, false, .rows 5⟩)], 2⟩
noncomputable def NS : Nat := Tryd.f15.ntmps
noncomputable def goS (O : FOps) (h : List (Nat × Bool)) (s : Sk) (F : Nat → Int → Nat) (G : Nat → Int → Int) (n k : Int) : Option (Option XK × List LD × List Bool) :=
  goL (cxV O) NS ⟨hint h, fun _ => none⟩ (bodyOf Tryd.f15 5) 2 60 skS [] s [.i n, .i n, .i k, .i n, .r (Row F G)]
noncomputable def hSa : List (Nat × Bool) := [(12, true), (19, false), (25, true)]
noncomputable def hSb : List (Nat × Bool) := [(12, true), (19, false), (25, false), (55, false)]
noncomputable def hSc : List (Nat × Bool) := [(12, true), (19, true)]
noncomputable def hSd : List (Nat × Bool) := [(12, true), (19, false), (25, false), (55, true)]
noncomputable def hSe : List (Nat × Bool) := [(12, false)]
set_option maxRecDepth 100000 in
theorem raS (O : FOps) (F : Nat → Int → Nat) (G : Nat → Int → Int) (n k : Int) : goS O hSa skS F G n k = some (none, [.i n, .i n, .i (IntKind.i64.wrap (k + 1)), .i n, .r (Row F G)], hdI n k ++ ([!!fk O F k] ++ [bnd n k, bnd n k] ++ [decide (G 4 k = -1), flatR (Row F G)])) := by kernel_rfl
set_option maxRecDepth 100000 in
theorem rbS (O : FOps) (F : Nat → Int → Nat) (G : Nat → Int → Int) (n k : Int) : goS O hSb skS F G n k = some (none, [.i n, .i n, .i (IntKind.i64.wrap (k + 1)), .i n, .r (Row F G)], hdI n k ++ ([!!fk O F k] ++ [bnd n k, bnd n k] ++ [!decide (G 4 k = -1)] ++ idS n k (G 4 k) ++ [!bS n k (G 4 k) (G 4 (G 4 k)), flatR (Row F G)])) := by kernel_rfl
set_option maxRecDepth 100000 in
theorem rcS (O : FOps) (F : Nat → Int → Nat) (G : Nat → Int → Int) (n k : Int) : goS O hSc skR F G n k = some (some .ret, [], hdI n k ++ [!fk O F k]) := by kernel_rfl
set_option maxRecDepth 100000 in
theorem rdS (O : FOps) (F : Nat → Int → Nat) (G : Nat → Int → Int) (n k : Int) : goS O hSd skR F G n k = some (some .ret, [], hdI n k ++ ([!!fk O F k] ++ [bnd n k, bnd n k] ++ [!decide (G 4 k = -1)] ++ idS n k (G 4 k) ++ [bS n k (G 4 k) (G 4 (G 4 k))])) := by kernel_rfl
set_option maxRecDepth 100000 in
theorem reS (O : FOps) (F : Nat → Int → Nat) (G : Nat → Int → Int) (n k : Int) : goS O hSe skE F G n k = some (some (.exit 0), [], [!decide (k < n)]) := by kernel_rfl
theorem loS (F : Nat → Int → Nat) (G : Nat → Int → Int) (n : Int) (hn : n ≤ 1048576) : ∀ (m : Nat) (k : Int), 0 ≤ k → k + m = n →
    (eqFrom (qC fops n F G) k m = true → Loops (cxV fops) NS (fun _ => none) (bodyOf Tryd.f15 5) 2 60 skS [.i n, .i n, .i k, .i n, .r (Row F G)] (.exit 0) skE []) ∧
    (eqFrom (qC fops n F G) k m = false → Loops (cxV fops) NS (fun _ => none) (bodyOf Tryd.f15 5) 2 60 skS [.i n, .i n, .i k, .i n, .r (Row F G)] .ret skR []) := by
  have fl : flatR (Row F G) = true := rowK_flat _ _ _
  intro m
  induction m with
  | zero =>
    intro k hk hkn
    have e : k = n := by omega
    subst e
    refine ⟨fun _ => .done (ts := hint hSe) (ρ := []) (reS fops F G k k) (AllT.one (by simp)), fun h => by cases h⟩
  | succ m ih =>
    intro k hk hkn
    have hlt : k < n := by omega
    obtain ⟨i1, i2⟩ := ih (k + 1) (by omega) (by omega)
    have hE : eqFrom (qC fops n F G) k (m + 1) = bif qC fops n F G k then eqFrom (qC fops n F G) (k + 1) m else false := rfl
    have hq : qC fops n F G k = bif fk fops F k then (bif decide (G 4 k = -1) then true else !bI n k (G 4 k) (G 4 (G 4 k))) else false := rfl
    have hh := hdI_ok hk hlt
    have hb := bnd_ok hk hlt
    have hm : AllT [bnd n k, bnd n k] := AllT.cons hb (AllT.one hb)
    rw [hE, hq]
    cases hf : fk fops F k with
    | false => exact ⟨fun h => (by cases h), fun _ => .done (ts := hint hSc) (ρ := []) (rcS fops F G n k) (AllT.app hh (AllT.one (by rw [hf]; rfl)))⟩
    | true =>
      cases hx : decide (G 4 k = -1) with
      | true =>
        have h1 := raS fops F G n k
        rw [wrap_succ hk (by omega)] at h1
        have ho : AllT (hdI n k ++ ([!!fk fops F k] ++ [bnd n k, bnd n k] ++ [decide (G 4 k = -1), flatR (Row F G)])) := AllT.app hh (AllT.app (AllT.app (AllT.one (by rw [hf]; rfl)) hm) (AllT.cons hx (AllT.one fl)))
        exact ⟨fun h => .step (ts := hint hSa) (ρ := []) h1 ho (i1 h), fun h => .step (ts := hint hSa) (ρ := []) h1 ho (i2 h)⟩
      | false =>
        have hid : AllT (idS n k (G 4 k)) := idS_ok hk hlt hn _
        have hbb : bS n k (G 4 k) (G 4 (G 4 k)) = bI n k (G 4 k) (G 4 (G 4 k)) := bS_eq (by omega) hn _ _ _
        cases hy : bI n k (G 4 k) (G 4 (G 4 k)) with
        | false =>
          have h1 := rbS fops F G n k
          rw [wrap_succ hk (by omega)] at h1
          have ho : AllT (hdI n k ++ ([!!fk fops F k] ++ [bnd n k, bnd n k] ++ [!decide (G 4 k = -1)] ++ idS n k (G 4 k) ++ [!bS n k (G 4 k) (G 4 (G 4 k)), flatR (Row F G)])) := AllT.app hh (AllT.app (AllT.app (AllT.app (AllT.app (AllT.one (by rw [hf]; rfl)) hm) (AllT.one (by rw [hx]; rfl))) hid) (AllT.cons (by rw [hbb, hy]; rfl) (AllT.one fl)))
          exact ⟨fun h => .step (ts := hint hSb) (ρ := []) h1 ho (i1 h), fun h => .step (ts := hint hSb) (ρ := []) h1 ho (i2 h)⟩
        | true =>
          have ho : AllT (hdI n k ++ ([!!fk fops F k] ++ [bnd n k, bnd n k] ++ [!decide (G 4 k = -1)] ++ idS n k (G 4 k) ++ [bS n k (G 4 k) (G 4 (G 4 k))])) := AllT.app hh (AllT.app (AllT.app (AllT.app (AllT.app (AllT.one (by rw [hf]; rfl)) hm) (AllT.one (by rw [hx]; rfl))) hid) (AllT.one (by rw [hbb, hy])))
          exact ⟨fun h => (by cases h), fun _ => .done (ts := hint hSd) (ρ := []) (rdS fops F G n k) ho⟩
def PS (n n1 k N : Int) (row : Int → List SC) : Prop := n1 = n ∧ k = 0 ∧ N = n ∧ 0 ≤ n ∧ n ≤ 1048576 ∧ Shape ts row
noncomputable def FS (O : FOps) : List LD → Option (XO × List Bool)
  | [.i n, .i n1, .i k, .i N, .r row] => some ([(.s (!eqFrom (qC O n (datF row) (datG row)) 0 n.toNat), .ret, skR, []), (.t, .exit 0, skE, [])], [pB (PS n n1 k N row)])
  | _ => none
noncomputable def LSv (O : FOps) : List Ly → Top → Option Outs := orIter (cxV O) NS (bodyOf Tryd.f15 5) (loopL NS 2 60 skS [] (FS O))
set_option maxRecDepth 100000 in
theorem okS : CodeOK Tryd.prog NS (.loop (bodyOf Tryd.f15 5)) (LSv fops) := by
  refine orIter_ok (l := LV fops) okLV mixed 8 (loopL_ok (cx := cxV fops) (lp := fun _ => none) (fun ts => body_ok (l := LV fops) okLV mixed 8 _ ts) fun p r hr hob => ?_)
  unfold FS at hr
  split at hr <;> cases hr
  rename_i n n1 k N row
  obtain ⟨f0, e1, e2, h0, hm, hs⟩ := pB_iff.1 hob.head
  obtain ⟨h1, h2⟩ := loS (datF row) (datG row) n hm n.toNat 0 (Int.le_refl _) (by omega)
  have hs1 : Row (datF row) (datG row) = row := hs.symm
  rw [hs1] at h1 h2
  rw [e1, e2, f0]
  cases hq : eqFrom (qC fops n (datF row) (datG row)) 0 n.toNat with
  | true => exact ⟨.exit 0, skE, [], by simp [pickX, SB.val], h1 hq⟩
  | false => exact ⟨.ret, skR, [], by simp [pickX, SB.val], h2 hq⟩
set_option maxRecDepth 100000 in
theorem cS0 : CallOK Tryd.prog 15 (inl (cxV fops) Tryd.f15 ⟨fun _ => none, lpOf [(5, LSv fops)]⟩) := by
  have hb : Tryd.f15.body.isSome = true := by kernel_rfl
  obtain ⟨c, hc⟩ := Option.isSome_iff_exists.1 hb
  have h1 : (match Tryd.f15.body with | some c => onceB (loopsIn c) && (match loopAt 5 (loopsIn c) with | some _ => true | none => false) | none => false) = true := by kernel_rfl
  rw [hc] at h1
  simp only [Bool.and_eq_true] at h1
  exact inlL_of (l := LV fops) (ls := [(5, LSv fops)]) okLV mixed 8 Tryd.func15 (by kernel_rfl) (fun _ => none) hc h1.1 ⟨⟨_, bodyOf_at hc h1.2, okS⟩, trivial⟩
/-! ### validity, told by hand -/
noncomputable def rgI (n : Int) : Bool := bif decide (n < 1) then true else decide (6 < n)
noncomputable def rgS (n : Int) : Bool := !(bif decide (1 ≤ n) then decide (n ≤ 6) else false)
theorem rg_eq (n : Int) : rgS n = rgI n := by
  unfold rgS rgI
  by_cases h : n < 1
  · rw [decide_eq_true h, decide_eq_false (by omega : ¬ 1 ≤ n)]; rfl
  · rw [decide_eq_false h, decide_eq_true (by omega : 1 ≤ n)]
    by_cases h2 : 6 < n
    · rw [decide_eq_true h2, decide_eq_false (by omega : ¬ n ≤ 6)]; rfl
    · rw [decide_eq_false h2, decide_eq_true (by omega : n ≤ 6)]; rfl
/-- Whether a chimney is valid; 'g': it has too few or too many flues. -/
noncomputable def vC' (O : FOps) (g : Bool) (n : Int) (row : Int → List SC) : Bool := bif g then false else bif !eqFrom (qC O n (datF row) (datG row)) 0 n.toNat then false else true
noncomputable def vC (O : FOps) (n : Int) (row : Int → List SC) : Bool := vC' O (rgI n) n row
set_option maxRecDepth 100000 in
theorem I_run (O : FOps) (f w o : Bool) (n N : Int) (row : Int → List SC) : roS (inl (cxV O) Tryd.f18 ⟨fun _ => none, lpOf [(4, LIv O)]⟩) 2 [.c (.sl 1 0 5 (.s n) f)] [(1, ⟨w, o, .rows 5 N row⟩)] =
    some ⟨.c (.bool (.s (vC' O (rgI n) n row))), [], 60, gdB (rgI n) [flatR row, pB (PI n n n 0 N row)]⟩ := by kernel_rfl
set_option maxRecDepth 100000 in
theorem S_run (O : FOps) (f w o : Bool) (n N : Int) (row : Int → List SC) : roS (inl (cxV O) Tryd.f15 ⟨fun _ => none, lpOf [(5, LSv O)]⟩) 2 [.c (.sl 1 0 5 (.s n) f)] [(1, ⟨w, o, .rows 5 N row⟩)] =
    some ⟨.c (.bool (.s (vC' O (rgS n) n row))), [], 60, gdB (rgS n) [flatR row, pB (PS n n 0 N row)]⟩ := by kernel_rfl
noncomputable def vH (O : FOps) : CS := fun base args rd => match args with
  | [.c (.sl i o es (.s n) _)] => match rd with
    | [(j, ⟨_, _, .rows st N row⟩)] => match Nat.beq base 2 && (Nat.beq i 1 && (Nat.beq o 0 && (Nat.beq es 5 && (Nat.beq j 1 && Nat.beq st 5)))) with
      | true => some ⟨.c (.bool (.s (vC O n row))), [], 60, [okN n N row]⟩
      | false => none
    | _ => none
  | _ => none
noncomputable def vIC (O : FOps) : CS := orS (canS (vH O)) (inl (cxV O) Tryd.f18 noH)
noncomputable def vSC (O : FOps) : CS := orS (canS (vH O)) (inl (cxV O) Tryd.f15 noH)
set_option maxRecDepth 100000 in
theorem cVI : CallOK Tryd.prog 18 (vIC fops) :=
  (CallOK.hand (H := vH fops) cI0.ro fun b args rd e h hob => by
    unfold vH at h
    split at h <;> try (cases h; done)
    rename_i i o es n f
    split at h <;> try (cases h; done)
    rename_i j w p st N row
    split at h <;> cases h
    rename_i hc
    simp only [Bool.and_eq_true, beqN] at hc
    obtain ⟨rfl, rfl, rfl, rfl, rfl, rfl⟩ := hc
    obtain ⟨rfl, h0, hm, hs⟩ := pB_iff.1 hob.head
    exact ⟨_, I_run fops f w p N N row, gdB_ok fun _ => AllT.cons (shape_flat hs) (AllT.one (pB_iff.2 ⟨rfl, rfl, rfl, rfl, h0, hm, hs⟩))⟩).can.or
    (inlN_of (l := LV fops) okLV mixed 8 Tryd.func18 (by kernel_rfl) (fun _ => none))
set_option maxRecDepth 100000 in
theorem cVS : CallOK Tryd.prog 15 (vSC fops) :=
  (CallOK.hand (H := vH fops) cS0.ro fun b args rd e h hob => by
    unfold vH at h
    split at h <;> try (cases h; done)
    rename_i i o es n f
    split at h <;> try (cases h; done)
    rename_i j w p st N row
    split at h <;> cases h
    rename_i hc
    simp only [Bool.and_eq_true, beqN] at hc
    obtain ⟨rfl, rfl, rfl, rfl, rfl, rfl⟩ := hc
    obtain ⟨rfl, h0, hm, hs⟩ := pB_iff.1 hob.head
    unfold vC
    rw [← rg_eq]
    exact ⟨_, S_run fops f w p N N row, gdB_ok fun _ => AllT.cons (shape_flat hs) (AllT.one (pB_iff.2 ⟨rfl, rfl, rfl, h0, hm, hs⟩))⟩).can.or
    (inlN_of (l := LV fops) okLV mixed 8 Tryd.func15 (by kernel_rfl) (fun _ => none))
end
end Go.Proofs.YtaodbpejeglmlaaDoor.Chy
