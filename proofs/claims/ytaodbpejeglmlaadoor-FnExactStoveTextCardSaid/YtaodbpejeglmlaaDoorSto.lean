/- Stoves: validity told by hand. Nothing is assumed. -/
import Derived.Test.YtaodbpejeglmlaaDoorStv
import Derived.Test.YtaodbpejeglmlaaDoorLw
import Derived.Test.YtaodbpejeglmlaaDoorHp
namespace Go.Proofs.YtaodbpejeglmlaaDoor.Sto
open Go SlWood Stv
noncomputable section
def shr (O : FOps) (b : Nat) : Bool := bif decide (b < 2139095040) then O.cmp .leq .f32 b 1065353216 else false
def vI (O : FOps) (Q : Bool) (n : Int) (a b : Nat) (s t : Int) (c : Nat) : Bool :=
  bif decide (6 < n) then false else bif !Q then false else bif (bif O.cmp .geq .f32 a 3262119936 then O.cmp .leq .f32 a 1153138688 else false) then bif shr O b then
  bif decide (0 ≤ s) then bif decide (s ≤ 3) then bif decide (0 ≤ t) then bif decide (t ≤ 1000000) then bif decide (c < 2139095040) then O.cmp .lss .f32 c 1065353216
  else false else false else false else false else false else false else false
def bad (O : FOps) (n : Int) (a b : Nat) (s t : Int) (c : Nat) : Bool :=
  bif decide (6 < n) then true else bif O.cmp .geq .f32 a 3262119936 then bif !O.cmp .leq .f32 a 1153138688 then true else bif !shr O b then true else
  bif !(bif decide (0 ≤ IntKind.i64.wrap s) then decide (IntKind.i64.wrap s ≤ 3) else false) then true else
  bif !(bif decide (0 ≤ t) then decide (t ≤ 1000000) else false) then true else bif !decide (c < 2139095040) then true else O.cmp .geq .f32 c 1065353216 else true
def vS (O : FOps) (Q : Bool) (n : Int) (a b : Nat) (s t : Int) (c : Nat) : Bool := bif bad O n a b s t c then false else bif !Q then false else true
theorem wrap_in {x : Int} (h0 : -9223372036854775808 ≤ x) (h1 : x < 9223372036854775808) : IntKind.i64.wrap x = x := by
  unfold IntKind.wrap
  have hb : IntKind.bits IntKind.i64 = 64 := rfl
  have hs : IntKind.signed IntKind.i64 = true := rfl
  rw [hb, hs]
  by_cases hx : 0 ≤ x
  · have e : x % 2 ^ 64 = x := Int.emod_eq_of_lt hx (by omega)
    rw [e]
    simp; omega
  · have e : x % 2 ^ 64 = x + 18446744073709551616 := by omega
    rw [e]
    simp; omega
theorem geq_lss {c : Nat} (h : c < 2139095040) : fops.cmp .geq .f32 c 1065353216 = !fops.cmp .lss .f32 c 1065353216 := by
  rw [cmp_geq, cmp_lss, nan_small h, nan_small (show 1065353216 < 2139095040 by decide)]
  simp only [Bool.not_false, Bool.true_and]
  by_cases hk : key .f32 c < key .f32 1065353216
  · simp [hk]
  · simp [hk]; omega
theorem v_eq (Q : Bool) (n : Int) (a b : Nat) {s : Int} (hs : -128 ≤ s ∧ s ≤ 127) (t : Int) (c : Nat) : vS fops Q n a b s t c = vI fops Q n a b s t c := by
  unfold vS vI bad
  rw [wrap_in (by omega) (by omega)]
  cases hc : decide (c < 2139095040) with
  | true =>
    rw [geq_lss (of_decide_eq_true hc)]
    cases decide (6 < n) <;> cases Q <;> cases fops.cmp .geq .f32 a 3262119936 <;> cases fops.cmp .leq .f32 a 1153138688 <;> cases shr fops b <;> cases decide (0 ≤ s) <;> cases decide (s ≤ 3) <;> cases decide (0 ≤ t) <;> cases decide (t ≤ 1000000) <;> cases fops.cmp .lss .f32 c 1065353216 <;> rfl
  | false =>
    cases decide (6 < n) <;> cases Q <;> cases fops.cmp .geq .f32 a 3262119936 <;> cases fops.cmp .leq .f32 a 1153138688 <;> cases shr fops b <;> cases decide (0 ≤ s) <;> cases decide (s ≤ 3) <;> cases decide (0 ≤ t) <;> cases decide (t ≤ 1000000) <;> rfl
/-! ### told by hand -/
/-- Whether a stove is valid. -/
def vR (O : FOps) (vl : (Nat → Nat) → Bool) (n : Int) (row : Int → List SC) (a b : Nat) (s t : Int) (c : Nat) : Bool := vI O (eqFrom (qV vl (datF row)) 0 n.toNat) n a b s t c
def vR' (O : FOps) (vl : (Nat → Nat) → Bool) (n : Int) (row : Int → List SC) (a b : Nat) (s t : Int) (c : Nat) : Bool := vS O (eqFrom (qV vl (datF row)) 0 n.toNat) n a b s t c
def okV (n N s : Int) (row : Int → List SC) : Bool := pB (N = n ∧ 0 ≤ n ∧ n ≤ 1048576 ∧ Shape ts row ∧ -128 ≤ s ∧ s ≤ 127)
def stL (f : Bool) (n : Int) (a b : Nat) (s t : Int) (c : Nat) : List SC := [.sl 1 0 18 (.s n) f, .flt .f32 a, .flt .f32 b, .int .i8 (.s s), .int .i64 (.s t), .flt .f32 c]
set_option maxRecDepth 100000 in
theorem vI_run (O : FOps) (vl : (Nat → Nat) → Bool) (f w o : Bool) (n N : Int) (row : Int → List SC) (a b : Nat) (s t : Int) (c : Nat) : roS (inl (cxV O vl) Tryd.f25 ⟨fun _ => none, lpOf [(4, LI O vl)]⟩) 2 [.a (stL f n a b s t c)] [(1, ⟨w, o, .rows 18 N row⟩)] =
    some ⟨.c (.bool (.s (vR O vl n row a b s t c))), [], 60, gdB (decide (6 < n)) [flatR row, pB (PreI n n 0 N n row)]⟩ := by kernel_rfl
set_option maxRecDepth 100000 in
theorem vS_run (O : FOps) (vl : (Nat → Nat) → Bool) (f w o w' o' : Bool) (n : Int) (row : Int → List SC) (a b : Nat) (s t : Int) (c : Nat) : roS (inl (cxV O vl) Tryd.f22 ⟨fun _ => none, lpOf [(4, Stv.LS O vl)]⟩) 3 [.c (.ptr 2 0)] [(1, ⟨w, o, .rows 18 n row⟩), (2, ⟨w', o', .cells (stL f n a b s t c)⟩)] =
    some ⟨.c (.bool (.s (vR' O vl n row a b s t c))), [], 60, gdB (bad O n a b s t c) [flatR row, pB (PreS n n 0 n n row)]⟩ := by kernel_rfl
def vIH (O : FOps) (vl : (Nat → Nat) → Bool) : CS := fun base args rd => match args with
  | [.a [.sl i o es (.s n) _, .flt .f32 a, .flt .f32 b, .int .i8 (.s s), .int .i64 (.s t), .flt .f32 c]] => match rd with
    | [(j, ⟨_, _, .rows st N row⟩)] => match Nat.beq base 2 && (Nat.beq i 1 && (Nat.beq o 0 && (Nat.beq es 18 && (Nat.beq j 1 && Nat.beq st 18)))) with
      | true => some ⟨.c (.bool (.s (vR O vl n row a b s t c))), [], 60, [okV n N s row]⟩
      | false => none
    | _ => none
  | _ => none
def vSH (O : FOps) (vl : (Nat → Nat) → Bool) : CS := fun base args rd => match args with
  | [.c (.ptr i' o')] => match rd with
    | [(j, ⟨_, _, .rows st N row⟩), (j', ⟨_, _, .cells [.sl i o es (.s n) _, .flt .f32 a, .flt .f32 b, .int .i8 (.s s), .int .i64 (.s t), .flt .f32 c]⟩)] =>
      match Nat.beq base 3 && (Nat.beq i' 2 && (Nat.beq o' 0 && (Nat.beq j' 2 && (Nat.beq i 1 && (Nat.beq o 0 && (Nat.beq es 18 && (Nat.beq j 1 && Nat.beq st 18))))))) with
      | true => some ⟨.c (.bool (.s (vR O vl n row a b s t c))), [], 60, [okV n N s row]⟩
      | false => none
    | _ => none
  | _ => none
set_option maxRecDepth 100000 in
theorem cI0 : CallOK Tryd.prog 25 (inl (cxV fops valid) Tryd.f25 ⟨fun _ => none, lpOf [(4, LI fops valid)]⟩) := by
  have hb : Tryd.f25.body.isSome = true := by kernel_rfl
  obtain ⟨c, hc⟩ := Option.isSome_iff_exists.1 hb
  have h1 : (match Tryd.f25.body with | some c => onceB (loopsIn c) && (match loopAt 4 (loopsIn c) with | some _ => true | none => false) | none => false) = true := by kernel_rfl
  rw [hc] at h1
  simp only [Bool.and_eq_true] at h1
  exact inlL_of (l := LV fops valid) (ls := [(4, LI fops valid)]) okLV mixed 8 Tryd.func25 (by kernel_rfl) (fun _ => none) hc h1.1 ⟨⟨_, bodyOf_at hc h1.2, okI⟩, trivial⟩
set_option maxRecDepth 100000 in
theorem cS0 : CallOK Tryd.prog 22 (inl (cxV fops valid) Tryd.f22 ⟨fun _ => none, lpOf [(4, Stv.LS fops valid)]⟩) := by
  have hb : Tryd.f22.body.isSome = true := by kernel_rfl
  obtain ⟨c, hc⟩ := Option.isSome_iff_exists.1 hb
  have h1 : (match Tryd.f22.body with | some c => onceB (loopsIn c) && (match loopAt 4 (loopsIn c) with | some _ => true | none => false) | none => false) = true := by kernel_rfl
  rw [hc] at h1
  simp only [Bool.and_eq_true] at h1
  exact inlL_of (l := LV fops valid) (ls := [(4, Stv.LS fops valid)]) okLV mixed 8 Tryd.func22 (by kernel_rfl) (fun _ => none) hc h1.1 ⟨⟨_, bodyOf_at hc h1.2, okS⟩, trivial⟩
def vIC (O : FOps) (vl : (Nat → Nat) → Bool) : CS := orS (canS (vIH O vl)) (inl (cxV O vl) Tryd.f25 noH)
def vSC (O : FOps) (vl : (Nat → Nat) → Bool) : CS := orS (canS (vSH O vl)) (inl (cxV O vl) Tryd.f22 noH)
set_option maxRecDepth 100000 in
theorem cVIC : CallOK Tryd.prog 25 (vIC fops valid) :=
  (CallOK.hand (H := vIH fops valid) cI0.ro fun b args rd e h hob => by
    unfold vIH at h
    split at h <;> try (cases h; done)
    rename_i i o es n f xa xb s t xc
    split at h <;> try (cases h; done)
    rename_i j w p st N row
    split at h <;> cases h
    rename_i hc
    simp only [Bool.and_eq_true, beqN] at hc
    obtain ⟨rfl, rfl, rfl, rfl, rfl, rfl⟩ := hc
    obtain ⟨rfl, h0, hm, hs, h1, h2⟩ := pB_iff.1 hob.head
    exact ⟨_, vI_run fops valid f w p N N row xa xb s t xc, gdB_ok fun _ => AllT.cons (shape_flat hs) (AllT.cons (pB_iff.2 ⟨rfl, rfl, rfl, rfl, h0, hm, hs⟩) AllT.nil)⟩).can.or
    (inlN_of (l := LV fops valid) okLV mixed 8 Tryd.func25 (by kernel_rfl) (fun _ => none))
theorem vR_eq (n : Int) (row : Int → List SC) (a b : Nat) {s : Int} (h : -128 ≤ s ∧ s ≤ 127) (t : Int) (c : Nat) : vR' fops valid n row a b s t c = vR fops valid n row a b s t c := v_eq _ n a b h t c
set_option maxRecDepth 100000 in
theorem cVSC : CallOK Tryd.prog 22 (vSC fops valid) :=
  (CallOK.hand (H := vSH fops valid) cS0.ro fun b args rd e h hob => by
    unfold vSH at h
    split at h <;> try (cases h; done)
    rename_i i' o'
    split at h <;> try (cases h; done)
    rename_i j w p st N row j' w' p' i o es n f xa xb s t xc
    split at h <;> cases h
    rename_i hc
    simp only [Bool.and_eq_true, beqN] at hc
    obtain ⟨rfl, rfl, rfl, rfl, rfl, rfl, rfl, rfl, rfl⟩ := hc
    obtain ⟨rfl, h0, hm, hs, h1, h2⟩ := pB_iff.1 hob.head
    rw [← vR_eq N row xa xb ⟨h1, h2⟩ t xc]
    exact ⟨_, vS_run fops valid f w p w' p' N row xa xb s t xc, gdB_ok fun _ => AllT.cons (shape_flat hs) (AllT.cons (pB_iff.2 ⟨rfl, rfl, rfl, rfl, h0, hm, hs⟩) AllT.nil)⟩).can.or
    (inlN_of (l := LV fops valid) okLV mixed 8 Tryd.func22 (by kernel_rfl) (fun _ => none))
/-! ### what the laws of stoves ask for -/
def hint (l : List (Nat × Bool)) (t : Nat) : Option Bool := List.rec (motive := fun _ => Option Bool) none (fun p _ ih => bif Nat.beq t p.1 then some p.2 else ih) l
def stA (n : Int) (a b : Nat) (s t : Int) (c : Nat) : SV := .a (stL false n a b s t c)
def st0 (a b : Nat) (s t : Int) (c : Nat) : SV := .a [.sl 1 0 18 (.c 0) false, .flt .f32 a, .flt .f32 b, .int .i8 (.s s), .int .i64 (.s t), .flt .f32 c]
def lf (n : Int) : Int := bif decide ((bif decide (IntKind.i64.wrap (1048576 - n) < 0) then (-1 : Int) else IntKind.i64.wrap (1048576 - n)) < 0) then -1 else bif decide (IntKind.i64.wrap (1048576 - n) < 0) then -1 else IntKind.i64.wrap (1048576 - n)
theorem lf_small {n : Int} (h0 : 0 ≤ n) (h1 : n ≤ 1048576) : decide (lf n < 0) = false := by
  unfold lf
  rw [wrap_in (by omega) (by omega)]
  have e : decide (1048576 - n < 0) = false := by simp; omega
  rw [e]
  simp [e]
theorem lf_big {n : Int} (h0 : 1048576 < n) (h1 : n ≤ 9223372036854775807) : decide (lf n < 0) = true := by
  unfold lf
  rw [wrap_in (by omega) (by omega)]
  have e : decide (1048576 - n < 0) = true := by simp; omega
  rw [e]
  simp
def R1 (F : Nat → Int → Nat) (G : Nat → Int → Int) (n : Int) : Int → List SC := cpR n (Row F G)
def oC (F : Nat → Int → Nat) (G : Nat → Int → Int) (n : Int) : List Bool := [flatR (Row F G), flatR (R1 F G n), okN n n (Row F G)]
def oV (n s : Int) (row : Int → List SC) : List Bool := [flatR row, okV n n s row]
def oA (n : Int) : List Bool := [decide (0 ≤ n ∧ n ≤ n ∧ n ≤ 1000000)]
def oE (n : Int) (row row' : Int → List SC) : List Bool := [flatR row', flatR row, okE' n n row n n row']
def oM (O : FOps) (n : Int) (row : Int → List SC) : List Bool := [flatR row, flatR (mkR O 1 n row), okM' n 1 n row]
def oH (O : FOps) (n : Int) (row : Int → List SC) : List Bool := [flatR (mkR O 1 n row), okH' n 1 n (mkR O 1 n row)]
/-- Two stoves are the same; 'q': their logs are. -/
def eqT (O : FOps) (q : Bool) (a b : Nat) (s t : Int) (c : Nat) : Bool :=
  bif !q then false else bif !sf O (O.conv .f32 .f64 a) (O.conv .f32 .f64 a) then false else bif !sf O (O.conv .f32 .f64 b) (O.conv .f32 .f64 b) then false else bif !decide (s = s) then false else bif !decide (t = t) then false else bif !sf O (O.conv .f32 .f64 c) (O.conv .f32 .f64 c) then false else true
theorem eqT_true {q : Bool} (hq : q = true) (a b : Nat) (s t : Int) (c : Nat) : eqT fops q a b s t c = true := by
  unfold eqT
  rw [hq]
  simp [sf_self]
def eqT0 (O : FOps) (x y : Nat) : Bool := bif !sf O (O.conv .f32 .f64 x) (O.conv .f32 .f64 y) then false else bif !sf O (O.conv .f32 .f64 x) (O.conv .f32 .f64 y) then false else bif !sf O (O.conv .f32 .f64 x) (O.conv .f32 .f64 y) then false else true
theorem eqT0_true (x : Nat) : eqT0 fops x x = true := by
  unfold eqT0
  simp [sf_self]
def ng (n : Int) : Bool := decide ((1 : Int) + 18 * n < 0)
def qv (n : Int) : Int := bif ng n then -1 else 1 + 18 * n
/-- What is asked when it is held as it was marked. -/
def oQ (n : Int) : List Bool := [!decide (qv n < 0), !!decide (qv n = 1 + 18 * n)]
theorem ng_false {n : Int} (h : 0 ≤ n) : ng n = false := by unfold ng; simp; omega
theorem oQ_ok {n : Int} (h : 0 ≤ n) : AllT (oQ n) := by
  unfold oQ qv
  rw [ng_false h]
  exact AllT.cons (by simp; omega) (AllT.cons (by simp) AllT.nil)
theorem r1_shape (F : Nat → Int → Nat) (G : Nat → Int → Int) (n : Int) : Shape ts (R1 F G n) := shape_row _ _
theorem oC_ok (F : Nat → Int → Nat) (G : Nat → Int → Int) {n : Int} (h0 : 0 ≤ n) (h1 : n ≤ 1048576) : AllT (oC F G n) :=
  AllT.cons (rowK_flat _ _ _) (AllT.cons (rowK_flat _ _ _) (AllT.cons (pB_iff.2 ⟨rfl, h0, h1, shape_row F G⟩) AllT.nil))
theorem oV_ok {row : Int → List SC} (hs : Shape ts row) {n s : Int} (h0 : 0 ≤ n) (h1 : n ≤ 1048576) (h : -128 ≤ s ∧ s ≤ 127) : AllT (oV n s row) :=
  AllT.cons (shape_flat hs) (AllT.cons (pB_iff.2 ⟨rfl, h0, h1, hs, h⟩) AllT.nil)
theorem oA_ok {n : Int} (h0 : 0 ≤ n) (h1 : n ≤ 6) : AllT (oA n) := AllT.cons (by simp; omega) AllT.nil
theorem oE_ok {row row' : Int → List SC} (hs : Shape ts row) (hs' : Shape ts row') {n : Int} (h0 : 0 ≤ n) (h1 : n ≤ 1048576) : AllT (oE n row row') :=
  AllT.cons (shape_flat hs') (AllT.cons (shape_flat hs) (AllT.cons (by
    unfold okE'
    have : pB (n = n ∧ n = n ∧ 0 ≤ n ∧ n ≤ 1048576 ∧ Shape ts row ∧ Shape ts row') = true := pB_iff.2 ⟨rfl, rfl, h0, h1, hs, hs'⟩
    rw [this, Bool.or_true]) AllT.nil))
theorem mk_shape (u n : Int) (row : Int → List SC) : Shape ts (mkR fops u n row) := shape_row _ _
theorem oM_ok {row : Int → List SC} (hs : Shape ts row) {n : Int} (h0 : 0 ≤ n) (h1 : n ≤ 1048576) : AllT (oM fops n row) :=
  AllT.cons (shape_flat hs) (AllT.cons (shape_flat (mk_shape _ _ _)) (AllT.cons (pB_iff.2 ⟨rfl, h0, h1, by decide, by decide, hs⟩) AllT.nil))
theorem oH_ok (row : Int → List SC) {n : Int} (h0 : 0 ≤ n) (h1 : n ≤ 1048576) : AllT (oH fops n row) :=
  AllT.cons (shape_flat (mk_shape _ _ _)) (AllT.cons (pB_iff.2 ⟨rfl, h0, h1, by decide, by decide, mkR_marked _ _ _⟩) AllT.nil)
theorem AllT.one {b : Bool} (h : b = true) : AllT [b] := AllT.cons h AllT.nil
theorem gdB_ok' {g : Bool} {l : List Bool} (h : AllT l) : AllT (gdB g l) := gdB_ok fun _ => h
/-- A valid stove has six logs at the most. -/
theorem vR_six {O : FOps} {vl : (Nat → Nat) → Bool} {n : Int} {row : Int → List SC} {a b : Nat} {s t : Int} {c : Nat} (h : vR O vl n row a b s t c = true) : n ≤ 6 := by
  unfold vR vI at h
  cases h6 : decide (6 < n) with
  | true => rw [h6] at h; cases h
  | false =>
    have := of_decide_eq_false h6
    omega
/-! ### a law whose answer is a stove -/
theorem AllT.iff_app {l m : List Bool} : AllT (l ++ m) ↔ AllT l ∧ AllT m := ⟨fun h => h.append, fun h => AllT.app h.1 h.2⟩
def obG (O : FOps) (F : Nat → Int → Nat) (G : Nat → Int → Int) (n : Int) (Ss Si : List Bool) (n2 : Int) (Ri Rs : Int → List SC) (T E : Bool) : List Bool :=
  [!decide (lf n < 0)] ++ (oC F G n ++ Ss) ++ (oC F G n ++ Si) ++ oE n2 Ri Rs ++ [!T] ++ oC F G n ++ oE n (R1 F G n) (R1 F G n) ++ [!!E] ++ oM O n (R1 F G n) ++ gdB (ng n) (oE n2 Ri Rs) ++ [!(bif ng n then true else T)] ++
  oM O n2 Ri ++ oH O n2 Ri ++ oQ n2 ++ (oC F G n ++ Si) ++ oE n2 Ri Rs ++ [!T] ++ oH O n2 Ri ++ oQ n2
def obGe (O : FOps) (F : Nat → Int → Nat) (G : Nat → Int → Int) (n : Int) (Ss Si : List Bool) (T E : Bool) : List Bool :=
  [!decide (lf n < 0)] ++ (oC F G n ++ Ss) ++ (oC F G n ++ Si) ++ [!T] ++ oC F G n ++ oE n (R1 F G n) (R1 F G n) ++ [!!E] ++ oM O n (R1 F G n) ++ [!(bif ng n then true else T)] ++ (oC F G n ++ Si) ++ [!T]
def ob0 (Ss Si : List Bool) (T E : Bool) : List Bool := Ss ++ Si ++ [!T, !!E, !T] ++ Si ++ [!T]
theorem obG_ok (F : Nat → Int → Nat) (G : Nat → Int → Int) {n : Int} (h0 : 0 ≤ n) (h1 : n ≤ 1048576) {Ss Si : List Bool} (hs : AllT Ss) (hi : AllT Si) {n2 : Int} (k0 : 0 ≤ n2) (k1 : n2 ≤ 1048576) {Ri Rs : Int → List SC} (hri : Shape ts Ri) (hrs : Shape ts Rs) {T E : Bool} (hT : T = false) (hE : E = true) :
    AllT (obG fops F G n Ss Si n2 Ri Rs T E) := by
  have c := oC_ok F G h0 h1
  have e := oE_ok hri hrs k0 k1
  have x := oE_ok (r1_shape F G n) (r1_shape F G n) h0 h1
  have m := oM_ok (r1_shape F G n) h0 h1
  have m2 := oM_ok hri k0 k1
  have y := oH_ok Ri k0 k1
  have z := oQ_ok k0
  unfold obG
  rw [hT, hE, lf_small h0 h1, ng_false h0]
  simp only [AllT.iff_app]
  exact ⟨⟨⟨⟨⟨⟨⟨⟨⟨⟨⟨⟨⟨⟨⟨⟨⟨⟨AllT.one rfl, c, hs⟩, c, hi⟩, e⟩, AllT.one rfl⟩, c⟩, x⟩, AllT.one rfl⟩, m⟩, gdB_ok' e⟩, AllT.one rfl⟩, m2⟩, y⟩, z⟩, c, hi⟩, e⟩, AllT.one rfl⟩, y⟩, z⟩
theorem obGe_ok (F : Nat → Int → Nat) (G : Nat → Int → Int) {n : Int} (h0 : 0 ≤ n) (h1 : n ≤ 1048576) {Ss Si : List Bool} (hs : AllT Ss) (hi : AllT Si) {T E : Bool} (hT : T = false) (hE : E = true) : AllT (obGe fops F G n Ss Si T E) := by
  have c := oC_ok F G h0 h1
  have x := oE_ok (r1_shape F G n) (r1_shape F G n) h0 h1
  have m := oM_ok (r1_shape F G n) h0 h1
  unfold obGe
  rw [hT, hE, lf_small h0 h1, ng_false h0]
  simp only [AllT.iff_app]
  exact ⟨⟨⟨⟨⟨⟨⟨⟨⟨⟨AllT.one rfl, c, hs⟩, c, hi⟩, AllT.one rfl⟩, c⟩, x⟩, AllT.one rfl⟩, m⟩, AllT.one rfl⟩, c, hi⟩, AllT.one rfl⟩
theorem ob0_ok {Ss Si : List Bool} (hs : AllT Ss) (hi : AllT Si) {T E : Bool} (hT : T = false) (hE : E = true) : AllT (ob0 Ss Si T E) := by
  unfold ob0
  rw [hT, hE]
  simp only [AllT.iff_app]
  exact ⟨⟨⟨⟨hs, hi⟩, AllT.cons rfl (AllT.cons rfl (AllT.cons rfl AllT.nil))⟩, hi⟩, AllT.one rfl⟩
theorem gd1 {g b : Bool} (h : g = false → b = true) : AllT (gdB g [b]) := gdB_ok fun e => AllT.one (h e)
theorem nn {b : Bool} (h : b = true) : (!!b) = true := by rw [h]; rfl
theorem eqT_q (n : Int) (row : Int → List SC) (a b : Nat) (s t : Int) (c : Nat) : eqT fops (eqR fops n n row row) a b s t c = true := eqT_true (eqR_self n row) a b s t c
/-- Both say the same of a stove without logs. -/
theorem v0_eq (a b : Nat) {s : Int} (h : -128 ≤ s ∧ s ≤ 127) (t : Int) (c : Nat) : vS fops true 0 a b s t c = vI fops true 0 a b s t c := v_eq true 0 a b h t c
/-! ### the same, where the rows of the answer are told of more generally -/
def oE2 (n N M : Int) (row row' : Int → List SC) : List Bool := [flatR row', flatR row, okE' n N row n M row']
def oM2 (O : FOps) (n N : Int) (row : Int → List SC) : List Bool := [flatR row, flatR (mkR O 1 n row), okM' n 1 N row]
def obH (O : FOps) (F : Nat → Int → Nat) (G : Nat → Int → Int) (n : Int) (Ss Si : List Bool) (n2 Ni Ns : Int) (Ri Rs : Int → List SC) (T E : Bool) : List Bool :=
  [!decide (lf n < 0)] ++ (oC F G n ++ Ss) ++ (oC F G n ++ Si) ++ oE2 n2 Ni Ns Ri Rs ++ [!T] ++ oC F G n ++ oE n (R1 F G n) (R1 F G n) ++ [!!E] ++ oM O n (R1 F G n) ++ gdB (ng n) (oE2 n2 Ni Ns Ri Rs) ++ [!(bif ng n then true else T)] ++
  oM2 O n2 Ni Ri ++ oH O n2 Ri ++ oQ n2 ++ (oC F G n ++ Si) ++ oE2 n2 Ni Ns Ri Rs ++ [!T] ++ oH O n2 Ri ++ oQ n2
theorem oE2_ok {row row' : Int → List SC} (hs : Shape ts row) (hs' : Shape ts row') {n N M : Int} (h0 : 0 ≤ n) (h1 : n ≤ 1048576) (hN : N = n) (hM : M = n) : AllT (oE2 n N M row row') := by
  subst hN
  subst hM
  exact oE_ok hs hs' h0 h1
theorem obH_ok (F : Nat → Int → Nat) (G : Nat → Int → Int) {n : Int} (h0 : 0 ≤ n) (h1 : n ≤ 1048576) {Ss Si : List Bool} (hs : AllT Ss) (hi : AllT Si) {n2 Ni Ns : Int} (k0 : 0 ≤ n2) (k1 : n2 ≤ 1048576) (hNi : Ni = n2) (hNs : Ns = n2) {Ri Rs : Int → List SC} (hri : Shape ts Ri) (hrs : Shape ts Rs) {T E : Bool} (hT : T = false) (hE : E = true) :
    AllT (obH fops F G n Ss Si n2 Ni Ns Ri Rs T E) := by
  subst hNi
  subst hNs
  exact obG_ok F G h0 h1 hs hi k0 k1 hri hrs hT hE
end
end Go.Proofs.YtaodbpejeglmlaaDoor.Sto
