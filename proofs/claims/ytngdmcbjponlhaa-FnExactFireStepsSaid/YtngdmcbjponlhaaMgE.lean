/- Parts of a proof, merged: Flr, Nxt, Fir2, Fir3, Fbd, Ffl, Fbe, Fir4, Fir5, Fir6, Ptl, Fco, Lx, Nil, Stc0, Fst, Stc, Fss0, Fss1, Fss, Fsl. Nothing is assumed. -/
import Derived.Test.YtngdmcbjponlhaaMgC
import Derived.Test.YtngdmcbjponlhaaMgD
/- The floor of a float. Nothing is assumed. -/
section
namespace Go.Proofs.Ytngdmcbjponlhaa
open Go
noncomputable section
/-- The greatest whole number that is not above a float. -/
def flv (x : Nat) : Nat := FloatKind.f64.format.write ((FloatKind.f64.format.read x).integral .down)
def floC (fl : Nat → Nat) (nb : Nat → Bool) : CS := fun base args rd => match args with
  | [.c (.flt .f64 x)] => some ⟨.c (.flt .f64 (fl x)), [], base, [!nb x]⟩
  | _ => none
theorem integral_nan {d : Ieee.Datum} (h : d.isNaN = false) : (d.integral .down).isNaN = false := by
  cases d <;> simp_all [Ieee.Datum.integral, Ieee.Datum.isNaN]
theorem floor_eq (r : Nat) : Extern.MathFloor.toIntegral "math.archFloor" .down #[.float .f64 r] = (match FloatKind.f64.format.read r with
    | .nan s t => if FloatKind.f64.format.quiet t = t then pure (.float .f64 r) else (do
      let kept ← choose (.extern "math.Floor,Ceil,Trunc,RoundToEven.signallingNaN kept" 2)
      pure (.float .f64 (if kept == 1 then r else FloatKind.f64.encode (.nan s (FloatKind.f64.format.quiet t)))))
    | d => pure (.float .f64 (FloatKind.f64.encode (d.integral .down)))) := rfl
set_option maxRecDepth 100000 in
theorem cFlo : CallOK Try.prog 103 (floC flv (nanb .f64)) := by
  refine CallOK.pure fun E base args vals rd w e hs hob hargs => ?_
  unfold floC at hs
  split at hs <;> cases hs
  rename_i x
  refine ⟨rfl, ?_⟩
  obtain ⟨l⟩ := vals
  match l, hargs with
  | [v], hargs =>
    obtain ⟨r, rfl, h2, h3⟩ := hargs.1
    have hx : nanb .f64 x = false := by simpa using hob.head
    have hr : r = x := by
      rcases can_cases .f64 r with ⟨h1, h4⟩ | ⟨h1, h4⟩
      · rw [← h3, h4] at hx
        have h5 : (FloatKind.f64.format.read (qnan .f64)).isNaN = true := qnan_nan .f64
        unfold nanb FloatKind.decode at hx
        rw [h5] at hx; cases hx
      · rw [← h3, h4]
    subst hr
    have hn : (FloatKind.f64.format.read r).isNaN = false := by
      unfold nanb FloatKind.decode at hx
      exact hx
    have hi := integral_nan hn
    refine ⟨.float .f64 (flv r), run_extern (x := Extern.MathFloor.toIntegral "math.archFloor" .down) Try.func103 (by kernel_rfl) (by kernel_rfl) (by kernel_rfl) (by kernel_rfl) ?_, flv r, rfl, FloatKind.f64.format.write_lt _, ?_⟩
    · rw [floor_eq]
      unfold flv
      cases hd : FloatKind.f64.format.read r with
      | nan s t => rw [hd] at hn; cases hn
      | number s m i => rfl
      | infinity s => rfl
    · refine can_of_not ?_
      unfold flv
      exact write_not_nan _ _ hi
end
end Go.Proofs.Ytngdmcbjponlhaa
end

/- The next state of a stove, told of both functions. Nothing is assumed. -/
section
namespace Go.Proofs.Ytngdmcbjponlhaa.Nxt
open Go
noncomputable section
def outI (A B C G H K L b : Bool) (n : Int) : Int :=
  bif (bif A then G else false) then 2 else bif ((!bif A then G else false) && bif A then (bif !b then H else false) else false) then 0 else
  bif ((!bif A then G else false) && ((!bif A then (bif !b then H else false) else false) && bif B then (bif b then false else true) else false)) then 3 else
  bif ((!bif A then G else false) && ((!bif A then (bif !b then H else false) else false) && ((!bif B then (bif b then false else true) else false) && bif C then (bif b then K else false) else false))) then 2 else
  bif ((!bif A then G else false) && ((!bif A then (bif !b then H else false) else false) && ((!bif B then (bif b then false else true) else false) && ((!bif C then (bif b then K else false) else false) && bif C then L else false)))) then 0 else n
def outS (A B C G H K L b : Bool) (n : Int) : Int :=
  bif (A && G) then 2 else bif (A && bif !b then H else false) then 0 else bif (!A && (B && !b)) then 3 else
  bif (!A && (!B && (C && bif b then K else false))) then 2 else bif (!A && (!B && (C && L))) then 0 else n
theorem out_eq (A B C G H K L b : Bool) (n : Int) (h : A = true → B = false ∧ C = false) (h2 : B = true → C = false) : outS A B C G H K L b n = outI A B C G H K L b n := by
  unfold outS outI
  cases A
  · cases B
    · cases C <;> cases b <;> cases K <;> cases L <;> rfl
    · have := h2 rfl; subst this; cases b <;> rfl
  · obtain ⟨rfl, rfl⟩ := h rfl
    cases G <;> cases b <;> cases H <;> rfl
def atm (O : FOps) (g : Bool → Bool → Bool → Bool → Bool → Bool → Bool → Bool → Int → Int) (n : Int) (x : Nat) (b : Bool) : Int :=
  g (decide (n = 1)) (decide (n = 2)) (decide (n = 3)) (O.cmp .gtr .f32 x 1128792064) (O.cmp .lss .f32 x 1112014848) (O.cmp .gtr .f32 x 1132068864) (O.cmp .lss .f32 x 1109393408) b n
set_option maxRecDepth 100000 in
theorem I_run (O : FOps) (n : Int) (x : Nat) (b : Bool) : rE 1 (inl ⟨Try.prog, O, orcN Try.prog O [] 8⟩ Try.f96 ⟨fun _ => none, fun _ => none⟩ 1 [.c (.int .i8 (.s n)), .c (.flt .f32 x), .c (.bool (.s b))] []) = some (.c (.int .i8 (.s (atm O outI n x b))), []) := by kernel_rfl
set_option maxRecDepth 100000 in
theorem S_run (O : FOps) (n : Int) (x : Nat) (b : Bool) : rE 1 (inl ⟨Try.prog, O, orcN Try.prog O [] 8⟩ Try.f93 ⟨fun _ => none, fun _ => none⟩ 1 [.c (.int .i8 (.s n)), .c (.flt .f32 x), .c (.bool (.s b))] []) = some (.c (.int .i8 (.s (atm O outS n x b))), []) := by kernel_rfl
theorem atm_eq (O : FOps) (n : Int) (x : Nat) (b : Bool) : atm O outS n x b = atm O outI n x b := by
  unfold atm
  refine out_eq _ _ _ _ _ _ _ _ _ (fun h => ?_) (fun h => ?_)
  · have := of_decide_eq_true h
    exact ⟨decide_eq_false (by omega), decide_eq_false (by omega)⟩
  · have := of_decide_eq_true h
    exact decide_eq_false (by omega)
def nxG (O : FOps) : List SV → Option SV
  | [.c (.int .i8 (.s n)), .c (.flt .f32 x), .c (.bool (.s b))] => some (.c (.int .i8 (.s (atm O outI n x b))))
  | _ => none
set_option maxRecDepth 100000 in
theorem cNI : CallOK Try.prog 96 (gS (nxG fops)) :=
  gS_of2 (inlN_of (l := []) trivial mixed 8 Try.func96 (by kernel_rfl) (fun _ => none)) fun args r E vals hG hr => by
    unfold nxG at hG
    split at hG <;> cases hG
    exact ⟨rfl, _, _, I_run fops _ _ _, rfl, AllT.nil, fun _ _ h => h⟩
set_option maxRecDepth 100000 in
theorem cNS : CallOK Try.prog 93 (gS (nxG fops)) :=
  gS_of2 (inlN_of (l := []) trivial mixed 8 Try.func93 (by kernel_rfl) (fun _ => none)) fun args r E vals hG hr => by
    unfold nxG at hG
    split at hG <;> cases hG
    exact ⟨rfl, _, _, S_run fops _ _ _, rfl, AllT.nil, fun _ _ h => by rw [atm_eq] at h; exact h⟩
end
end Go.Proofs.Ytngdmcbjponlhaa.Nxt
end

/- A step of a stove: the loops told, and the two functions run. Nothing is assumed. -/
section
namespace Go.Proofs.Ytngdmcbjponlhaa.Fir
open Go SlWood Stv Sto Lgc Aly
noncomputable section
def PI (F : Nat → Int → Nat) (bx air tm : Nat) (ht st fu g0 g1 x1 x2 x5 y1 y2 y3 y4 : Nat) (z3 z4 n n2 k n3 M : Int) (row rowo : Int → List SC) : Prop :=
  (ht = 0 ∧ st = 0 ∧ fu = 0 ∧ g0 = 0 ∧ g1 = 0 ∧ x1 = 0 ∧ x2 = 0 ∧ x5 = 0 ∧ y1 = 0 ∧ y2 = 0 ∧ y3 = 0 ∧ y4 = 0) ∧ (z3 = 0 ∧ z4 = 0 ∧ n2 = n ∧ k = 0 ∧ n3 = n ∧ M = n) ∧ 0 ≤ n ∧ n ≤ 1048576 ∧ flatR row = true ∧ Shape ts rowo ∧ Goo F n bx air tm
noncomputable def IF (O : FOps) : List LD → Option (XO × List Bool)
  | [.f rm, .f tm, .f air, .f bx, .f ht, .i n, .i n2, .i k, .i N, .r row, .i n3, .f a, .f b, .i s, .i t, .f c, .f x1, .f x2, .i z3, .i z4, .f x5, .f y1, .f y2, .f y3, .f y4, .i M, .r rowo, .f g0, .f g1, .f st, .f fu] =>
    some ([(.t, .exit 0, Ie, IE N row (FK O (datF rowo) bx air tm n) (datG rowo) n rm tm air bx (hS O (datF rowo) bx air tm n.toNat) (sS O (datF rowo) bx tm n.toNat) (fS O (datF rowo) bx air tm n.toNat) a b s t c)],
      [pB (PI (datF rowo) bx air tm ht st fu g0 g1 x1 x2 x5 y1 y2 y3 y4 z3 z4 n n2 k n3 M row rowo)])
  | _ => none
noncomputable def IL (O : FOps) : List Ly → Top → Option Outs := orIter (cxF O) NI (bodyOf Try.f79 6) (loopL NI 11 70 Ik [] (IF O))
theorem IL_ok : CodeOK Try.prog NI (.loop (bodyOf Try.f79 6)) (IL fops) := by
  refine orIter_ok (l := Lf fops) okLf mixed 8 (loopL_ok (cx := cxF fops) (lp := fun _ => none) (fun ts => body_ok (l := Lf fops) okLf mixed 8 _ ts) fun p r hr hob => ?_)
  unfold IF at hr
  split at hr <;> cases hr
  rename_i rm tm air bx ht n n2 k N row n3 a b s t c x1 x2 z3 z4 x5 y1 y2 y3 y4 M rowo g0 g1 st fu
  obtain ⟨⟨e1, e2, e3, e4, e5, e6, e7, e8, e9, e10, e11, e12⟩, ⟨d1, d2, d3, d4, d5, d6⟩, h0, h1, hrow, hs, hg⟩ := pB_iff.1 hob.head
  rw [e1, e2, e3, e4, e5, e6, e7, e8, e9, e10, e11, e12, d1, d2, d3, d4, d5, d6]
  have hs1 : Row (datF rowo) (datG rowo) = rowo := hs.symm
  have h := lpI (N := N) hrow (datF rowo) (datG rowo) h1 rm tm air bx hg a b s t c n.toNat 0 (by omega)
  unfold ID at h
  rw [show ((0 : Nat) : Int) = 0 from rfl, FK_zero, hs1] at h
  exact ⟨.exit 0, Ie, _, rfl, h⟩
def PS (F : Nat → Int → Nat) (a air tm : Nat) (ht st fu g0 g1 x1 x2 x5 y1 y2 y3 y4 : Nat) (z3 z4 k n N M n'n : Int) (row rowo : Int → List SC) (a'a b'b b c'c c : Nat) (s's s t't t : Int) : Prop :=
  (ht = 0 ∧ st = 0 ∧ fu = 0 ∧ g0 = 0 ∧ g1 = 0 ∧ x1 = 0 ∧ x2 = 0 ∧ x5 = 0 ∧ y1 = 0 ∧ y2 = 0 ∧ y3 = 0 ∧ y4 = 0) ∧ (z3 = 0 ∧ z4 = 0 ∧ k = 0 ∧ N = n ∧ M = n ∧ n'n = n ∧ a'a = a ∧ b'b = b ∧ s's = s ∧ t't = t ∧ c'c = c ∧ rowo = row) ∧ 0 ≤ n ∧ n ≤ 1048576 ∧ Shape ts row ∧ Goo F n a air tm
noncomputable def SF (O : FOps) : List LD → Option (XO × List Bool)
  | .f rm :: .f tm :: .f air :: .f ht :: .i k :: .i N :: .r row :: [.i n, .f a, .f b, .i s, .i t, .f c, .f x1, .f x2, .i z3, .i z4, .f x5, .f y1, .f y2, .f y3, .f y4, .i M, .r rowo, .i n'n, .f a'a, .f b'b, .i s's, .i t't, .f c'c, .f g0, .f g1, .f st, .f fu] =>
    some ([(.t, .exit 0, Se, [.f rm, .f tm, .f air, .f (hS O (datF row) a air tm n.toNat)] ++ SE (datF row) (datG row) (FK O (datF row) a air tm n) (datG row) n rm tm air (hS O (datF row) a air tm n.toNat) (sS O (datF row) a tm n.toNat) (fS O (datF row) a air tm n.toNat) a b s t c)],
      [pB (PS (datF row) a air tm ht st fu g0 g1 x1 x2 x5 y1 y2 y3 y4 z3 z4 k n N M n'n row rowo a'a b'b b c'c c s's s t't t)])
  | _ => none
noncomputable def SL (O : FOps) : List Ly → Top → Option Outs := orIter (cxF O) NS (bodyOf Try.f77 6) (loopL NS 11 70 Sk' [] (SF O))
theorem SL_ok : CodeOK Try.prog NS (.loop (bodyOf Try.f77 6)) (SL fops) := by
  refine orIter_ok (l := Lf fops) okLf mixed 8 (loopL_ok (cx := cxF fops) (lp := fun _ => none) (fun ts => body_ok (l := Lf fops) okLf mixed 8 _ ts) fun p r hr hob => ?_)
  unfold SF at hr
  split at hr <;> cases hr
  rename_i rm tm air ht k N row n a b s t c x1 x2 z3 z4 x5 y1 y2 y3 y4 M rowo n'n a'a b'b s's t't c'c g0 g1 st fu
  obtain ⟨⟨e1, e2, e3, e4, e5, e6, e7, e8, e9, e10, e11, e12⟩, ⟨d1, d2, d3, d4, d5, d6, d7, d8, d9, d10, d11, d12⟩, h0, h1, hs, hg⟩ := pB_iff.1 hob.head
  rw [e1, e2, e3, e4, e5, e6, e7, e8, e9, e10, e11, e12, d1, d2, d3, d4, d5, d6, d7, d8, d9, d10, d11, d12]
  have hs1 : Row (datF row) (datG row) = row := hs.symm
  have h := lpS (datF row) (datG row) (datG row) h1 rm tm air a hg b s t c n.toNat 0 (by omega)
  unfold SD at h
  unfold SE at h ⊢
  rw [show ((0 : Nat) : Int) = 0 from rfl, FK_zero, hs1] at h
  rw [hs1]
  exact ⟨.exit 0, Se, _, rfl, h⟩
/-! ### the whole -/
def nxI (O : FOps) : CS := orS (gS (Nxt.nxG O)) (inl ⟨Try.prog, O, orcN Try.prog O [] 8⟩ Try.f96 noH)
def nxS (O : FOps) : CS := orS (gS (Nxt.nxG O)) (inl ⟨Try.prog, O, orcN Try.prog O [] 8⟩ Try.f93 noH)
set_option maxRecDepth 100000 in
theorem cNxI : CallOK Try.prog 96 (nxI fops) := Nxt.cNI.or (inlN_of (l := []) trivial mixed 8 Try.func96 (by kernel_rfl) (fun _ => none))
set_option maxRecDepth 100000 in
theorem cNxS : CallOK Try.prog 93 (nxS fops) := Nxt.cNS.or (inlN_of (l := []) trivial mixed 8 Try.func93 (by kernel_rfl) (fun _ => none))
def LW' (O : FOps) (nm : Nat → Bool) (vl : (Nat → Nat) → Bool) (fl : Nat → Nat) (nb : Nat → Bool) : List (Nat × CS) := [(95, gS (heldG O)), (80, gQ [.s 1] (finG nm)), (103, floC fl nb), (96, nxI O), (93, nxS O), (65, roS (aC O)), (64, roS (aCS O)), (22, roS (vIC O vl)), (57, roS (vSC O vl))]
noncomputable def cxW (O : FOps) (nm : Nat → Bool) (vl : (Nat → Nat) → Bool) (fl : Nat → Nat) (nb : Nat → Bool) : Cx := ⟨Try.prog, O, orcN Try.prog O (LW' O nm vl fl nb) 8⟩
noncomputable def runI (O : FOps) (nm : Nat → Bool) (vl : (Nat → Nat) → Bool) (fl : Nat → Nat) (nb : Nat → Bool) (h : List (Nat × Bool)) (f w o : Bool) (n N : Int) (row : Int → List SC) (a b : Nat) (s t : Int) (c dr rm tm : Nat) : Option CEff :=
  inl (cxW O nm vl fl nb) Try.f79 ⟨hints h, lpOf [(6, IL O)]⟩ 2 [.a (stL f n a b s t c), .c (.flt .f32 dr), .c (.flt .f32 rm), .c (.flt .f32 tm)] [(1, ⟨w, o, .rows 18 N row⟩)]
noncomputable def runS (O : FOps) (nm : Nat → Bool) (vl : (Nat → Nat) → Bool) (fl : Nat → Nat) (nb : Nat → Bool) (h : List (Nat × Bool)) (f w o w' o' : Bool) (n N : Int) (row : Int → List SC) (a b : Nat) (s t : Int) (c dr rm tm : Nat) : Option CEff :=
  inl (cxW O nm vl fl nb) Try.f77 ⟨hints h, lpOf [(6, SL O)]⟩ 3 [.c (.ptr 2 0), .c (.flt .f32 dr), .c (.flt .f32 rm), .c (.flt .f32 tm)] [(1, ⟨w, o, .rows 18 N row⟩), (2, ⟨w', o', .cells (stL f n a b s t c)⟩)]
end
end Go.Proofs.Ytngdmcbjponlhaa.Fir
end

/- A step of a stove: what the two functions come to. Nothing is assumed. -/
section
namespace Go.Proofs.Ytngdmcbjponlhaa.Fir
open Go SlWood Stv Sto Lgc Aly
noncomputable section
def airI (O : FOps) (b dr : Nat) (s : Int) : Nat :=
  bif decide (s = 0) then 0 else bif !decide (s = 0) && decide (s = 1) then O.bin .mul .f32 (bif O.cmp .gtr .f32 (O.bin .mul .f32 b dr) 1065353216 then 1065353216 else O.bin .mul .f32 b dr) 1056964608
  else bif !decide (s = 0) && (!decide (s = 1) && decide (s = 3)) then O.bin .mul .f32 (bif O.cmp .gtr .f32 (O.bin .mul .f32 b dr) 1065353216 then 1065353216 else O.bin .mul .f32 b dr) 1048576000
  else bif O.cmp .gtr .f32 (O.bin .mul .f32 b dr) 1065353216 then 1065353216 else O.bin .mul .f32 b dr
def gR (O : FOps) (a rm tm : Nat) : Nat := O.bin .mul .f32 (O.bin .mul .f32 1073741824 (O.bin .sub .f32 a rm)) tm
def gU (O : FOps) (a rm air tm : Nat) : Nat := O.bin .mul .f32 (O.bin .mul .f32 (O.bin .mul .f32 1056964608 (O.bin .sub .f32 a rm)) air) tm
def bxN (O : FOps) (a rm air tm ht : Nat) : Nat := heldH O (O.bin .add .f32 a (O.bin .quo .f32 (O.bin .sub .f32 (O.bin .sub .f32 ht (gR O a rm tm)) (gU O a rm air tm)) 1101004800))
def duN (O : FOps) (c fu : Nat) : Nat := O.bin .add .f32 c (O.bin .mul .f32 1101004800 fu)
def whI (O : FOps) (fl : Nat → Nat) (d : Nat) : Nat := O.conv .f64 .f32 (fl (O.conv .f32 .f64 d))
def ashI (O : FOps) (fl : Nat → Nat) (t : Int) (d : Nat) : Int := IntKind.i64.wrap (t + O.toInt .f32 .i64 (whI O fl d))
def bxI (O : FOps) (F : Nat → Int → Nat) (n : Int) (a rm air tm : Nat) : Nat := bxN O a rm air tm (hS O F a air tm n.toNat)
def duI (O : FOps) (F : Nat → Int → Nat) (n : Int) (a air tm c : Nat) : Nat := duN O c (fS O F a air tm n.toNat)
def rwI (O : FOps) (row : Int → List SC) (n : Int) (a air tm : Nat) : Int → List SC := Row (FK O (datF row) a air tm n) (datG row)
def stN (O : FOps) (row : Int → List SC) (n : Int) (a rm air tm : Nat) (s : Int) : Int := Nxt.atm O Nxt.outI s (bxI O (datF row) n a rm air tm) (aR O n (rwI O row n a air tm))
def retI (O : FOps) (vl : (Nat → Nat) → Bool) (fl : Nat → Nat) (n : Int) (row : Int → List SC) (a b : Nat) (s t : Int) (c rm tm air : Nat) : SV :=
  .tup [.a [.sl 8 0 18 (.s n) true, .flt .f32 (bxI O (datF row) n a rm air tm), .flt .f32 b, .int .i8 (.s (stN O row n a rm air tm s)), .int .i64 (.s (ashI O fl t (duI O (datF row) n a air tm c))), .flt .f32 (O.bin .sub .f32 (duI O (datF row) n a air tm c) (whI O fl (duI O (datF row) n a air tm c)))],
    .a [.flt .f32 (gR O a rm tm), .flt .f32 (gU O a rm air tm), .flt .f32 (sS O (datF row) a tm n.toNat), .flt .f32 (fS O (datF row) a air tm n.toNat)],
    .c (.bool (.s (vR O vl n (rwI O row n a air tm) (bxI O (datF row) n a rm air tm) b (stN O row n a rm air tm s) (ashI O fl t (duI O (datF row) n a air tm c)) (O.bin .sub .f32 (duI O (datF row) n a air tm c) (whI O fl (duI O (datF row) n a air tm c))))))]
def retOf : Option CEff → SV
  | some e => e.ret
  | none => .any
set_option maxRecDepth 100000 in
theorem I_ret (O : FOps) (nm : Nat → Bool) (vl : (Nat → Nat) → Bool) (fl : Nat → Nat) (nb : Nat → Bool) (f w o : Bool) (n N : Int) (row : Int → List SC) (a b : Nat) (s t : Int) (c dr rm tm : Nat) :
    retOf (runI O nm vl fl nb [(131, false)] f w o n N row a b s t c dr rm tm) = retI O vl fl n row a b s t c rm tm (airI O b dr s) := by kernel_rfl
def airS (O : FOps) (b dr : Nat) (s : Int) : Nat :=
  bif decide (s = 1) then O.bin .mul .f32 (bif O.cmp .lss .f32 1065353216 (O.bin .mul .f32 b dr) then 1065353216 else O.bin .mul .f32 b dr) 1056964608
  else bif !decide (s = 1) && decide (s = 3) then O.bin .mul .f32 (bif O.cmp .lss .f32 1065353216 (O.bin .mul .f32 b dr) then 1065353216 else O.bin .mul .f32 b dr) 1048576000
  else bif !decide (s = 1) && (!decide (s = 3) && decide (s = 0)) then 0
  else bif O.cmp .lss .f32 1065353216 (O.bin .mul .f32 b dr) then 1065353216 else O.bin .mul .f32 b dr
theorem gtr_lss (x y : Nat) : fops.cmp .gtr .f32 x y = fops.cmp .lss .f32 y x := by
  rw [cmp_gtr, cmp_lss]
  cases nanb .f32 x <;> cases nanb .f32 y <;> rfl
theorem air_eq (b dr : Nat) (s : Int) : airS fops b dr s = airI fops b dr s := by
  unfold airS airI
  rw [gtr_lss]
  by_cases h0 : s = 0
  · subst h0; rfl
  · by_cases h1 : s = 1
    · subst h1; rfl
    · by_cases h3 : s = 3
      · subst h3; rfl
      · rw [decide_eq_false h0, decide_eq_false h1, decide_eq_false h3]; rfl
def whS (O : FOps) (fl : Nat → Nat) (d : Nat) : Int := O.toInt .f64 .i64 (fl (O.conv .f32 .f64 d))
def retS (O : FOps) (fl : Nat → Nat) (n : Int) (row : Int → List SC) (a b : Nat) (s t : Int) (c rm tm air : Nat) : SV :=
  .tup [.a [.sl 8 0 18 (.s n) true, .flt .f32 (bxI O (datF row) n a rm air tm), .flt .f32 b, .int .i8 (.s (stN O row n a rm air tm s)), .int .i64 (.s (IntKind.i64.wrap (t + whS O fl (duI O (datF row) n a air tm c)))), .flt .f32 (O.bin .sub .f32 (duI O (datF row) n a air tm c) (O.ofInt .f32 (whS O fl (duI O (datF row) n a air tm c))))],
    .a [.flt .f32 (gR O a rm tm), .flt .f32 (gU O a rm air tm), .flt .f32 (sS O (datF row) a tm n.toNat), .flt .f32 (fS O (datF row) a air tm n.toNat)],
    .c (.int .i64 (.c 0))]
set_option maxRecDepth 100000 in
theorem S_ret (O : FOps) (nm : Nat → Bool) (vl : (Nat → Nat) → Bool) (fl : Nat → Nat) (nb : Nat → Bool) (f w o w' o' : Bool) (n N : Int) (row : Int → List SC) (a b : Nat) (s t : Int) (c dr rm tm : Nat) :
    retOf (runS O nm vl fl nb [(148, false)] f w o w' o' n N row a b s t c dr rm tm) = retS O fl n row a b s t c rm tm (airS O b dr s) := by kernel_rfl
def prOf : Option CEff → Option (SV × List Bool)
  | some e => some (e.ret, e.obs)
  | none => none
def finI6 (O : FOps) (nm : Nat → Bool) (row : Int → List SC) (n : Int) (a rm air tm c : Nat) : Bool := allB nm [gR O a rm tm, gU O a rm air tm, sS O (datF row) a tm n.toNat, fS O (datF row) a air tm n.toNat, bxI O (datF row) n a rm air tm, duI O (datF row) n a air tm c]
def obFI (O : FOps) (nm : Nat → Bool) (fl : Nat → Nat) (nb : Nat → Bool) (n N : Int) (row : Int → List SC) (a : Nat) (s : Int) (c rm tm air : Nat) : List Bool :=
  [decide (0 ≤ n ∧ n ≤ N ∧ n ≤ 1000000), flatR row, flatR row, pB (PI (datF row) a air tm 0 0 0 0 0 0 0 0 0 0 0 0 0 0 n n 0 n n row row),
   !nb (O.conv .f32 .f64 (duI O (datF row) n a air tm c)), O.convOk .f64 .f32 (fl (O.conv .f32 .f64 (duI O (datF row) n a air tm c))),
   !(bif !finI6 O nm row n a rm air tm c then true else O.cmp .gtr .f32 (whI O fl (duI O (datF row) n a air tm c)) 1240736768),
   O.toIntOk .f32 .i64 (whI O fl (duI O (datF row) n a air tm c)), flatR (rwI O row n a air tm), okN n n (rwI O row n a air tm), flatR (rwI O row n a air tm), okV n n (stN O row n a rm air tm s) (rwI O row n a air tm)]
set_option maxRecDepth 100000 in
theorem I_obs (O : FOps) (nm : Nat → Bool) (vl : (Nat → Nat) → Bool) (fl : Nat → Nat) (nb : Nat → Bool) (f w o : Bool) (n N : Int) (row : Int → List SC) (a b : Nat) (s t : Int) (c dr rm tm : Nat) :
    prOf (runI O nm vl fl nb [(131, false)] f w o n N row a b s t c dr rm tm) = some (retI O vl fl n row a b s t c rm tm (airI O b dr s), obFI O nm fl nb n N row a s c rm tm (airI O b dr s)) := by kernel_rfl
def vNS (O : FOps) (vl : (Nat → Nat) → Bool) (fl : Nat → Nat) (n : Int) (row : Int → List SC) (a b : Nat) (s t : Int) (c rm tm air : Nat) : Bool :=
  vR O vl n (rwI O row n a air tm) (bxI O (datF row) n a rm air tm) b (stN O row n a rm air tm s) (IntKind.i64.wrap (t + whS O fl (duI O (datF row) n a air tm c))) (O.bin .sub .f32 (duI O (datF row) n a air tm c) (O.ofInt .f32 (whS O fl (duI O (datF row) n a air tm c))))
def obFS (O : FOps) (vl : (Nat → Nat) → Bool) (fl : Nat → Nat) (nb : Nat → Bool) (n N : Int) (row : Int → List SC) (a b : Nat) (s t : Int) (c rm tm air : Nat) : List Bool :=
  [decide (0 ≤ n ∧ n ≤ N ∧ n ≤ 1000000), flatR row, flatR row, pB (PS (datF row) a air tm 0 0 0 0 0 0 0 0 0 0 0 0 0 0 0 n N n n row row a b b c c s s t t),
   !nb (O.conv .f32 .f64 (duI O (datF row) n a air tm c)), O.toIntOk .f64 .i64 (fl (O.conv .f32 .f64 (duI O (datF row) n a air tm c))),
   flatR (rwI O row n a air tm), okN n n (rwI O row n a air tm), flatR (rwI O row n a air tm), okV n n (stN O row n a rm air tm s) (rwI O row n a air tm), !!vNS O vl fl n row a b s t c rm tm air]
set_option maxRecDepth 100000 in
theorem S_obs (O : FOps) (nm : Nat → Bool) (vl : (Nat → Nat) → Bool) (fl : Nat → Nat) (nb : Nat → Bool) (f w o w' o' : Bool) (n N : Int) (row : Int → List SC) (a b : Nat) (s t : Int) (c dr rm tm : Nat) :
    prOf (runS O nm vl fl nb [(148, false)] f w o w' o' n N row a b s t c dr rm tm) = some (retS O fl n row a b s t c rm tm (airS O b dr s), obFS O vl fl nb n N row a b s t c rm tm (airS O b dr s)) := by kernel_rfl
end
end Go.Proofs.Ytngdmcbjponlhaa.Fir
end

/- Bounds in a stove's step. Nothing is assumed. -/
section
namespace Go.Proofs.Ytngdmcbjponlhaa.Fir
open Go SlWood Stv Sto Lgc Aly
noncomputable section
theorem k60 : key .f32 3262119936 = -1114636288 := by decide +kernel
theorem key_less {x : Nat} (h : x < 2147483648) : key .f32 x = x := by
  unfold key negB rung
  rw [s32]
  have h1 : x / 2147483648 = 0 := Nat.div_eq_of_lt h
  simp [h1, Nat.mod_eq_of_lt h]
theorem key_rung {x : Nat} {m : Nat} (h1 : -(m : Int) ≤ key .f32 x) (h2 : key .f32 x ≤ m) : rung .f32 x ≤ m := by
  revert h1 h2
  unfold key
  cases negB .f32 x
  · intro _ h2
    have h2' : (rung .f32 x : Int) ≤ m := h2
    omega
  · intro h1 _
    have h1' : -(m : Int) ≤ -(rung .f32 x : Int) := h1
    omega
theorem bd_between {a hi : Nat} (h1 : fops.cmp .geq .f32 a 3262119936 = true) (h2 : fops.cmp .leq .f32 a hi = true) (g1 : 1114636288 ≤ hi) (g2 : hi < 2139095040) : Bd a hi := by
  rw [cmp_geq, k60] at h1
  rw [cmp_leq, key_less (by omega : hi < 2147483648)] at h2
  simp only [Bool.and_eq_true, Bool.not_eq_true', decide_eq_true_eq] at h1 h2
  have hr : rung .f32 a ≤ hi := key_rung (by omega) h2.2
  exact ⟨⟨h1.1.1, by omega⟩, hr⟩
theorem hot_bd {a : Nat} (h : hotB fops a = true) : Bd a 1153138688 := by
  unfold hotB at h
  cases h1 : fops.cmp .geq .f32 a 3262119936 with
  | false => rw [h1] at h; cases h
  | true => rw [h1] at h; exact bd_between h1 h (by decide) (by decide)
/-- What flows into a valid log is a number. -/
theorem in_num {w : Nat → Nat} (hw : Bd (w 6) 1153138688) {r t : Nat} (hr : Bd r 1153138688) (ht : Share t) : isNum (inI fops w r t) = true := by
  unfold inI flow
  unfold Share at ht
  have h1 := Bd.sub hr hw (r := 1161527296) (by decide) (by decide +kernel)
  have h2 := Bd.mul (x := 1056964608) (a := 1056964608) (r := 1161527296) (bd_small (Nat.le_refl _) (by decide)) h1 (by decide) (by decide +kernel)
  exact (Bd.mul h2 (bd_small ht (by decide)) (r := 1161527296) (by decide) (by decide +kernel)).num
end
end Go.Proofs.Ytngdmcbjponlhaa.Fir
end

/- The floor of a small float is a small whole number. Nothing is assumed. -/
section
namespace Go.Proofs.Ytngdmcbjponlhaa
open Go
noncomputable section
set_option exponentiation.threshold 3000
theorem lp64 : FloatKind.f64.format.leastPlace = -1074 := by decide +kernel
theorem lp32 : FloatKind.f32.format.leastPlace = -149 := by decide +kernel
theorem in64 : FloatKind.f64.format.infRung = 9218868437227405312 := by decide +kernel
theorem un8k : un 1174405120 = 2 ^ 162 := by decide +kernel
theorem un8k64 : units FloatKind.f64.format.binade 4665729213955833856 = 2 ^ 1087 := by decide +kernel
theorem conv8k {d : Nat} (h : d ≤ 1174405120) : ∃ r, r ≤ 4665729213955833856 ∧ fops.conv .f32 .f64 d = r := by
  have hf := fin_small (x := d) (by omega)
  obtain ⟨m, e, h1, h2, h3⟩ := fin_read hf
  have hd' : FloatKind.f32.decode d = .number (negB .f32 d) m e := h1
  have hn := conv_fin hd'
  have hc : fops.conv .f32 .f64 d = FloatKind.f64.encode (.number (negB .f32 d) m e) := by
    show (floatToFloatBits .f32 d .f64).getD (qnan .f64) = _
    unfold floatToFloatBits
    rw [if_neg (by decide), hd']
    simp [hn]
  rw [neg_small (x := d) (by omega)] at hc
  rw [lp32] at h2 h3
  have hu : units FloatKind.f32.format.binade (rung .f32 d) ≤ 2 ^ 162 := by
    rw [rung_small (by omega), ← un8k]; exact un_le h
  have key : m * 2 ^ (e - FloatKind.f64.format.leastPlace).toNat ≤ units FloatKind.f64.format.binade 4665729213955833856 * 2 ^ (FloatKind.f64.format.leastPlace - e).toNat := by
    rw [lp64]
    have e1 : (-1074 - e).toNat = 0 := by omega
    have e2 : (e - -1074).toNat = (e - -149).toNat + 925 := by omega
    rw [e1, e2, Nat.pow_zero, Nat.mul_one, Nat.pow_add, ← Nat.mul_assoc, h3, un8k64]
    calc _ ≤ 2 ^ 162 * 2 ^ 925 := Nat.mul_le_mul_right _ hu
      _ = 2 ^ 1087 := by rw [← Nat.pow_add]
  obtain ⟨r, g1, _, g3⟩ := nearest_le .f64 false key
  refine ⟨r, g1, ?_⟩
  rw [hc]
  exact g3
theorem read64 {r : Nat} (hr : r ≤ 4665729213955833856) : ∃ m e, FloatKind.f64.format.read r = .number false m e ∧ -1074 ≤ e ∧ m * 2 ^ (e - -1074).toNat ≤ 2 ^ 1087 := by
  have hs : FloatKind.f64.format.signWeight = 9223372036854775808 := s64
  have hm : r % FloatKind.f64.format.signWeight = r := by rw [hs]; exact Nat.mod_eq_of_lt (by omega)
  have hn : nanb .f64 r = false := by
    unfold nanb FloatKind.decode
    rw [read_nan, hm, in64]
    simp; omega
  have hneg : negB .f64 r = false := by
    unfold negB
    rw [hs, Nat.div_eq_of_lt (by omega)]; rfl
  rcases read_cases .f64 r hn with ⟨m, e, h1, h2, h3, _⟩ | ⟨_, h4⟩
  · rw [hneg] at h1
    rw [lp64] at h2 h3
    refine ⟨m, e, h1, h2, ?_⟩
    rw [h3, ← un8k64]
    unfold rung
    rw [hm]
    exact units_le (binade_pos .f64) hr
  · unfold rung at h4
    rw [hm, in64] at h4
    omega
theorem cut_down (n drop : Nat) : Ieee.Toward.down.cut false n drop * 2 ^ drop ≤ n := by
  unfold Ieee.Toward.cut
  simp only [Bool.false_and, Bool.toNat_false, Nat.add_zero, Nat.one_shiftLeft]
  by_cases h : drop ≤ n.log2 + 2
  · rw [Nat.min_eq_left h]
    exact Nat.div_mul_le_self _ _
  · rw [Nat.min_eq_right (by omega)]
    have h1 : n < 2 ^ (n.log2 + 1) := Nat.lt_log2_self
    have h2 : n < 2 ^ (n.log2 + 2) := Nat.lt_of_lt_of_le h1 (Nat.pow_le_pow_right (by decide) (by omega))
    rw [Nat.div_eq_of_lt h2, Nat.zero_mul]
    exact Nat.zero_le _
theorem flv8k {r : Nat} (hr : r ≤ 4665729213955833856) : ∃ m : Nat, m ≤ 8192 ∧ flv r = FloatKind.f64.nearest m := by
  obtain ⟨m, e, h1, h2, h3⟩ := read64 hr
  unfold flv
  rw [h1]
  refine ⟨Ieee.Toward.down.cut false (m <<< e.toNat) (-e).toNat, ?_, ?_⟩
  · have h4 := cut_down (m <<< e.toNat) (-e).toNat
    generalize Ieee.Toward.down.cut false (m <<< e.toNat) (-e).toNat = q at h4
    rw [Nat.shiftLeft_eq] at h4
    have h5 : q * 2 ^ (-e).toNat * 2 ^ 1074 ≤ 2 ^ 13 * 2 ^ (-e).toNat * 2 ^ 1074 := by
      refine Nat.le_trans (Nat.mul_le_mul_right _ h4) ?_
      by_cases he : 0 ≤ e
      · have e1 : (-e).toNat = 0 := by omega
        have e2 : (e - -1074).toNat = e.toNat + 1074 := by omega
        rw [e2, Nat.pow_add, ← Nat.mul_assoc] at h3
        rw [e1, Nat.pow_zero, Nat.mul_one]
        exact h3
      · have e1 : e.toNat = 0 := by omega
        rw [e1, Nat.pow_zero, Nat.mul_one]
        have e3 : 1074 = (e - -1074).toNat + (-e).toNat := by omega
        have e4 : (2 : Nat) ^ 1074 = 2 ^ (e - -1074).toNat * 2 ^ (-e).toNat := by rw [← Nat.pow_add, ← e3]
        rw [e4]
        calc m * (2 ^ (e - -1074).toNat * 2 ^ (-e).toNat) = m * 2 ^ (e - -1074).toNat * 2 ^ (-e).toNat := (Nat.mul_assoc _ _ _).symm
          _ ≤ 2 ^ 1087 * 2 ^ (-e).toNat := Nat.mul_le_mul_right _ h3
          _ = 2 ^ 13 * 2 ^ (-e).toNat * 2 ^ 1074 := by
            rw [Nat.mul_right_comm, ← Nat.pow_add 2 13 1074]
          _ = 2 ^ 13 * 2 ^ (-e).toNat * (2 ^ (e - -1074).toNat * 2 ^ (-e).toNat) := by rw [← e4]
    have h6 := Nat.le_of_mul_le_mul_right h5 (Nat.two_pow_pos 1074)
    exact Nat.le_of_mul_le_mul_right h6 (Nat.two_pow_pos _)
  · show FloatKind.f64.format.write (.number false (Ieee.Toward.down.cut false (m <<< e.toNat) (-e).toNat) 0) = FloatKind.f64.encode (.number (decide (((Ieee.Toward.down.cut false (m <<< e.toNat) (-e).toNat : Nat) : Int) < 0)) (Int.natAbs _) 0)
    rw [Int.natAbs_natCast, decide_eq_false (by omega)]
    rfl
/-- What is asked of a small whole number. -/
def whOK (m : Nat) : Bool :=
  decide ((floatToIntVal .f64 (FloatKind.f64.nearest m) .i64) = some (m : Int)) && (decide (floatToFloatBits .f64 (FloatKind.f64.nearest m) .f32 = some (FloatKind.f32.nearest m)) &&
  (decide ((floatToIntVal .f32 (FloatKind.f32.nearest m) .i64) = some (m : Int)) && decide (FloatKind.f32.nearest m ≤ 1174405120)))
def below (p : Nat → Bool) : Nat → Nat → Bool
  | 0, a => p a
  | k + 1, a => below p k a && below p k (a + 2 ^ k)
theorem below_ok {p : Nat → Bool} : ∀ {k a : Nat}, below p k a = true → ∀ m, a ≤ m → m < a + 2 ^ k → p m = true
  | 0, a, h, m, h1, h2 => by
    have : m = a := by simp at h2; omega
    subst this; exact h
  | k + 1, a, h, m, h1, h2 => by
    simp only [below, Bool.and_eq_true] at h
    by_cases hm : m < a + 2 ^ k
    · exact below_ok h.1 m h1 hm
    · exact below_ok h.2 m (by omega) (by rw [Nat.pow_succ] at h2; omega)
theorem wh_0 : below whOK 9 0 = true := by decide +kernel
theorem wh_1 : below whOK 9 512 = true := by decide +kernel
theorem wh_2 : below whOK 9 1024 = true := by decide +kernel
theorem wh_3 : below whOK 9 1536 = true := by decide +kernel
theorem wh_4 : below whOK 9 2048 = true := by decide +kernel
theorem wh_5 : below whOK 9 2560 = true := by decide +kernel
theorem wh_6 : below whOK 9 3072 = true := by decide +kernel
theorem wh_7 : below whOK 9 3584 = true := by decide +kernel
theorem wh_8 : below whOK 9 4096 = true := by decide +kernel
theorem wh_9 : below whOK 9 4608 = true := by decide +kernel
theorem wh_10 : below whOK 9 5120 = true := by decide +kernel
theorem wh_11 : below whOK 9 5632 = true := by decide +kernel
theorem wh_12 : below whOK 9 6144 = true := by decide +kernel
theorem wh_13 : below whOK 9 6656 = true := by decide +kernel
theorem wh_14 : below whOK 9 7168 = true := by decide +kernel
theorem wh_15 : below whOK 9 7680 = true := by decide +kernel
theorem wh_last : whOK 8192 = true := by decide +kernel
theorem wh_ok {m : Nat} (h : m ≤ 8192) : whOK m = true := by
  have h9 : (2 : Nat) ^ 9 = 512 := by decide
  by_cases h0 : m < 512
  · exact below_ok wh_0 m (by omega) (by rw [h9]; omega)
  by_cases h1 : m < 1024
  · exact below_ok wh_1 m (by omega) (by rw [h9]; omega)
  by_cases h2 : m < 1536
  · exact below_ok wh_2 m (by omega) (by rw [h9]; omega)
  by_cases h3 : m < 2048
  · exact below_ok wh_3 m (by omega) (by rw [h9]; omega)
  by_cases h4 : m < 2560
  · exact below_ok wh_4 m (by omega) (by rw [h9]; omega)
  by_cases h5 : m < 3072
  · exact below_ok wh_5 m (by omega) (by rw [h9]; omega)
  by_cases h6 : m < 3584
  · exact below_ok wh_6 m (by omega) (by rw [h9]; omega)
  by_cases h7 : m < 4096
  · exact below_ok wh_7 m (by omega) (by rw [h9]; omega)
  by_cases h8 : m < 4608
  · exact below_ok wh_8 m (by omega) (by rw [h9]; omega)
  by_cases hh9 : m < 5120
  · exact below_ok wh_9 m (by omega) (by rw [h9]; omega)
  by_cases h10 : m < 5632
  · exact below_ok wh_10 m (by omega) (by rw [h9]; omega)
  by_cases h11 : m < 6144
  · exact below_ok wh_11 m (by omega) (by rw [h9]; omega)
  by_cases h12 : m < 6656
  · exact below_ok wh_12 m (by omega) (by rw [h9]; omega)
  by_cases h13 : m < 7168
  · exact below_ok wh_13 m (by omega) (by rw [h9]; omega)
  by_cases h14 : m < 7680
  · exact below_ok wh_14 m (by omega) (by rw [h9]; omega)
  by_cases h15 : m < 8192
  · exact below_ok wh_15 m (by omega) (by rw [h9]; omega)
  have e : m = 8192 := by omega
  subst e; exact wh_last
/-- What both functions make of the floor of a small float. -/
structure Whole (d : Nat) (m : Nat) : Prop where
  le : m ≤ 8192
  fl : flv (fops.conv .f32 .f64 d) = FloatKind.f64.nearest m
  nn : nanb .f64 (fops.conv .f32 .f64 d) = false
  i64 : fops.toInt .f64 .i64 (flv (fops.conv .f32 .f64 d)) = m
  i64ok : fops.toIntOk .f64 .i64 (flv (fops.conv .f32 .f64 d)) = true
  f32 : fops.conv .f64 .f32 (flv (fops.conv .f32 .f64 d)) = fops.ofInt .f32 m
  f32ok : fops.convOk .f64 .f32 (flv (fops.conv .f32 .f64 d)) = true
  i32 : fops.toInt .f32 .i64 (fops.ofInt .f32 m) = m
  i32ok : fops.toIntOk .f32 .i64 (fops.ofInt .f32 m) = true
  big : fops.cmp .gtr .f32 (fops.ofInt .f32 m) 1240736768 = false
theorem whole_of {d : Nat} (h : d ≤ 1174405120) : ∃ m, Whole d m := by
  obtain ⟨r, h1, h2⟩ := conv8k h
  obtain ⟨m, h3, h4⟩ := flv8k h1
  have hw := wh_ok h3
  unfold whOK at hw
  simp only [Bool.and_eq_true, decide_eq_true_eq] at hw
  obtain ⟨w1, w2, w3, w4⟩ := hw
  have hfl : flv (fops.conv .f32 .f64 d) = FloatKind.f64.nearest m := by rw [h2]; exact h4
  refine ⟨m, h3, hfl, (conv_num (fin_small (x := d) (by omega)).num).1, ?_, ?_, ?_, ?_, ?_, ?_, ?_⟩
  · rw [hfl]
    show (floatToIntVal .f64 _ .i64).getD 0 = _
    rw [w1]; rfl
  · rw [hfl]
    show (floatToIntVal .f64 _ .i64).isSome = true
    rw [w1]; rfl
  · rw [hfl]
    show (floatToFloatBits .f64 _ .f32).getD (qnan .f32) = FloatKind.f32.nearest m
    rw [w2]; rfl
  · rw [hfl]
    show ((floatToFloatBits .f64 _ .f32).isSome || _) = true
    rw [w2]; rfl
  · show (floatToIntVal .f32 (FloatKind.f32.nearest m) .i64).getD 0 = _
    rw [w3]; rfl
  · show (floatToIntVal .f32 (FloatKind.f32.nearest m) .i64).isSome = true
    rw [w3]; rfl
  · exact gtr_of_key (by decide) (by
      have hs : FloatKind.f32.nearest m < 2147483648 := by omega
      show key .f32 (FloatKind.f32.nearest m) ≤ _
      unfold key negB rung
      rw [s32, Nat.div_eq_of_lt hs, Nat.mod_eq_of_lt hs]
      show (FloatKind.f32.nearest m : Int) ≤ _
      omega)
end
end Go.Proofs.Ytngdmcbjponlhaa
end

/- A stove's step: all that it computes is finite. Nothing is assumed. -/
section
namespace Go.Proofs.Ytngdmcbjponlhaa.Fir
open Go SlWood Stv Sto Lgc Aly
noncomputable section
/-! ### sums of many small numbers -/
/-- The word of 'k' times 'S'. -/
def W (S k : Nat) : Nat := FloatKind.f32.nearest ((S * k : Nat) : Int)
def chkW (S k : Nat) : Bool := decide (un (W S k) = S * k * 2 ^ 149) && decide (W S k < 2139095040)
def tblOK (S : Nat) : Nat → Bool
  | 0 => chkW S 0
  | k + 1 => chkW S (k + 1) && tblOK S k
theorem chk_ok {S k : Nat} (h : chkW S k = true) : un (W S k) = S * k * 2 ^ 149 ∧ W S k < 2139095040 := by
  unfold chkW at h
  rw [Bool.and_eq_true] at h
  exact ⟨of_decide_eq_true h.1, of_decide_eq_true h.2⟩
theorem tbl_at {S K : Nat} (h : tblOK S K = true) (k : Nat) (hk : k ≤ K) : un (W S k) = S * k * 2 ^ 149 ∧ W S k < 2139095040 := by
  refine chk_ok ?_
  induction K with
  | zero =>
    obtain rfl : k = 0 := Nat.le_zero.1 hk
    exact h
  | succ K ih =>
    have h' : (chkW S (K + 1) && tblOK S K) = true := h
    rw [Bool.and_eq_true] at h'
    rcases Nat.lt_or_eq_of_le hk with e | e
    · exact ih h'.2 (Nat.le_of_lt_succ e)
    · rw [e]; exact h'.1
set_option maxRecDepth 100000 in
theorem tA : tblOK 8192 400 = true := by decide +kernel
set_option maxRecDepth 100000 in
theorem tB : tblOK 512 400 = true := by decide +kernel
set_option maxRecDepth 100000 in
theorem tC : tblOK 524288 6 = true := by decide +kernel
set_option maxRecDepth 100000 in
theorem tD : tblOK 64 6 = true := by decide +kernel
theorem unW {S K : Nat} (h : tblOK S K = true) {k : Nat} (hk : k + 1 ≤ K) : un (W S k) + un (W S 1) ≤ un (W S (k + 1)) := by
  rw [(tbl_at h k (by omega)).1, (tbl_at h 1 (by omega)).1, (tbl_at h (k + 1) hk).1, ← Nat.add_mul, Nat.mul_add]
  exact Nat.le_refl _
theorem bd_addW {S K : Nat} (h : tblOK S K = true) {k : Nat} (hk : k + 1 ≤ K) {x y : Nat} (hx : Bd x (W S k)) (hy : Bd y (W S 1)) : Bd (fops.bin .add .f32 x y) (W S (k + 1)) :=
  Bd.add hx hy (tbl_at h (k + 1) hk).2 (unW h hk)
theorem amt_addW {S K : Nat} (h : tblOK S K = true) {k : Nat} (hk : k + 1 ≤ K) {x y : Nat} (hx : x ≤ W S k) (hy : y ≤ W S 1) : fops.bin .add .f32 x y ≤ W S (k + 1) :=
  add_amt hx hy (tbl_at h k (by omega)).2 (tbl_at h 1 (by omega)).2 (unW h hk)
theorem bd0 {S K : Nat} (h : tblOK S K = true) : Bd 0 (W S 0) := bd_small (Nat.zero_le _) (tbl_at h 0 (Nat.zero_le _)).2
/-! ### the air -/
theorem gtr_word {x : Nat} (hx : x < 2139095040) (h : fops.cmp .gtr .f32 x 1065353216 = false) : x ≤ 1065353216 := by
  have k1 := key_word (x := x) (by omega)
  have k2 := key_word (x := 1065353216) (by decide)
  rw [cmp_gtr, k1.1, k2.1, k1.2, k2.2] at h
  simp only [Bool.not_false, Bool.true_and, decide_eq_false_iff_not] at h
  omega
theorem half_share {x c : Nat} (hx : x ≤ 1065353216) (hc : c ≤ 1065353216) : fops.bin .mul .f32 x c ≤ 1065353216 :=
  (mul_le (r := 1065353216) (by omega) (by omega) (Nat.le_trans (Nat.mul_le_mul (un_le hx) (un_le hc)) (by decide +kernel))).1
theorem share_air {b dr : Nat} (hb : Share b) (hd : dr < 2139095040) (s : Int) : Share (airI fops b dr s) := by
  unfold Share at hb ⊢
  have e1 : un 1065353216 = 2 ^ 149 := by decide +kernel
  have hp : fops.bin .mul .f32 b dr ≤ dr := (mul_le (r := dr) (by omega) hd (by
    have h1 : un b ≤ 2 ^ 149 := by rw [← e1]; exact un_le hb
    rw [Nat.mul_comm (units FloatKind.f32.format.binade dr)]
    exact Nat.mul_le_mul_right _ h1)).1
  have hx : (bif fops.cmp .gtr .f32 (fops.bin .mul .f32 b dr) 1065353216 then 1065353216 else fops.bin .mul .f32 b dr) ≤ 1065353216 := by
    cases h : fops.cmp .gtr .f32 (fops.bin .mul .f32 b dr) 1065353216 with
    | true => exact Nat.le_refl _
    | false =>
      show fops.bin .mul .f32 b dr ≤ _
      exact gtr_word (Nat.lt_of_le_of_lt hp hd) h
  unfold airI
  cases decide (s = 0)
  · cases decide (s = 1)
    · cases decide (s = 3)
      · exact hx
      · exact half_share hx (by decide)
    · exact half_share hx (by decide)
  · exact Nat.zero_le _
/-! ### one log -/
theorem in_bd {w : Nat → Nat} (hw : Bd (w 6) 1153138688) {r t : Nat} (hr : Bd r 1153138688) (ht : Share t) : Bd (inI fops w r t) 1161527296 := by
  unfold inI flow
  unfold Share at ht
  have h1 := Bd.sub hr hw (r := 1161527296) (by decide) (by decide +kernel)
  have h2 := Bd.mul (x := 1056964608) (a := 1056964608) (r := 1161527296) (bd_small (Nat.le_refl _) (by decide)) h1 (by decide) (by decide +kernel)
  exact Bd.mul h2 (bd_small ht (by decide)) (r := 1161527296) (by decide) (by decide +kernel)
theorem ht_bd {w : Nat → Nat} (hi : Inv w) (hw : Bd (w 6) 1153138688) {r a t : Nat} (hr : Bd r 1153138688) (ha : Share a) (ht : Share t) : Bd (htF fops w r a t) (W 524288 1) := by
  unfold htF
  have h1 := given_eq (inv2 (r := r) hi ht) ha ht
  rw [h1.1]
  exact Bd.sub (bd_small h1.2 (by decide)) (in_bd hw hr ht) (tbl_at tC 1 (by decide)).2 (by decide +kernel)
theorem sm_le {w : Nat → Nat} (hi : Inv w) {r t : Nat} (ht : Share t) : smF fops w r t ≤ W 64 1 := by
  unfold smF
  have h1 := steam_eq (inv1 (r := r) (t := t) hi) ht
  rw [h1.1]
  exact Nat.le_trans h1.2 (by decide +kernel)
theorem fu_le {w : Nat → Nat} (hi : Inv w) {r a t : Nat} (ha : Share a) (ht : Share t) : fuF fops w r a t ≤ W 64 1 := by
  unfold fuF
  have h1 := burnt_eq (inv2 (r := r) hi ht) ha ht
  rw [h1.1]
  exact Nat.le_trans h1.2 (by decide +kernel)
/-! ### what a stove's step asks for -/
structure FP (n : Int) (row : Int → List SC) (a b : Nat) (s t : Int) (c dr rm tm : Nat) : Prop where
  n0 : 0 ≤ n
  sh : Shape ts row
  cn : ∀ (k : Int) (i : Nat), 0 ≤ k → k < n → i < 18 → Cn .f32 (wk (datF row) k i)
  ok : vR fops valid n row a b s t c = true
  dr : dr < 2139095040
  rm : Bd rm 1153138688
  tm : Share tm
theorem eqFrom_at {q : Int → Bool} : ∀ {m : Nat} {k : Int}, eqFrom q k m = true → ∀ j, k ≤ j → j < k + m → q j = true
  | 0, k, _, j, h1, h2 => by omega
  | m + 1, k, h, j, h1, h2 => by
    unfold eqFrom at h
    cases hq : q k with
    | false => rw [hq] at h; cases h
    | true =>
      rw [hq] at h
      by_cases e : j = k
      · subst e; exact hq
      · exact eqFrom_at (q := q) (m := m) (k := k + 1) h j (by omega) (by omega)
structure VP (n : Int) (row : Int → List SC) (a b : Nat) (s t : Int) (c : Nat) : Prop where
  six : n ≤ 6
  logs : ∀ k, 0 ≤ k → k < n → valid (wk (datF row) k) = true
  box : Bd a 1153138688
  dam : Share b
  s0 : 0 ≤ s
  s1 : s ≤ 3
  t0 : 0 ≤ t
  t1 : t ≤ 1000000
  dust : c ≤ 1065353216
theorem lss_word {c : Nat} (hc : c < 2139095040) (h : fops.cmp .lss .f32 c 1065353216 = true) : c ≤ 1065353216 := by
  have k1 := key_word (x := c) (by omega)
  have k2 := key_word (x := 1065353216) (by decide)
  rw [cmp_lss, k1.1, k2.1, k1.2, k2.2] at h
  simp only [Bool.not_false, Bool.true_and, decide_eq_true_eq] at h
  omega
theorem vp_of {n : Int} {row : Int → List SC} {a b : Nat} {s t : Int} {c : Nat} (h0 : 0 ≤ n) (h : vR fops valid n row a b s t c = true) : VP n row a b s t c := by
  have h6 := vR_six h
  unfold vR vI at h
  rw [decide_eq_false (show ¬ 6 < n by omega)] at h
  cases hQ : eqFrom (qV valid (datF row)) 0 n.toNat with
  | false => rw [hQ] at h; cases h
  | true =>
    rw [hQ] at h
    simp only [cond_false, Bool.not_true] at h
    cases hg : (bif fops.cmp .geq .f32 a 3262119936 then fops.cmp .leq .f32 a 1153138688 else false) with
    | false => rw [hg] at h; cases h
    | true =>
      rw [hg] at h
      simp only [cond_true] at h
      cases hsh : shr fops b with
      | false => rw [hsh] at h; cases h
      | true =>
        rw [hsh] at h
        simp only [cond_true] at h
        cases e1 : decide (0 ≤ s) with
        | false => rw [e1] at h; cases h
        | true =>
          cases e2 : decide (s ≤ 3) with
          | false => rw [e1, e2] at h; cases h
          | true =>
            cases e3 : decide (0 ≤ t) with
            | false => rw [e1, e2, e3] at h; cases h
            | true =>
              cases e4 : decide (t ≤ 1000000) with
              | false => rw [e1, e2, e3, e4] at h; cases h
              | true =>
                cases e5 : decide (c < 2139095040) with
                | false => rw [e1, e2, e3, e4, e5] at h; cases h
                | true =>
                  rw [e1, e2, e3, e4, e5] at h
                  simp only [cond_true] at h
                  refine ⟨h6, fun k hk1 hk2 => ?_, hot_bd (show hotB fops a = true from hg), ?_, of_decide_eq_true e1, of_decide_eq_true e2, of_decide_eq_true e3, of_decide_eq_true e4, lss_word (of_decide_eq_true e5) h⟩
                  · exact eqFrom_at hQ k hk1 (by omega)
                  · unfold shr at hsh
                    cases hb : decide (b < 2139095040) with
                    | false => rw [hb] at hsh; cases hsh
                    | true =>
                      rw [hb] at hsh
                      have hb' := of_decide_eq_true hb
                      have k1 := key_word (x := b) (by omega)
                      have k2 := key_word (x := 1065353216) (by decide)
                      simp only [cond_true] at hsh
                      rw [cmp_leq, k1.1, k2.1, k1.2, k2.2] at hsh
                      simp only [Bool.not_false, Bool.true_and, decide_eq_true_eq] at hsh
                      unfold Share; omega
theorem valid_w6 {w : Nat → Nat} (h : valid w = true) : Bd (w 6) 1153138688 := by
  have h1 := six_all h 0 (by decide)
  have h2 : good w 0 = true := by simpa using h1
  unfold good at h2
  simp only [Bool.and_eq_true] at h2
  exact hot_bd h2.2.2
theorem quo_nn {x : Nat} (hx : Fin x) : nanb .f32 (fops.bin .quo .f32 x 1101004800) = false := by
  have hdef : fops.bin .quo .f32 x 1101004800 = (((FloatKind.f32.format.read x).quotient (FloatKind.f32.format.fractionBits + 2) (FloatKind.f32.format.read 1101004800)).map FloatKind.f32.format.write).getD (qnan .f32) := rfl
  obtain ⟨m, i, h1, _⟩ := fin_read hx
  have h20 : FloatKind.f32.format.read 1101004800 = .number false 10485760 (-19) := by decide +kernel
  rw [hdef, h1, h20]
  simp only [Ieee.Datum.quotient, if_neg (show ¬ (10485760 : Nat) = 0 by decide), Option.map_some, Option.getD_some]
  exact write_not_nan _ _ rfl
theorem add_nn {x y : Nat} (hx : Fin x) (hy : nanb .f32 y = false) : nanb .f32 (fops.bin .add .f32 x y) = false := by
  have hdef : fops.bin .add .f32 x y = (((FloatKind.f32.format.read x).sum (FloatKind.f32.format.read y)).map FloatKind.f32.format.write).getD (qnan .f32) := rfl
  obtain ⟨m, i, h1, _⟩ := fin_read hx
  rw [hdef, h1]
  rcases read_cases .f32 y hy with ⟨m2, i2, h2, _⟩ | ⟨h2, _⟩
  · rw [h2]
    simp only [Ieee.Datum.sum, Option.map_some, Option.getD_some]
    exact write_not_nan _ _ rfl
  · rw [h2]
    simp only [Ieee.Datum.sum, Option.map_some, Option.getD_some]
    exact write_not_nan _ _ rfl
theorem held_num {x : Nat} (hx : nanb .f32 x = false) : isNum (heldH fops x) = true := by
  unfold heldH
  have n1 : nanb .f32 3262119936 = false := by decide +kernel
  have n2 : nanb .f32 1153138688 = false := by decide +kernel
  have i1 : isNum 3262119936 = true := by decide +kernel
  have i2 : isNum 1153138688 = true := by decide +kernel
  cases h1 : fops.cmp .lss .f32 x 3262119936 with
  | true => exact i1
  | false =>
    cases h2 : fops.cmp .gtr .f32 x 1153138688 with
    | true => exact i2
    | false =>
      show isNum x = true
      rw [cmp_lss, hx, n1, k60] at h1
      rw [cmp_gtr, hx, n2, key_less (by decide : (1153138688 : Nat) < 2147483648)] at h2
      simp only [Bool.not_false, Bool.true_and, decide_eq_false_iff_not] at h1 h2
      have hr : rung .f32 x ≤ 1153138688 := key_rung (by omega) (by omega)
      exact (show Fin x from ⟨hx, by omega⟩).num
theorem word_num' {x r : Nat} (hr : r < 2139095040) (hx : x ≤ r) : isNum x = true := (fin_small (by omega)).num
theorem W64_mono {k : Nat} (hk : k ≤ 6) : W 64 k ≤ W 512 1 := by
  match k, hk with
  | 0, _ => exact (by decide +kernel : W 64 0 ≤ W 512 1)
  | 1, _ => exact (by decide +kernel : W 64 1 ≤ W 512 1)
  | 2, _ => exact (by decide +kernel : W 64 2 ≤ W 512 1)
  | 3, _ => exact (by decide +kernel : W 64 3 ≤ W 512 1)
  | 4, _ => exact (by decide +kernel : W 64 4 ≤ W 512 1)
  | 5, _ => exact (by decide +kernel : W 64 5 ≤ W 512 1)
  | 6, _ => exact (by decide +kernel : W 64 6 ≤ W 512 1)
section
variable {n : Int} {row : Int → List SC} {a b : Nat} {s t : Int} {c dr rm tm : Nat} (h : FP n row a b s t c dr rm tm)
include h
theorem FP.vp : VP n row a b s t c := vp_of h.n0 h.ok
theorem FP.inv (k : Int) (h0 : 0 ≤ k) (h1 : k < n) : Inv (wk (datF row) k) := inv_of (fun i hi => h.cn k i h0 h1 hi) (h.vp.logs k h0 h1)
theorem FP.air : Share (airI fops b dr s) := share_air h.vp.dam h.dr s
theorem FP.goo : Goo (datF row) n a (airI fops b dr s) tm := fun k h0 h1 =>
  pB_iff.2 ⟨h.inv k h0 h1, h.air, h.tm, (in_bd (valid_w6 (h.vp.logs k h0 h1)) h.vp.box h.tm).num⟩
theorem FP.hS_bd : ∀ k : Nat, (k : Int) ≤ n → Bd (hS fops (datF row) a (airI fops b dr s) tm k) (W 524288 k)
  | 0, _ => bd0 tC
  | k + 1, hk => by
    have h6 := h.vp.six
    refine bd_addW tC (by omega) (FP.hS_bd k (by omega)) ?_
    exact ht_bd (h.inv k (by omega) (by omega)) (valid_w6 (h.vp.logs k (by omega) (by omega))) h.vp.box h.air h.tm
theorem FP.sS_le : ∀ k : Nat, (k : Int) ≤ n → sS fops (datF row) a tm k ≤ W 64 k
  | 0, _ => Nat.zero_le _
  | k + 1, hk => by
    have h6 := h.vp.six
    exact amt_addW tD (by omega) (FP.sS_le k (by omega)) (sm_le (h.inv k (by omega) (by omega)) h.tm)
theorem FP.fS_le : ∀ k : Nat, (k : Int) ≤ n → fS fops (datF row) a (airI fops b dr s) tm k ≤ W 64 k
  | 0, _ => Nat.zero_le _
  | k + 1, hk => by
    have h6 := h.vp.six
    exact amt_addW tD (by omega) (FP.fS_le k (by omega)) (fu_le (h.inv k (by omega) (by omega)) h.air h.tm)
theorem FP.steam : sS fops (datF row) a tm n.toNat ≤ W 512 1 := by
  have h6 := h.vp.six
  exact Nat.le_trans (h.sS_le n.toNat (by have := h.n0; omega)) (W64_mono (by omega))
theorem FP.fuel : fS fops (datF row) a (airI fops b dr s) tm n.toNat ≤ W 512 1 := by
  have h6 := h.vp.six
  exact Nat.le_trans (h.fS_le n.toNat (by have := h.n0; omega)) (W64_mono (by omega))
theorem over_bd : Bd (fops.bin .sub .f32 a rm) 1161527296 := Bd.sub h.vp.box h.rm (by decide) (by decide +kernel)
theorem FP.room : Bd (gR fops a rm tm) (W 8192 1) := by
  unfold gR
  have ht := h.tm
  unfold Share at ht
  have h2 := Bd.mul (x := 1073741824) (a := 1073741824) (r := 1169915904) (bd_small (Nat.le_refl _) (by decide)) (over_bd h) (by decide) (by decide +kernel)
  exact (Bd.mul h2 (bd_small ht (by decide)) (r := 1169915904) (by decide) (by decide +kernel)).mono (by decide +kernel)
theorem FP.up : Bd (gU fops a rm (airI fops b dr s) tm) (W 8192 1) := by
  unfold gU
  have ht := h.tm
  have hr := h.air
  unfold Share at ht hr
  have h2 := Bd.mul (x := 1056964608) (a := 1056964608) (r := 1161527296) (bd_small (Nat.le_refl _) (by decide)) (over_bd h) (by decide) (by decide +kernel)
  have h3 := Bd.mul h2 (bd_small hr (by decide)) (r := 1161527296) (by decide) (by decide +kernel)
  exact (Bd.mul h3 (bd_small ht (by decide)) (r := 1161527296) (by decide) (by decide +kernel)).mono (by decide +kernel)
theorem FP.dust : duI fops (datF row) n a (airI fops b dr s) tm c ≤ 1174405120 := by
  unfold duI duN
  have h6 := h.vp.six
  have h1 := h.fS_le n.toNat (by have := h.n0; omega)
  have h2 : fS fops (datF row) a (airI fops b dr s) tm n.toNat ≤ W 64 6 := by
    refine Nat.le_trans h1 ?_
    have : n.toNat ≤ 6 := by omega
    revert this
    generalize n.toNat = k
    intro hk
    match k, hk with
    | 0, _ => decide +kernel
    | 1, _ => decide +kernel
    | 2, _ => decide +kernel
    | 3, _ => decide +kernel
    | 4, _ => decide +kernel
    | 5, _ => decide +kernel
    | 6, _ => decide +kernel
  have h3 := (mul_le (x := 1101004800) (y := fS fops (datF row) a (airI fops b dr s) tm n.toNat) (r := 1173356544) (by decide) (Nat.lt_of_le_of_lt h2 (tbl_at tD 6 (Nat.le_refl _)).2) (Nat.le_trans (Nat.mul_le_mul_left _ (un_le h2)) (by decide +kernel))).1
  exact add_amt (h.vp.dust) h3 (by decide) (by decide) (by decide +kernel)
theorem FP.box : isNum (bxI fops (datF row) n a rm (airI fops b dr s) tm) = true := by
  unfold bxI bxN
  have h6 := h.vp.six
  have h1 := (h.hS_bd n.toNat (by have := h.n0; omega))
  have h2 : Bd (hS fops (datF row) a (airI fops b dr s) tm n.toNat) 1249902592 := by
    refine h1.mono ?_
    have : n.toNat ≤ 6 := by omega
    revert this
    generalize n.toNat = k
    intro hk
    match k, hk with
    | 0, _ => decide +kernel
    | 1, _ => decide +kernel
    | 2, _ => decide +kernel
    | 3, _ => decide +kernel
    | 4, _ => decide +kernel
    | 5, _ => decide +kernel
    | 6, _ => decide +kernel
  have h3 := Bd.sub h2 h.room (r := 1258291200) (by decide) (by decide +kernel)
  have h4 := Bd.sub h3 h.up (r := 1266679808) (by decide) (by decide +kernel)
  exact held_num (add_nn h.vp.box.1 (quo_nn h4.1))
theorem FP.fin : finI6 fops isNum row n a rm (airI fops b dr s) tm c = true := by
  unfold finI6
  have h1 := h.room.num
  have h2 := h.up.num
  have h3 := word_num' (tbl_at tB 1 (by decide)).2 h.steam
  have h4 := word_num' (tbl_at tB 1 (by decide)).2 h.fuel
  have h5 := h.box
  have h6 := word_num' (by decide) h.dust
  simp [allB, h1, h2, h3, h4, h5, h6]
end
end
end Go.Proofs.Ytngdmcbjponlhaa.Fir
end

/- A step of a stove: the contracts of both functions. Nothing is assumed. -/
section
namespace Go.Proofs.Ytngdmcbjponlhaa.Fir
open Go SlWood Stv Sto Lgc Aly
noncomputable section
/-! ### what a step gives -/
def airF (O : FOps) (b dr : Nat) (s : Int) : Nat := airI O b dr s
def nBx (O : FOps) (n : Int) (row : Int → List SC) (a b : Nat) (s : Int) (dr rm tm : Nat) : Nat := bxI O (datF row) n a rm (airI O b dr s) tm
def nRw (O : FOps) (n : Int) (row : Int → List SC) (a b : Nat) (s : Int) (dr tm : Nat) : Int → List SC := rwI O row n a (airI O b dr s) tm
def nSt (O : FOps) (n : Int) (row : Int → List SC) (a b : Nat) (s : Int) (dr rm tm : Nat) : Int := stN O row n a rm (airI O b dr s) tm s
def nAs (O : FOps) (fl : Nat → Nat) (n : Int) (row : Int → List SC) (a b : Nat) (s t : Int) (c dr tm : Nat) : Int := IntKind.i64.wrap (t + whS O fl (duI O (datF row) n a (airI O b dr s) tm c))
def nDu (O : FOps) (fl : Nat → Nat) (n : Int) (row : Int → List SC) (a b : Nat) (s : Int) (c dr tm : Nat) : Nat := O.bin .sub .f32 (duI O (datF row) n a (airI O b dr s) tm c) (O.ofInt .f32 (whS O fl (duI O (datF row) n a (airI O b dr s) tm c)))
def nOk (O : FOps) (vl : (Nat → Nat) → Bool) (fl : Nat → Nat) (n : Int) (row : Int → List SC) (a b : Nat) (s t : Int) (c dr rm tm : Nat) : Bool :=
  vR O vl n (nRw O n row a b s dr tm) (nBx O n row a b s dr rm tm) b (nSt O n row a b s dr rm tm) (nAs O fl n row a b s t c dr tm) (nDu O fl n row a b s c dr tm)
def nUp (O : FOps) (a b : Nat) (s : Int) (dr rm tm : Nat) : Nat := gU O a rm (airI O b dr s) tm
def nSm (O : FOps) (n : Int) (row : Int → List SC) (a tm : Nat) : Nat := sS O (datF row) a tm n.toNat
def nFu (O : FOps) (n : Int) (row : Int → List SC) (a b : Nat) (s : Int) (dr tm : Nat) : Nat := fS O (datF row) a (airI O b dr s) tm n.toNat
def stC (O : FOps) (fl : Nat → Nat) (n : Int) (row : Int → List SC) (a b : Nat) (s t : Int) (c dr rm tm : Nat) : List SC :=
  [.sl 8 0 18 (.s n) true, .flt .f32 (nBx O n row a b s dr rm tm), .flt .f32 b, .int .i8 (.s (nSt O n row a b s dr rm tm)), .int .i64 (.s (nAs O fl n row a b s t c dr tm)), .flt .f32 (nDu O fl n row a b s c dr tm)]
def gvC (O : FOps) (n : Int) (row : Int → List SC) (a b : Nat) (s : Int) (dr rm tm : Nat) : List SC :=
  [.flt .f32 (gR O a rm tm), .flt .f32 (nUp O a b s dr rm tm), .flt .f32 (nSm O n row a tm), .flt .f32 (nFu O n row a b s dr tm)]
def okP (n N : Int) (row : Int → List SC) (a b : Nat) (s t : Int) (c dr rm tm : Nat) : Bool := pB (N = n ∧ FP n row a b s t c dr rm tm)
/-! ### the plain facts -/
theorem bif_le {lo hi x y : Int} (q : Bool) (h1 : lo ≤ x ∧ x ≤ hi) (h2 : lo ≤ y ∧ y ≤ hi) : lo ≤ (bif q then x else y) ∧ (bif q then x else y) ≤ hi := by cases q <;> assumption
theorem st_range {O : FOps} {s : Int} (h0 : 0 ≤ s) (h1 : s ≤ 3) (x : Nat) (q : Bool) : 0 ≤ Nxt.atm O Nxt.outI s x q ∧ Nxt.atm O Nxt.outI s x q ≤ 3 := by
  unfold Nxt.atm Nxt.outI
  exact bif_le _ (by decide) (bif_le _ (by decide) (bif_le _ (by decide) (bif_le _ (by decide) (bif_le _ (by decide) ⟨h0, h1⟩))))
section
variable {n : Int} {row : Int → List SC} {a b : Nat} {s t : Int} {c dr rm tm : Nat} (h : FP n row a b s t c dr rm tm)
include h
theorem FP.st : 0 ≤ nSt fops n row a b s dr rm tm ∧ nSt fops n row a b s dr rm tm ≤ 3 := st_range h.vp.s0 h.vp.s1 _ _
theorem FP.wh : ∃ m, Whole (duI fops (datF row) n a (airI fops b dr s) tm c) m := whole_of h.dust
theorem FP.whI_eq : whI fops flv (duI fops (datF row) n a (airI fops b dr s) tm c) = fops.ofInt .f32 (whS fops flv (duI fops (datF row) n a (airI fops b dr s) tm c)) := by
  obtain ⟨m, hm⟩ := h.wh
  unfold whI whS
  rw [hm.f32, hm.i64]
theorem FP.ash_eq : ashI fops flv t (duI fops (datF row) n a (airI fops b dr s) tm c) = nAs fops flv n row a b s t c dr tm := by
  unfold ashI nAs
  rw [h.whI_eq]
  obtain ⟨m, hm⟩ := h.wh
  unfold whS
  rw [hm.i64, hm.i32]
theorem FP.obI {N : Int} (hN : N = n) : AllT (obFI fops isNum flv (nanb .f64) n N row a s c rm tm (airI fops b dr s)) := by
  have h6 := h.vp.six
  have h0 := h.n0
  obtain ⟨m, hm⟩ := h.wh
  have hw : whI fops flv (duI fops (datF row) n a (airI fops b dr s) tm c) = fops.ofInt .f32 m := hm.f32
  have hf := shape_flat h.sh
  have hf2 : flatR (rwI fops row n a (airI fops b dr s) tm) = true := rowK_flat _ _ _
  have hsh : Shape ts (rwI fops row n a (airI fops b dr s) tm) := shape_row _ _
  unfold obFI
  rw [h.fin, hw, hm.big, hm.nn, hm.f32ok, hm.i32ok]
  refine AllT.cons (by rw [hN]; simp; omega) (AllT.cons hf (AllT.cons hf (AllT.cons (pB_iff.2 ?_) (AllT.cons rfl (AllT.cons rfl (AllT.cons rfl (AllT.cons rfl (AllT.cons hf2 (AllT.cons (pB_iff.2 ⟨rfl, h0, by omega, hsh⟩) (AllT.cons hf2 (AllT.one' (pB_iff.2 ⟨rfl, h0, by omega, hsh, ?_⟩))))))))))))
  · exact ⟨⟨rfl, rfl, rfl, rfl, rfl, rfl, rfl, rfl, rfl, rfl, rfl, rfl⟩, ⟨rfl, rfl, rfl, rfl, rfl, rfl⟩, h0, by omega, hf, h.sh, h.goo⟩
  · have := h.st
    unfold nSt at this
    omega
theorem FP.obS {N : Int} (hN : N = n) {q : Bool} (hq : q = true) : AllT ([decide (0 ≤ n ∧ n ≤ N ∧ n ≤ 1000000), flatR row, flatR row, pB (PS (datF row) a (airI fops b dr s) tm 0 0 0 0 0 0 0 0 0 0 0 0 0 0 0 n N n n row row a b b c c s s t t),
   !nanb .f64 (fops.conv .f32 .f64 (duI fops (datF row) n a (airI fops b dr s) tm c)), fops.toIntOk .f64 .i64 (flv (fops.conv .f32 .f64 (duI fops (datF row) n a (airI fops b dr s) tm c))),
   flatR (rwI fops row n a (airI fops b dr s) tm), okN n n (rwI fops row n a (airI fops b dr s) tm), flatR (rwI fops row n a (airI fops b dr s) tm), okV n n (stN fops row n a rm (airI fops b dr s) tm s) (rwI fops row n a (airI fops b dr s) tm), q]) := by
  have h6 := h.vp.six
  have h0 := h.n0
  obtain ⟨m, hm⟩ := h.wh
  have hf := shape_flat h.sh
  have hf2 : flatR (rwI fops row n a (airI fops b dr s) tm) = true := rowK_flat _ _ _
  have hsh : Shape ts (rwI fops row n a (airI fops b dr s) tm) := shape_row _ _
  rw [hm.nn, hm.i64ok]
  refine AllT.cons (by rw [hN]; simp; omega) (AllT.cons hf (AllT.cons hf (AllT.cons (pB_iff.2 ?_) (AllT.cons rfl (AllT.cons rfl (AllT.cons hf2 (AllT.cons (pB_iff.2 ⟨rfl, h0, by omega, hsh⟩) (AllT.cons hf2 (AllT.cons (pB_iff.2 ⟨rfl, h0, by omega, hsh, ?_⟩) (AllT.one' hq))))))))))
  · exact ⟨⟨rfl, rfl, rfl, rfl, rfl, rfl, rfl, rfl, rfl, rfl, rfl, rfl⟩, ⟨rfl, rfl, rfl, hN, rfl, rfl, rfl, rfl, rfl, rfl, rfl, rfl⟩, h0, by omega, h.sh, h.goo⟩
  · have := h.st
    unfold nSt at this
    omega
/-- The new stove can make the next step, if it is valid. -/
theorem FP.next (hok : nOk fops valid flv n row a b s t c dr rm tm = true) : FP n (nRw fops n row a b s dr tm) (nBx fops n row a b s dr rm tm) b (nSt fops n row a b s dr rm tm) (nAs fops flv n row a b s t c dr tm) (nDu fops flv n row a b s c dr tm) dr rm tm := by
  refine ⟨h.n0, shape_row _ _, fun k i h0 h1 hi => ?_, hok, h.dr, h.rm, h.tm⟩
  have e : wk (datF (nRw fops n row a b s dr tm)) k = back (nw fops (wk (datF row) k) a (airI fops b dr s) tm) := by
    have hF : ∀ j, FK fops (datF row) a (airI fops b dr s) tm n j k = nw fops (wk (datF row) k) a (airI fops b dr s) tm j := fun j => by
      unfold FK
      rw [decide_eq_true h0, decide_eq_true h1]; rfl
    generalize nw fops (wk (datF row) k) a (airI fops b dr s) tm = V at hF ⊢
    funext j
    unfold wk at18 back
    simp only [show datF (nRw fops n row a b s dr tm) 0 k = _ from hF 0, show datF (nRw fops n row a b s dr tm) 1 k = _ from hF 1, show datF (nRw fops n row a b s dr tm) 2 k = _ from hF 2, show datF (nRw fops n row a b s dr tm) 3 k = _ from hF 3, show datF (nRw fops n row a b s dr tm) 4 k = _ from hF 4, show datF (nRw fops n row a b s dr tm) 5 k = _ from hF 5, show datF (nRw fops n row a b s dr tm) 6 k = _ from hF 6, show datF (nRw fops n row a b s dr tm) 7 k = _ from hF 7, show datF (nRw fops n row a b s dr tm) 8 k = _ from hF 8, show datF (nRw fops n row a b s dr tm) 9 k = _ from hF 9, show datF (nRw fops n row a b s dr tm) 10 k = _ from hF 10, show datF (nRw fops n row a b s dr tm) 11 k = _ from hF 11, show datF (nRw fops n row a b s dr tm) 12 k = _ from hF 12, show datF (nRw fops n row a b s dr tm) 13 k = _ from hF 13, show datF (nRw fops n row a b s dr tm) 14 k = _ from hF 14, show datF (nRw fops n row a b s dr tm) 15 k = _ from hF 15, show datF (nRw fops n row a b s dr tm) 16 k = _ from hF 16, show datF (nRw fops n row a b s dr tm) 17 k = _ from hF 17]
  rw [e]
  exact (inv_back (inv3 (r := a) (h.inv k h0 h1) h.air h.tm)).cn i hi
end
end
end Go.Proofs.Ytngdmcbjponlhaa.Fir
end

/- A step of a stove: the contracts of both functions. Nothing is assumed. -/
section
namespace Go.Proofs.Ytngdmcbjponlhaa.Fir
open Go SlWood Stv Sto Lgc Aly
noncomputable section
set_option maxRecDepth 100000 in
theorem okLW' : AllOK Try.prog (LW' fops isNum valid flv (nanb .f64)) := ⟨cHeld, cFin, cFlo, cNxI, cNxS, cAC.ro, cACS.ro, cVIC.ro, cVSC.ro, trivial⟩
def rIn (O : FOps) (nm : Nat → Bool) (vl : (Nat → Nat) → Bool) (fl : Nat → Nat) (nb : Nat → Bool) : CS := nwS (inl (cxW O nm vl fl nb) Try.f79 ⟨hints [(131, false)], lpOf [(6, IL O)]⟩)
def rSp (O : FOps) (nm : Nat → Bool) (vl : (Nat → Nat) → Bool) (fl : Nat → Nat) (nb : Nat → Bool) (e : Bool) : CS := nwS (inl (cxW O nm vl fl nb) Try.f77 ⟨hints [(148, e)], lpOf [(6, SL O)]⟩)
set_option maxRecDepth 100000 in
theorem cF0 : CallOK Try.prog 79 (rIn fops isNum valid flv (nanb .f64)) := by
  have hb : Try.f79.body.isSome = true := by kernel_rfl
  obtain ⟨c, hc⟩ := Option.isSome_iff_exists.1 hb
  have h1 : (match Try.f79.body with | some c => onceB (loopsIn c) && (match loopAt 6 (loopsIn c) with | some _ => true | none => false) | none => false) = true := by kernel_rfl
  rw [hc] at h1
  simp only [Bool.and_eq_true] at h1
  exact (inlL_of (l := LW' fops isNum valid flv (nanb .f64)) (ls := [(6, IL fops)]) okLW' mixed 8 Try.func79 (by kernel_rfl) _ hc h1.1 ⟨⟨_, bodyOf_at hc h1.2, IL_ok⟩, trivial⟩).nw
set_option maxRecDepth 100000 in
theorem cS0' (e : Bool) : CallOK Try.prog 77 (rSp fops isNum valid flv (nanb .f64) e) := by
  have hb : Try.f77.body.isSome = true := by kernel_rfl
  obtain ⟨c, hc⟩ := Option.isSome_iff_exists.1 hb
  have h1 : (match Try.f77.body with | some c => onceB (loopsIn c) && (match loopAt 6 (loopsIn c) with | some _ => true | none => false) | none => false) = true := by kernel_rfl
  rw [hc] at h1
  simp only [Bool.and_eq_true] at h1
  exact (inlL_of (l := LW' fops isNum valid flv (nanb .f64)) (ls := [(6, SL fops)]) okLW' mixed 8 Try.func77 (by kernel_rfl) _ hc h1.1 ⟨⟨_, bodyOf_at hc h1.2, SL_ok⟩, trivial⟩).nw
set_option maxRecDepth 100000 in
theorem I_nw (O : FOps) (nm : Nat → Bool) (vl : (Nat → Nat) → Bool) (fl : Nat → Nat) (nb : Nat → Bool) (f w o : Bool) (n N : Int) (row : Int → List SC) (a b : Nat) (s t : Int) (c dr rm tm : Nat) :
    rIn O nm vl fl nb 2 [.a (stL f n a b s t c), .c (.flt .f32 dr), .c (.flt .f32 rm), .c (.flt .f32 tm)] [(1, ⟨w, o, .rows 18 N row⟩)] =
      some ⟨retI O vl fl n row a b s t c rm tm (airI O b dr s), [(8, some ⟨true, true, .rows 18 n (nRw O n row a b s dr tm)⟩)], 327, obFI O nm fl nb n N row a s c rm tm (airI O b dr s)⟩ := by kernel_rfl
set_option maxRecDepth 100000 in
theorem S_nw (O : FOps) (nm : Nat → Bool) (vl : (Nat → Nat) → Bool) (fl : Nat → Nat) (nb : Nat → Bool) (f w o w' o' : Bool) (n N : Int) (row : Int → List SC) (a b : Nat) (s t : Int) (c dr rm tm : Nat) :
    rSp O nm vl fl nb false 3 [.c (.ptr 2 0), .c (.flt .f32 dr), .c (.flt .f32 rm), .c (.flt .f32 tm)] [(1, ⟨w, o, .rows 18 N row⟩), (2, ⟨w', o', .cells (stL f n a b s t c)⟩)] =
      some ⟨retS O fl n row a b s t c rm tm (airS O b dr s), [(8, some ⟨true, true, .rows 18 n (rwI O row n a (airS O b dr s) tm)⟩)], 184, obFS O vl fl nb n N row a b s t c rm tm (airS O b dr s)⟩ := by kernel_rfl
def zSt : List SC := [.sl 0 0 0 (.c 0) false, .flt .f32 0, .flt .f32 0, .int .i8 (.c 0), .int .i64 (.c 0), .flt .f32 0]
def zGv : List SC := [.flt .f32 0, .flt .f32 0, .flt .f32 0, .flt .f32 0]
def obFE (O : FOps) (vl : (Nat → Nat) → Bool) (fl : Nat → Nat) (nb : Nat → Bool) (n N : Int) (row : Int → List SC) (a b : Nat) (s t : Int) (c rm tm air : Nat) : List Bool :=
  [decide (0 ≤ n ∧ n ≤ N ∧ n ≤ 1000000), flatR row, flatR row, pB (PS (datF row) a air tm 0 0 0 0 0 0 0 0 0 0 0 0 0 0 0 n N n n row row a b b c c s s t t),
   !nb (O.conv .f32 .f64 (duI O (datF row) n a air tm c)), O.toIntOk .f64 .i64 (fl (O.conv .f32 .f64 (duI O (datF row) n a air tm c))),
   flatR (rwI O row n a air tm), okN n n (rwI O row n a air tm), flatR (rwI O row n a air tm), okV n n (stN O row n a rm air tm s) (rwI O row n a air tm), !vNS O vl fl n row a b s t c rm tm air]
set_option maxRecDepth 100000 in
theorem E_nw (O : FOps) (nm : Nat → Bool) (vl : (Nat → Nat) → Bool) (fl : Nat → Nat) (nb : Nat → Bool) (f w o w' o' : Bool) (n N : Int) (row : Int → List SC) (a b : Nat) (s t : Int) (c dr rm tm : Nat) :
    rSp O nm vl fl nb true 3 [.c (.ptr 2 0), .c (.flt .f32 dr), .c (.flt .f32 rm), .c (.flt .f32 tm)] [(1, ⟨w, o, .rows 18 N row⟩), (2, ⟨w', o', .cells (stL f n a b s t c)⟩)] =
      some ⟨.tup [.a zSt, .a zGv, .c (.int .i64 (.c 4))], [], 184, obFE O vl fl nb n N row a b s t c rm tm (airS O b dr s)⟩ := by kernel_rfl
/-! ### told by hand -/
def fIH (O : FOps) (vl : (Nat → Nat) → Bool) (fl : Nat → Nat) : CS := fun base args rd => match args with
  | [.a [.sl i o es (.s n) _, .flt .f32 a, .flt .f32 b, .int .i8 (.s s), .int .i64 (.s t), .flt .f32 c], .c (.flt .f32 dr), .c (.flt .f32 rm), .c (.flt .f32 tm)] => match rd with
    | [(j, ⟨_, _, .rows st N row⟩)] => match Nat.beq base 2 && (Nat.beq i 1 && (Nat.beq o 0 && (Nat.beq es 18 && (Nat.beq j 1 && Nat.beq st 18)))) with
      | true => some ⟨.tup [.a (stC O fl n row a b s t c dr rm tm), .a (gvC O n row a b s dr rm tm), .c (.bool (.s (nOk O vl fl n row a b s t c dr rm tm)))], [(8, some ⟨true, true, .rows 18 n (nRw O n row a b s dr tm)⟩)], 327, [okP n N row a b s t c dr rm tm]⟩
      | false => none
    | _ => none
  | _ => none
def fSH (O : FOps) (vl : (Nat → Nat) → Bool) (fl : Nat → Nat) (e : Bool) : CS := fun base args rd => match args with
  | [.c (.ptr i' o'), .c (.flt .f32 dr), .c (.flt .f32 rm), .c (.flt .f32 tm)] => match rd with
    | [(j, ⟨_, _, .rows st N row⟩), (j', ⟨_, _, .cells [.sl i o es (.s n) _, .flt .f32 a, .flt .f32 b, .int .i8 (.s s), .int .i64 (.s t), .flt .f32 c]⟩)] => match Nat.beq base 3 && (Nat.beq i' 2 && (Nat.beq o' 0 && (Nat.beq j' 2 && (Nat.beq i 1 && (Nat.beq o 0 && (Nat.beq es 18 && (Nat.beq j 1 && Nat.beq st 18))))))) with
      | true => match e with
        | false => some ⟨.tup [.a (stC O fl n row a b s t c dr rm tm), .a (gvC O n row a b s dr rm tm), .c (.int .i64 (.c 0))], [(8, some ⟨true, true, .rows 18 n (nRw O n row a b s dr tm)⟩)], 184, [okP n N row a b s t c dr rm tm, nOk O vl fl n row a b s t c dr rm tm]⟩
        | true => some ⟨.tup [.a zSt, .a zGv, .c (.int .i64 (.c 4))], [], 184, [okP n N row a b s t c dr rm tm, !nOk O vl fl n row a b s t c dr rm tm]⟩
      | false => none
    | _ => none
  | _ => none
theorem retI_eq {n : Int} {row : Int → List SC} {a b : Nat} {s t : Int} {c dr rm tm : Nat} (h : FP n row a b s t c dr rm tm) :
    retI fops valid flv n row a b s t c rm tm (airI fops b dr s) = .tup [.a (stC fops flv n row a b s t c dr rm tm), .a (gvC fops n row a b s dr rm tm), .c (.bool (.s (nOk fops valid flv n row a b s t c dr rm tm)))] := by
  unfold retI
  rw [h.ash_eq, h.whI_eq]
  rfl
def fIC (O : FOps) (nm : Nat → Bool) (vl : (Nat → Nat) → Bool) (fl : Nat → Nat) (nb : Nat → Bool) : CS := orS (canS (fIH O vl fl)) (inl (cxW O nm vl fl nb) Try.f79 ⟨hints [(131, false)], fun _ => none⟩)
def fSC (O : FOps) (nm : Nat → Bool) (vl : (Nat → Nat) → Bool) (fl : Nat → Nat) (nb : Nat → Bool) (e : Bool) : CS := orS (canS (fSH O vl fl e)) (inl (cxW O nm vl fl nb) Try.f77 ⟨hints [(148, e)], fun _ => none⟩)
set_option maxRecDepth 100000 in
theorem cFIC : CallOK Try.prog 79 (fIC fops isNum valid flv (nanb .f64)) :=
  (CallOK.hand (H := fIH fops valid flv) cF0 fun bs args rd e hh hob => by
    unfold fIH at hh
    split at hh <;> try (cases hh; done)
    rename_i i o es n f xa xb s t xc dr rm tm
    split at hh <;> try (cases hh; done)
    rename_i j w p st N row
    split at hh <;> cases hh
    rename_i hc
    simp only [Bool.and_eq_true, beqN] at hc
    obtain ⟨rfl, rfl, rfl, rfl, rfl, rfl⟩ := hc
    obtain ⟨hN, hP⟩ := pB_iff.1 (show pB _ = true from hob.head)
    have h1 := I_nw fops isNum valid flv (nanb .f64) f w p n N row xa xb s t xc dr rm tm
    rw [retI_eq hP] at h1
    exact ⟨_, h1, hP.obI hN⟩).can.or
    (inlN_of (l := LW' fops isNum valid flv (nanb .f64)) okLW' mixed 8 Try.func79 (by kernel_rfl) _)
set_option maxRecDepth 100000 in
theorem cFSC (e : Bool) : CallOK Try.prog 77 (fSC fops isNum valid flv (nanb .f64) e) :=
  (CallOK.hand (H := fSH fops valid flv e) (cS0' e) fun bs args rd r hh hob => by
    unfold fSH at hh
    split at hh <;> try (cases hh; done)
    rename_i i' o' dr rm tm
    split at hh <;> try (cases hh; done)
    rename_i j w p st N row j' w' p' i o es n f xa xb s t xc
    split at hh <;> try (cases hh; done)
    rename_i hc
    simp only [Bool.and_eq_true, beqN] at hc
    obtain ⟨rfl, rfl, rfl, rfl, rfl, rfl, rfl, rfl, rfl⟩ := hc
    cases e with
    | false =>
      cases hh
      obtain ⟨hN, hP⟩ := pB_iff.1 (show pB _ = true from hob.head)
      have h1 := S_nw fops isNum valid flv (nanb .f64) f w p w' p' n N row xa xb s t xc dr rm tm
      rw [air_eq] at h1
      exact ⟨_, h1, hP.obS hN (nn hob.tail.head)⟩
    | true =>
      cases hh
      obtain ⟨hN, hP⟩ := pB_iff.1 (show pB _ = true from hob.head)
      have h1 := E_nw fops isNum valid flv (nanb .f64) f w p w' p' n N row xa xb s t xc dr rm tm
      rw [air_eq] at h1
      exact ⟨_, h1, hP.obS hN hob.tail.head⟩).can.or
    (inlN_of (l := LW' fops isNum valid flv (nanb .f64)) okLW' mixed 8 Try.func77 (by kernel_rfl) _)
end
end Go.Proofs.Ytngdmcbjponlhaa.Fir
end

/- A step of a stove without logs: the contracts of both functions. Nothing is assumed. -/
section
namespace Go.Proofs.Ytngdmcbjponlhaa.Fir
open Go SlWood Stv Sto Lgc Aly
noncomputable section
def row0 : Int → List SC := Row (fun _ _ => 0) (fun _ _ => 0)
def o0I (A B C G H L : Bool) (n : Int) : Int :=
  bif (bif A then G else false) then 2 else bif (!(bif A then G else false) && bif A then H else false) then 0 else
  bif (!(bif A then G else false) && (!(bif A then H else false) && bif B then true else false)) then 3 else
  bif (!(bif A then G else false) && (!(bif A then H else false) && (!(bif B then true else false) && bif C then L else false))) then 0 else n
def o0S (A B C G H L : Bool) (n : Int) : Int :=
  bif (A && G) then 2 else bif (A && H) then 0 else bif (!A && B) then 3 else bif (!A && (!B && (C && L))) then 0 else n
theorem o0I_eq (A B C G H K L : Bool) (n : Int) : o0I A B C G H L n = Nxt.outI A B C G H K L false n := by
  unfold o0I Nxt.outI
  cases A <;> cases B <;> cases C <;> cases G <;> cases H <;> rfl
theorem o0S_eq (A B C G H L : Bool) (n : Int) (h : A = true → B = false ∧ C = false) (h2 : B = true → C = false) : o0S A B C G H L n = o0I A B C G H L n := by
  unfold o0S o0I
  cases A
  · cases B
    · cases C <;> cases L <;> rfl
    · have := h2 rfl; subst this; rfl
  · obtain ⟨rfl, rfl⟩ := h rfl
    cases G <;> cases H <;> rfl
def at0 (O : FOps) (g : Bool → Bool → Bool → Bool → Bool → Bool → Int → Int) (n : Int) (x : Nat) : Int :=
  g (decide (n = 1)) (decide (n = 2)) (decide (n = 3)) (O.cmp .gtr .f32 x 1128792064) (O.cmp .lss .f32 x 1112014848) (O.cmp .lss .f32 x 1109393408) n
theorem at0I (O : FOps) (n : Int) (x : Nat) : at0 O o0I n x = Nxt.atm O Nxt.outI n x false := o0I_eq _ _ _ _ _ _ _ _
theorem at0S (O : FOps) (n : Int) (x : Nat) : at0 O o0S n x = Nxt.atm O Nxt.outI n x false := by
  rw [← at0I]
  unfold at0
  refine o0S_eq _ _ _ _ _ _ _ (fun h => ?_) (fun h => ?_)
  · have := of_decide_eq_true h
    exact ⟨decide_eq_false (by omega), decide_eq_false (by omega)⟩
  · have := of_decide_eq_true h
    exact decide_eq_false (by omega)
def rI0 (O : FOps) (nm : Nat → Bool) (vl : (Nat → Nat) → Bool) (fl : Nat → Nat) (nb : Nat → Bool) : CS := nwS (inl (cxW O nm vl fl nb) Try.f79 ⟨hints [(131, false)], fun _ => none⟩)
def rS0 (O : FOps) (nm : Nat → Bool) (vl : (Nat → Nat) → Bool) (fl : Nat → Nat) (nb : Nat → Bool) (e : Bool) : CS := nwS (inl (cxW O nm vl fl nb) Try.f77 ⟨hints [(148, e)], fun _ => none⟩)
def nil6 (f : Bool) (a b : Nat) (s t : Int) (c : Nat) : List SC := [.sl 1 0 18 (.c 0) f, .flt .f32 a, .flt .f32 b, .int .i8 (.s s), .int .i64 (.s t), .flt .f32 c]
def du0 (O : FOps) (a b : Nat) (s : Int) (c dr tm : Nat) : Nat := duI O (datF row0) 0 a (airI O b dr s) tm c
def stI0 (O : FOps) (g : Bool → Bool → Bool → Bool → Bool → Bool → Int → Int) (a b : Nat) (s : Int) (dr rm tm : Nat) : Int := at0 O g s (nBx O 0 row0 a b s dr rm tm)
set_option maxRecDepth 100000 in
theorem I0_nw (O : FOps) (nm : Nat → Bool) (vl : (Nat → Nat) → Bool) (fl : Nat → Nat) (nb : Nat → Bool) (f w o : Bool) (a b : Nat) (s t : Int) (c dr rm tm : Nat) :
    rI0 O nm vl fl nb 2 [.a (nil6 f a b s t c), .c (.flt .f32 dr), .c (.flt .f32 rm), .c (.flt .f32 tm)] [(1, ⟨w, o, .cells []⟩)] =
      some ⟨.tup [.a [.sl 7 0 18 (.c 0) true, .flt .f32 (nBx O 0 row0 a b s dr rm tm), .flt .f32 b, .int .i8 (.s (stI0 O o0I a b s dr rm tm)), .int .i64 (.s (ashI O fl t (du0 O a b s c dr tm))), .flt .f32 (O.bin .sub .f32 (du0 O a b s c dr tm) (whI O fl (du0 O a b s c dr tm)))],
        .a (gvC O 0 row0 a b s dr rm tm), .c (.bool (.s (vI O true 0 (nBx O 0 row0 a b s dr rm tm) b (stI0 O o0I a b s dr rm tm) (ashI O fl t (du0 O a b s c dr tm)) (O.bin .sub .f32 (du0 O a b s c dr tm) (whI O fl (du0 O a b s c dr tm))))))],
        [(7, some ⟨true, true, .cells []⟩)], 13, [!nb (O.conv .f32 .f64 (du0 O a b s c dr tm)), O.convOk .f64 .f32 (fl (O.conv .f32 .f64 (du0 O a b s c dr tm))),
          !(bif !finI6 O nm row0 0 a rm (airI O b dr s) tm c then true else O.cmp .gtr .f32 (whI O fl (du0 O a b s c dr tm)) 1240736768), O.toIntOk .f32 .i64 (whI O fl (du0 O a b s c dr tm))]⟩ := by kernel_rfl
def airN (O : FOps) (b dr : Nat) (s : Int) : Nat := airS O b dr s
def bxS0 (O : FOps) (a b : Nat) (s : Int) (dr rm tm : Nat) : Nat := bxI O (datF row0) 0 a rm (airN O b dr s) tm
def duS0 (O : FOps) (a b : Nat) (s : Int) (c dr tm : Nat) : Nat := duI O (datF row0) 0 a (airN O b dr s) tm c
def ob0S (O : FOps) (fl : Nat → Nat) (nb : Nat → Bool) (a b : Nat) (s : Int) (c dr tm : Nat) : List Bool := [!nb (O.conv .f32 .f64 (duS0 O a b s c dr tm)), O.toIntOk .f64 .i64 (fl (O.conv .f32 .f64 (duS0 O a b s c dr tm)))]
def okS0 (O : FOps) (fl : Nat → Nat) (a b : Nat) (s t : Int) (c dr rm tm : Nat) : Bool :=
  vS O true 0 (bxS0 O a b s dr rm tm) b (at0 O o0S s (bxS0 O a b s dr rm tm)) (IntKind.i64.wrap (t + whS O fl (duS0 O a b s c dr tm))) (O.bin .sub .f32 (duS0 O a b s c dr tm) (O.ofInt .f32 (whS O fl (duS0 O a b s c dr tm))))
set_option maxRecDepth 100000 in
theorem S0_nw (O : FOps) (nm : Nat → Bool) (vl : (Nat → Nat) → Bool) (fl : Nat → Nat) (nb : Nat → Bool) (f w o w' o' : Bool) (a b : Nat) (s t : Int) (c dr rm tm : Nat) :
    rS0 O nm vl fl nb false 3 [.c (.ptr 2 0), .c (.flt .f32 dr), .c (.flt .f32 rm), .c (.flt .f32 tm)] [(1, ⟨w, o, .cells []⟩), (2, ⟨w', o', .cells (nil6 f a b s t c)⟩)] =
      some ⟨.tup [.a [.sl 7 0 18 (.c 0) true, .flt .f32 (bxS0 O a b s dr rm tm), .flt .f32 b, .int .i8 (.s (at0 O o0S s (bxS0 O a b s dr rm tm))), .int .i64 (.s (IntKind.i64.wrap (t + whS O fl (duS0 O a b s c dr tm)))), .flt .f32 (O.bin .sub .f32 (duS0 O a b s c dr tm) (O.ofInt .f32 (whS O fl (duS0 O a b s c dr tm))))],
        .a [.flt .f32 (gR O a rm tm), .flt .f32 (gU O a rm (airN O b dr s) tm), .flt .f32 (nSm O 0 row0 a tm), .flt .f32 (fS O (datF row0) a (airN O b dr s) tm 0)], .c (.int .i64 (.c 0))],
        [(7, some ⟨true, true, .cells []⟩)], 10, ob0S O fl nb a b s c dr tm ++ [!!okS0 O fl a b s t c dr rm tm]⟩ := by kernel_rfl
set_option maxRecDepth 100000 in
theorem E0_nw (O : FOps) (nm : Nat → Bool) (vl : (Nat → Nat) → Bool) (fl : Nat → Nat) (nb : Nat → Bool) (f w o w' o' : Bool) (a b : Nat) (s t : Int) (c dr rm tm : Nat) :
    rS0 O nm vl fl nb true 3 [.c (.ptr 2 0), .c (.flt .f32 dr), .c (.flt .f32 rm), .c (.flt .f32 tm)] [(1, ⟨w, o, .cells []⟩), (2, ⟨w', o', .cells (nil6 f a b s t c)⟩)] =
      some ⟨.tup [.a zSt, .a zGv, .c (.int .i64 (.c 4))], [], 10, ob0S O fl nb a b s c dr tm ++ [!okS0 O fl a b s t c dr rm tm]⟩ := by kernel_rfl
/-! ### told by hand -/
def stC0 (O : FOps) (fl : Nat → Nat) (a b : Nat) (s t : Int) (c dr rm tm : Nat) : List SC :=
  [.sl 7 0 18 (.c 0) true, .flt .f32 (nBx O 0 row0 a b s dr rm tm), .flt .f32 b, .int .i8 (.s (nSt O 0 row0 a b s dr rm tm)), .int .i64 (.s (nAs O fl 0 row0 a b s t c dr tm)), .flt .f32 (nDu O fl 0 row0 a b s c dr tm)]
def fI0H (O : FOps) (vl : (Nat → Nat) → Bool) (fl : Nat → Nat) : CS := fun base args rd => match args with
  | [.a [.sl i o es (.c (.ofNat n)) _, .flt .f32 a, .flt .f32 b, .int .i8 (.s s), .int .i64 (.s t), .flt .f32 c], .c (.flt .f32 dr), .c (.flt .f32 rm), .c (.flt .f32 tm)] => match rd with
    | [(j, ⟨_, _, .cells []⟩)] => match Nat.beq base 2 && (Nat.beq j 1 && (Nat.beq i 1 && (Nat.beq o 0 && (Nat.beq es 18 && Nat.beq n 0)))) with
      | true => some ⟨.tup [.a (stC0 O fl a b s t c dr rm tm), .a (gvC O 0 row0 a b s dr rm tm), .c (.bool (.s (nOk O vl fl 0 row0 a b s t c dr rm tm)))], [(7, some ⟨true, true, .cells []⟩)], 13, [okP 0 0 row0 a b s t c dr rm tm]⟩
      | false => none
    | _ => none
  | _ => none
def fS0H (O : FOps) (vl : (Nat → Nat) → Bool) (fl : Nat → Nat) (e : Bool) : CS := fun base args rd => match args with
  | [.c (.ptr i' o'), .c (.flt .f32 dr), .c (.flt .f32 rm), .c (.flt .f32 tm)] => match rd with
    | [(j, ⟨_, _, .cells []⟩), (j', ⟨_, _, .cells [.sl i o es (.c (.ofNat n)) _, .flt .f32 a, .flt .f32 b, .int .i8 (.s s), .int .i64 (.s t), .flt .f32 c]⟩)] => match Nat.beq base 3 && (Nat.beq j 1 && (Nat.beq i' 2 && (Nat.beq o' 0 && (Nat.beq j' 2 && (Nat.beq i 1 && (Nat.beq o 0 && (Nat.beq es 18 && Nat.beq n 0))))))) with
      | true => match e with
        | false => some ⟨.tup [.a (stC0 O fl a b s t c dr rm tm), .a (gvC O 0 row0 a b s dr rm tm), .c (.int .i64 (.c 0))], [(7, some ⟨true, true, .cells []⟩)], 10, [okP 0 0 row0 a b s t c dr rm tm, nOk O vl fl 0 row0 a b s t c dr rm tm]⟩
        | true => some ⟨.tup [.a zSt, .a zGv, .c (.int .i64 (.c 4))], [], 10, [okP 0 0 row0 a b s t c dr rm tm, !nOk O vl fl 0 row0 a b s t c dr rm tm]⟩
      | false => none
    | _ => none
  | _ => none
theorem st0I_eq (a b : Nat) (s : Int) (dr rm tm : Nat) : stI0 fops o0I a b s dr rm tm = nSt fops 0 row0 a b s dr rm tm := at0I _ _ _
theorem st0S_eq (a b : Nat) (s : Int) (dr rm tm : Nat) : at0 fops o0S s (nBx fops 0 row0 a b s dr rm tm) = nSt fops 0 row0 a b s dr rm tm := at0S _ _ _
section
variable {a b : Nat} {s t : Int} {c dr rm tm : Nat} (h : FP 0 row0 a b s t c dr rm tm)
include h
theorem okS0_eq : okS0 fops flv a b s t c dr rm tm = nOk fops valid flv 0 row0 a b s t c dr rm tm := by
  have hs := h.st
  unfold okS0 bxS0 duS0 airN
  rw [air_eq]
  rw [show bxI fops (datF row0) 0 a rm (airI fops b dr s) tm = nBx fops 0 row0 a b s dr rm tm from rfl, st0S_eq]
  exact v_eq true 0 _ b (by omega) _ _
theorem ob0S_ok : AllT (ob0S fops flv (nanb .f64) a b s c dr tm) := by
  obtain ⟨m, hm⟩ := h.wh
  unfold ob0S duS0 airN
  rw [air_eq, hm.nn, hm.i64ok]
  exact AllT.cons rfl (AllT.one' rfl)
theorem ob0I_ok : AllT [!nanb .f64 (fops.conv .f32 .f64 (du0 fops a b s c dr tm)), fops.convOk .f64 .f32 (flv (fops.conv .f32 .f64 (du0 fops a b s c dr tm))),
          !(bif !finI6 fops isNum row0 0 a rm (airI fops b dr s) tm c then true else fops.cmp .gtr .f32 (whI fops flv (du0 fops a b s c dr tm)) 1240736768), fops.toIntOk .f32 .i64 (whI fops flv (du0 fops a b s c dr tm))] := by
  obtain ⟨m, hm⟩ := h.wh
  have hw : whI fops flv (du0 fops a b s c dr tm) = fops.ofInt .f32 m := hm.f32
  have h1 : nanb .f64 (fops.conv .f32 .f64 (du0 fops a b s c dr tm)) = false := hm.nn
  have h2 : fops.convOk .f64 .f32 (flv (fops.conv .f32 .f64 (du0 fops a b s c dr tm))) = true := hm.f32ok
  rw [h1, h2, hw, h.fin, hm.big, hm.i32ok]
  exact AllT.cons rfl (AllT.cons rfl (AllT.cons rfl (AllT.one' rfl)))
end
def fI2 (O : FOps) (nm : Nat → Bool) (vl : (Nat → Nat) → Bool) (fl : Nat → Nat) (nb : Nat → Bool) : CS := orS (canS (fI0H O vl fl)) (fIC O nm vl fl nb)
def fS2 (O : FOps) (nm : Nat → Bool) (vl : (Nat → Nat) → Bool) (fl : Nat → Nat) (nb : Nat → Bool) (e : Bool) : CS := orS (canS (fS0H O vl fl e)) (fSC O nm vl fl nb e)
set_option maxRecDepth 100000 in
theorem cFI2 : CallOK Try.prog 79 (fI2 fops isNum valid flv (nanb .f64)) := by
  have h0 := (inlN_of (l := LW' fops isNum valid flv (nanb .f64)) okLW' mixed 8 Try.func79 (by kernel_rfl) (hints [(131, false)])).nw
  refine CallOK.or (CallOK.can (CallOK.hand (H := fI0H fops valid flv) h0 fun bs args rd e hh hob => ?_)) cFIC
  unfold fI0H at hh
  split at hh <;> try (cases hh; done)
  rename_i i o es n f xa xb s t xc dr rm tm
  split at hh <;> try (cases hh; done)
  rename_i j w p
  split at hh <;> cases hh
  rename_i hc
  simp only [Bool.and_eq_true, beqN] at hc
  obtain ⟨rfl, rfl, rfl, rfl, rfl, rfl⟩ := hc
  obtain ⟨_, hP⟩ := pB_iff.1 (show pB _ = true from hob.head)
  have h1 := I0_nw fops isNum valid flv (nanb .f64) f w p xa xb s t xc dr rm tm
  have e1 : ashI fops flv t (du0 fops xa xb s xc dr tm) = nAs fops flv 0 row0 xa xb s t xc dr tm := hP.ash_eq
  have e2 : whI fops flv (du0 fops xa xb s xc dr tm) = fops.ofInt .f32 (whS fops flv (du0 fops xa xb s xc dr tm)) := hP.whI_eq
  have ob := ob0I_ok hP
  rw [e1, st0I_eq] at h1
  rw [e2] at h1 ob
  exact ⟨_, h1, ob⟩
set_option maxRecDepth 100000 in
theorem cFS2 (e : Bool) : CallOK Try.prog 77 (fS2 fops isNum valid flv (nanb .f64) e) := by
  have h0 := (inlN_of (l := LW' fops isNum valid flv (nanb .f64)) okLW' mixed 8 Try.func77 (by kernel_rfl) (hints [(148, e)])).nw
  refine CallOK.or (CallOK.can (CallOK.hand (H := fS0H fops valid flv e) h0 fun bs args rd r hh hob => ?_)) (cFSC e)
  unfold fS0H at hh
  split at hh <;> try (cases hh; done)
  rename_i i' o' dr rm tm
  split at hh <;> try (cases hh; done)
  rename_i j w p j' w' p' i o es n f xa xb s t xc
  split at hh <;> try (cases hh; done)
  rename_i hc
  simp only [Bool.and_eq_true, beqN] at hc
  obtain ⟨rfl, rfl, rfl, rfl, rfl, rfl, rfl, rfl, rfl⟩ := hc
  cases e with
  | false =>
    cases hh
    obtain ⟨_, hP⟩ := pB_iff.1 (show pB _ = true from hob.head)
    have h1 := S0_nw fops isNum valid flv (nanb .f64) f w p w' p' xa xb s t xc dr rm tm
    have ob := AllT.app (ob0S_ok hP) (AllT.one' (show (!!okS0 fops flv xa xb s t xc dr rm tm) = true by rw [okS0_eq hP]; exact nn hob.tail.head))
    refine ⟨_, ?_, ob⟩
    refine h1.trans ?_
    unfold bxS0 duS0 airN
    rw [air_eq]
    rw [show bxI fops (datF row0) 0 xa rm (airI fops xb dr s) tm = nBx fops 0 row0 xa xb s dr rm tm from rfl, st0S_eq]
    rfl
  | true =>
    cases hh
    obtain ⟨_, hP⟩ := pB_iff.1 (show pB _ = true from hob.head)
    have h1 := E0_nw fops isNum valid flv (nanb .f64) f w p w' p' xa xb s t xc dr rm tm
    exact ⟨_, h1, AllT.app (ob0S_ok hP) (AllT.one' (by rw [okS0_eq hP]; exact hob.tail.head))⟩
end
end Go.Proofs.Ytngdmcbjponlhaa.Fir
end

/- The law of PutLog: what its text computes, with any number of logs. Nothing is assumed. -/
section
namespace Go.Proofs.Ytngdmcbjponlhaa.Ptl
open Go SlWood Stv Sto
noncomputable section
abbrev HH := List (Nat × Bool) × List (Nat × Bool)
def hOK : HH := ([(13, false), (18, false)], [(12, false), (17, false)])
def hErr : HH := ([(18, true)], [(17, true)])
def hLaw : List (Nat × Bool) := [(20, false), (46, false), (51, false), (67, false), (75, false), (78, false), (95, false), (100, false), (103, false)]
def LP (O : FOps) (vl : (Nat → Nat) → Bool) : List (Nat × CS) := (58, gS (validG vl)) :: (72, gQ [.p 18] (validG vl)) :: LW O vl
set_option maxRecDepth 100000 in
theorem okLP : AllOK Try.prog (LP fops valid) := ⟨cValI, cValS, okLW⟩
def cIh (O : FOps) (vl : (Nat → Nat) → Bool) (h : HH) : CS := inl ⟨Try.prog, O, orcN Try.prog O (LP O vl) 8⟩ Try.f37 ⟨hint h.1, fun _ => none⟩
def cSh (O : FOps) (vl : (Nat → Nat) → Bool) (h : HH) : CS := inl ⟨Try.prog, O, orcN Try.prog O (LP O vl) 8⟩ Try.f35 ⟨hint h.2, fun _ => none⟩
def L3 (O : FOps) (vl : (Nat → Nat) → Bool) (h : HH) : List (Nat × CS) := (37, cIh O vl h) :: (35, cSh O vl h) :: LW O vl
set_option maxRecDepth 100000 in
theorem okL3 (h : HH) : AllOK Try.prog (L3 fops valid h) :=
  ⟨inlN_of (l := LP fops valid) okLP mixed 8 Try.func37 (by kernel_rfl) _, inlN_of (l := LP fops valid) okLP mixed 8 Try.func35 (by kernel_rfl) _, okLW⟩
def run (O : FOps) (vl : (Nat → Nat) → Bool) (h : HH) (hl : List (Nat × Bool)) (v : SV) (rd : List (Nat × Seg)) (w : Nat → Nat) : Option (SV × List Bool) :=
  rE 2 (inl ⟨Try.prog, O, orcN Try.prog O (L3 O vl h) 8⟩ Try.f9 ⟨hint hl, fun _ => none⟩ 2 [v, wd w] rd)
/-- The rows, with one more. -/
def kR (n : Int) (R : Int → List SC) (w : Nat → Nat) (j : Int) : List SC := bif decide (j < n) then R j else wdL w
def oA2 (n : Int) : List Bool := [decide (0 ≤ n ∧ n ≤ n ∧ n ≤ 999999)]
def okv (vl : (Nat → Nat) → Bool) (V : Bool) (w : Nat → Nat) : Bool := bif !V then true else !vl (back w)
def sOK (O : FOps) (vl : (Nat → Nat) → Bool) (R : Int → List SC) (n : Int) (a b : Nat) (s t : Int) (c : Nat) (w : Nat → Nat) : List Bool := oV n s R ++ [!okv vl (vR O vl n R a b s t c) w, !decide (n = 6)] ++ oA n ++ oA2 n
def tOK (E : Bool) : Bool := bif !E then true else false
set_option maxRecDepth 100000 in
theorem run_ok (O : FOps) (vl : (Nat → Nat) → Bool) (F : Nat → Int → Nat) (G : Nat → Int → Int) (n : Int) (a b : Nat) (s t : Int) (c : Nat) (w : Nat → Nat) :
    run O vl hOK hLaw (stA n a b s t c) [(1, ⟨false, false, .rows 18 n (Row F G)⟩)] w = some (.c (.bool .t), obH O F G n (sOK O vl (R1 F G n) n a b s t c w) (sOK O vl (R1 F G n) n a b s t c w) (n + 1) (n + 1) (n + 1) (kR n (R1 F G n) w) (kR n (R1 F G n) w) (tOK (eqT O (eqR O (n + 1) (n + 1) (kR n (R1 F G n) w) (kR n (R1 F G n) w)) a b s t c)) (eqT O (eqR O n n (R1 F G n) (R1 F G n)) a b s t c)) := by kernel_rfl
def cde (P : Bool) : Int := bif P then 1 else 3
def zf (P : Bool) : Nat := bif P then 0 else 0
def tz (O : FOps) (P Q : Bool) : Bool := bif !eqT0 O (zf P) (zf Q) then true else !decide (cde P = cde Q)
def sErr (O : FOps) (vl : (Nat → Nat) → Bool) (R : Int → List SC) (n : Int) (a b : Nat) (s t : Int) (c : Nat) (w : Nat → Nat) : List Bool := oV n s R ++ gdB (okv vl (vR O vl n R a b s t c) w) [decide (n = 6)]
set_option maxRecDepth 100000 in
theorem run_err (O : FOps) (vl : (Nat → Nat) → Bool) (F : Nat → Int → Nat) (G : Nat → Int → Int) (n : Int) (a b : Nat) (s t : Int) (c : Nat) (w : Nat → Nat) :
    run O vl hErr hLaw (stA n a b s t c) [(1, ⟨false, false, .rows 18 n (Row F G)⟩)] w = some (.c (.bool .t), obGe O F G n (sErr O vl (R1 F G n) n a b s t c w) (sErr O vl (R1 F G n) n a b s t c w) (tz O (okv vl (vR O vl n (R1 F G n) a b s t c) w) (okv vl (vR O vl n (R1 F G n) a b s t c) w)) (eqT O (eqR O n n (R1 F G n) (R1 F G n)) a b s t c)) := by kernel_rfl
set_option maxRecDepth 100000 in
theorem run_big (O : FOps) (vl : (Nat → Nat) → Bool) (F : Nat → Int → Nat) (G : Nat → Int → Int) (n : Int) (a b : Nat) (s t : Int) (c : Nat) (w : Nat → Nat) :
    run O vl hOK [(20, true)] (stA n a b s t c) [(1, ⟨false, false, .rows 18 n (Row F G)⟩)] w = some (.c (.bool .t), [decide (lf n < 0)]) := by kernel_rfl
def hqf (O : FOps) : Nat → Int → Int
  | 0, k => k
  | m + 1, k => bif O.cmp .neq .f32 (O.ofInt .f32 k) (O.ofInt .f32 k) then -1 else hqf O m (k + 1)
def q0 (O : FOps) : Int := bif decide (hqf O 18 1 < 0) then -1 else hqf O 18 1
def oQ0 (O : FOps) : List Bool := [!decide (q0 O < 0), !!decide (q0 O = 19)]
def e1 (O : FOps) (w : Nat → Nat) : Bool := bif !eqW O (back w) (back w) then false else true
def ob1 (Ss Si : List Bool) (T E : Bool) (q : List Bool) : List Bool := Ss ++ Si ++ [!T, !!E, !T] ++ q ++ Si ++ [!T] ++ q
set_option maxRecDepth 100000 in
theorem run0_ok (O : FOps) (vl : (Nat → Nat) → Bool) (a b : Nat) (s t : Int) (c : Nat) (w : Nat → Nat) :
    run O vl hOK hLaw (st0 a b s t c) [] w = some (.c (.bool .t), ob1 [!okv vl (vS O true 0 a b s t c) w] [!okv vl (vI O true 0 a b s t c) w] (tOK (eqT O (e1 O w) a b s t c)) (eqT O true a b s t c) (oQ0 O)) := by kernel_rfl
set_option maxRecDepth 100000 in
theorem run0_err (O : FOps) (vl : (Nat → Nat) → Bool) (a b : Nat) (s t : Int) (c : Nat) (w : Nat → Nat) :
    run O vl ([(13, true)], [(12, true)]) hLaw (st0 a b s t c) [] w = some (.c (.bool .t), ob0 [okv vl (vS O true 0 a b s t c) w] [okv vl (vI O true 0 a b s t c) w] (bif !eqT0 O 0 0 then true else false) (eqT O true a b s t c)) := by kernel_rfl
theorem tz_false (P : Bool) : tz fops P P = false := by
  unfold tz
  rw [eqT0_true]
  simp
theorem hqf_eq : ∀ (m : Nat) (k : Int), hqf fops m k = k + m
  | 0, k => by simp [hqf]
  | m + 1, k => by
    unfold hqf
    rw [cmp_neq_self, int_num, hqf_eq m (k + 1)]
    simp only [cond_false]
    omega
theorem oQ0_ok : AllT (oQ0 fops) := by
  unfold oQ0 q0
  rw [hqf_eq]
  exact AllT.cons (by decide) (AllT.one (by decide))
theorem e1_true (w : Nat → Nat) : e1 fops w = true := by
  unfold e1
  rw [eqW_self]
  rfl
set_option maxRecDepth 100000 in
theorem shape_of {row : Int → List SC} (h : ∀ j, ∃ F G, row j = Row F G j) : Shape ts row := by
  funext j
  obtain ⟨F, G, e⟩ := h j
  show row j = mkL (fun c => fltC ((row j).getD c .any)) (fun c => intC ((row j).getD c .any)) (fun _ => true) ts 0
  rw [e]
  kernel_rfl
theorem kR_shape {R : Int → List SC} (h : Shape ts R) (n : Int) (w : Nat → Nat) : Shape ts (kR n R w) := shape_of fun j => by
  unfold kR
  cases decide (j < n) with
  | true => exact ⟨datF R, datG R, by rw [cond_true]; exact congrFun h j⟩
  | false => exact ⟨fun c _ => w c, fun _ _ => 0, by rw [cond_false]; kernel_rfl⟩
theorem ob1_ok {Ss Si : List Bool} (hs : AllT Ss) (hi : AllT Si) {T E : Bool} (hT : T = false) (hE : E = true) {q : List Bool} (hq : AllT q) : AllT (ob1 Ss Si T E q) := by
  unfold ob1
  rw [hT, hE]
  simp only [AllT.iff_app]
  exact ⟨⟨⟨⟨⟨⟨hs, hi⟩, AllT.cons rfl (AllT.cons rfl (AllT.cons rfl AllT.nil))⟩, hq⟩, hi⟩, AllT.one rfl⟩, hq⟩
theorem okv_iff {vl : (Nat → Nat) → Bool} {V : Bool} {w : Nat → Nat} (h : okv vl V w = false) : V = true := by
  unfold okv at h
  cases V with
  | true => rfl
  | false => cases h
theorem law_all (F : Nat → Int → Nat) (G : Nat → Int → Int) {n : Int} (h0 : 0 ≤ n) (hmax : n ≤ 9223372036854775807) (a b : Nat) {s : Int} (hs : -128 ≤ s ∧ s ≤ 127) (t : Int) (c : Nat) (w : Nat → Nat) :
    ∃ h hl ob, run fops valid h hl (stA n a b s t c) [(1, ⟨false, false, .rows 18 n (Row F G)⟩)] w = some (.c (.bool .t), ob) ∧ AllT ob := by
  by_cases hbig : 1048576 < n
  · exact ⟨_, _, _, run_big fops valid F G n a b s t c w, AllT.one (lf_big hbig hmax)⟩
  · have h1 : n ≤ 1048576 := by omega
    have hv := oV_ok (r1_shape F G n) h0 h1 hs
    by_cases hOK : okv valid (vR fops valid n (R1 F G n) a b s t c) w = false ∧ n ≠ 6
    · obtain ⟨hV, hn⟩ := hOK
      have h6 := vR_six (okv_iff hV)
      have hS : AllT (sOK fops valid (R1 F G n) n a b s t c w) := by
        unfold sOK
        refine AllT.app (AllT.app (AllT.app hv (AllT.cons (by rw [hV]; rfl) (AllT.one (by simpa using hn)))) (oA_ok h0 h6)) (AllT.one ?_)
        simp; omega
      have hk := kR_shape (r1_shape F G n) n w
      exact ⟨_, _, _, run_ok fops valid F G n a b s t c w, obH_ok F G h0 h1 hS hS (by omega) (by omega) rfl rfl hk hk (by unfold tOK; rw [eqT_q]; rfl) (eqT_q _ _ _ _ _ _ _)⟩
    · have hS : AllT (sErr fops valid (R1 F G n) n a b s t c w) := by
        unfold sErr
        refine AllT.app hv (gd1 fun e1 => ?_)
        by_cases hn : n = 6
        · simpa using hn
        · exact absurd ⟨e1, hn⟩ hOK
      exact ⟨_, _, _, run_err fops valid F G n a b s t c w, obGe_ok F G h0 h1 hS hS (tz_false _) (eqT_q _ _ _ _ _ _ _)⟩
theorem law_all0 (a b : Nat) {s : Int} (hs : -128 ≤ s ∧ s ≤ 127) (t : Int) (c : Nat) (w : Nat → Nat) : ∃ h hl ob, run fops valid h hl (st0 a b s t c) [] w = some (.c (.bool .t), ob) ∧ AllT ob := by
  have hv := v0_eq a b hs t c
  cases hV : okv valid (vI fops true 0 a b s t c) w with
  | false =>
    have hW : okv valid (vS fops true 0 a b s t c) w = false := by rw [hv]; exact hV
    exact ⟨_, _, _, run0_ok fops valid a b s t c w, ob1_ok (AllT.one (by rw [hW]; rfl)) (AllT.one (by rw [hV]; rfl)) (by unfold tOK; rw [eqT_true (e1_true w)]; rfl) (eqT_true rfl _ _ _ _ _) oQ0_ok⟩
  | true =>
    have hW : okv valid (vS fops true 0 a b s t c) w = true := by rw [hv]; exact hV
    exact ⟨_, _, _, run0_err fops valid a b s t c w, ob0_ok (AllT.one hW) (AllT.one hV) (by rw [eqT0_true]; rfl) (eqT_true rfl _ _ _ _ _)⟩
end
end Go.Proofs.Ytngdmcbjponlhaa.Ptl
end

/- The code of a stove's step: both functions give the same. Nothing is assumed. -/
section
namespace Go.Proofs.Ytngdmcbjponlhaa.Fir
open Go SlWood Stv Sto
noncomputable section
def btw (O : FOps) (rm : Nat) : Bool := bif O.cmp .geq .f32 rm 3262119936 then O.cmp .leq .f32 rm 1120403456 else false
def bdI (O : FOps) (dr rm tm : Nat) : Bool := bif !decide (dr < 2139095040) then true else bif !btw O rm then true else bif shr O tm then false else true
def cdI (O : FOps) (V : Bool) (dr rm tm : Nat) : Int := bif !V then 1 else bif (!!V && bdI O dr rm tm) then 2 else 0
def bdS (O : FOps) (dr rm tm : Nat) : Bool := bif !decide (dr < 2139095040) then true else bif O.cmp .geq .f32 rm 3262119936 then bif !O.cmp .leq .f32 rm 1120403456 then true else bif shr O tm then false else true else true
def cdS (O : FOps) (V : Bool) (dr rm tm : Nat) : Int := bif !V then 1 else bif bdS O dr rm tm then 2 else 0
theorem bd_eq (O : FOps) (dr rm tm : Nat) : bdS O dr rm tm = bdI O dr rm tm := by
  unfold bdS bdI btw
  cases decide (dr < 2139095040) <;> cases O.cmp .geq .f32 rm 3262119936 <;> cases O.cmp .leq .f32 rm 1120403456 <;> rfl
theorem cd_eq (O : FOps) (V : Bool) (dr rm tm : Nat) : cdS O V dr rm tm = cdI O V dr rm tm := by
  unfold cdS cdI
  rw [bd_eq]
  cases V <;> rfl
theorem cd0 {O : FOps} {V : Bool} {dr rm tm : Nat} (h : cdI O V dr rm tm = 0) : V = true ∧ bdI O dr rm tm = false := by
  unfold cdI at h
  cases V
  · cases h
  · cases hb : bdI O dr rm tm
    · exact ⟨rfl, rfl⟩
    · rw [hb] at h; cases h
theorem bd_false {dr rm tm : Nat} (h : bdI fops dr rm tm = false) : dr < 2139095040 ∧ Bd rm 1153138688 ∧ Share tm := by
  unfold bdI at h
  cases h1 : decide (dr < 2139095040) with
  | false => rw [h1] at h; cases h
  | true =>
    cases h2 : btw fops rm with
    | false => rw [h1, h2] at h; cases h
    | true =>
      cases h3 : shr fops tm with
      | false => rw [h1, h2, h3] at h; cases h
      | true =>
        refine ⟨of_decide_eq_true h1, ?_, share_of h3⟩
        unfold btw at h2
        cases h4 : fops.cmp .geq .f32 rm 3262119936 with
        | false => rw [h4] at h2; cases h2
        | true =>
          rw [h4] at h2
          exact (bd_between h4 h2 (by decide) (by decide)).mono (by decide)
set_option maxRecDepth 100000 in
theorem coI (O : FOps) (vl : (Nat → Nat) → Bool) (f w o : Bool) (n N : Int) (row : Int → List SC) (a b : Nat) (s t : Int) (c dr rm tm : Nat) : roS (inl (Sto.cxW O vl) Try.f78 noH) 2 [.a (stL f n a b s t c), .c (.flt .f32 dr), .c (.flt .f32 rm), .c (.flt .f32 tm)] [(1, ⟨w, o, .rows 18 N row⟩)] =
    some ⟨.c (.int .i64 (.s (cdI O (vR O vl n row a b s t c) dr rm tm))), [], 61, [flatR row, okV n N s row]⟩ := by kernel_rfl
set_option maxRecDepth 100000 in
theorem coS (O : FOps) (vl : (Nat → Nat) → Bool) (f w o w' o' : Bool) (n N : Int) (row : Int → List SC) (a b : Nat) (s t : Int) (c dr rm tm : Nat) : roS (inl (Sto.cxW O vl) Try.f76 noH) 3 [.c (.ptr 2 0), .c (.flt .f32 dr), .c (.flt .f32 rm), .c (.flt .f32 tm)] [(1, ⟨w, o, .rows 18 N row⟩), (2, ⟨w', o', .cells (stL f n a b s t c)⟩)] =
    some ⟨.c (.int .i64 (.s (cdS O (vR O vl n row a b s t c) dr rm tm))), [], 60, [flatR row, okV n N s row]⟩ := by kernel_rfl
def coIH (O : FOps) (vl : (Nat → Nat) → Bool) : CS := fun base args rd => match args with
  | [.a [.sl i o es (.s n) _, .flt .f32 a, .flt .f32 b, .int .i8 (.s s), .int .i64 (.s t), .flt .f32 c], .c (.flt .f32 dr), .c (.flt .f32 rm), .c (.flt .f32 tm)] => match rd with
    | [(j, ⟨_, _, .rows st N row⟩)] => match Nat.beq base 2 && (Nat.beq i 1 && (Nat.beq o 0 && (Nat.beq es 18 && (Nat.beq j 1 && Nat.beq st 18)))) with
      | true => some ⟨.c (.int .i64 (.s (cdI O (vR O vl n row a b s t c) dr rm tm))), [], 61, [okV n N s row]⟩
      | false => none
    | _ => none
  | _ => none
def coSH (O : FOps) (vl : (Nat → Nat) → Bool) : CS := fun base args rd => match args with
  | [.c (.ptr i' o'), .c (.flt .f32 dr), .c (.flt .f32 rm), .c (.flt .f32 tm)] => match rd with
    | [(j, ⟨_, _, .rows st N row⟩), (j', ⟨_, _, .cells [.sl i o es (.s n) _, .flt .f32 a, .flt .f32 b, .int .i8 (.s s), .int .i64 (.s t), .flt .f32 c]⟩)] => match Nat.beq base 3 && (Nat.beq i' 2 && (Nat.beq o' 0 && (Nat.beq j' 2 && (Nat.beq i 1 && (Nat.beq o 0 && (Nat.beq es 18 && (Nat.beq j 1 && Nat.beq st 18))))))) with
      | true => some ⟨.c (.int .i64 (.s (cdI O (vR O vl n row a b s t c) dr rm tm))), [], 60, [okV n N s row]⟩
      | false => none
    | _ => none
  | _ => none
def coIC (O : FOps) (vl : (Nat → Nat) → Bool) : CS := orS (canS (coIH O vl)) (inl (Sto.cxW O vl) Try.f78 noH)
def coSC (O : FOps) (vl : (Nat → Nat) → Bool) : CS := orS (canS (coSH O vl)) (inl (Sto.cxW O vl) Try.f76 noH)
set_option maxRecDepth 100000 in
theorem cCoI : CallOK Try.prog 78 (coIC fops valid) := by
  have h0 := inlN_of (l := Sto.LW fops valid) okLW mixed 8 Try.func78 (by kernel_rfl) (fun _ => none)
  refine CallOK.or (CallOK.can (CallOK.hand (H := coIH fops valid) h0.ro fun bs args rd e hh hob => ?_)) h0
  unfold coIH at hh
  split at hh <;> try (cases hh; done)
  rename_i i o es n f xa xb s t xc dr rm tm
  split at hh <;> try (cases hh; done)
  rename_i j w p st N row
  split at hh <;> cases hh
  rename_i hc
  simp only [Bool.and_eq_true, beqN] at hc
  obtain ⟨rfl, rfl, rfl, rfl, rfl, rfl⟩ := hc
  have hk := hob.head
  have hs := pB_iff.1 (show pB _ = true from hk)
  exact ⟨_, coI fops valid f w p n N row xa xb s t xc dr rm tm, AllT.cons (shape_flat hs.2.2.2.1) (AllT.one hk)⟩
set_option maxRecDepth 100000 in
theorem cCoS : CallOK Try.prog 76 (coSC fops valid) := by
  have h0 := inlN_of (l := Sto.LW fops valid) okLW mixed 8 Try.func76 (by kernel_rfl) (fun _ => none)
  refine CallOK.or (CallOK.can (CallOK.hand (H := coSH fops valid) h0.ro fun bs args rd e hh hob => ?_)) h0
  unfold coSH at hh
  split at hh <;> try (cases hh; done)
  rename_i i' o' dr rm tm
  split at hh <;> try (cases hh; done)
  rename_i j w p st N row j' w' p' i o es n f xa xb s t xc
  split at hh <;> cases hh
  rename_i hc
  simp only [Bool.and_eq_true, beqN] at hc
  obtain ⟨rfl, rfl, rfl, rfl, rfl, rfl, rfl, rfl, rfl⟩ := hc
  have hk := hob.head
  have hs := pB_iff.1 (show pB _ = true from hk)
  have h1 := coS fops valid f w p w' p' n N row xa xb s t xc dr rm tm
  rw [cd_eq] at h1
  exact ⟨_, h1, AllT.cons (shape_flat hs.2.2.2.1) (AllT.one hk)⟩
end
end Go.Proofs.Ytngdmcbjponlhaa.Fir
end

/- A loop whose rounds have contexts of their own. Nothing is assumed. -/
section
namespace Go.Proofs.Ytngdmcbjponlhaa
open Go
noncomputable section
/-- From data at the loop's head to a way out and its data; each round in a context of its own. -/
inductive LoopsX (P : Program) (N : Nat) (x : Code) (nx0 mx : Nat) (sk : Sk) : List LD → XK → Sk → List LD → Prop where
  | step {cx : Cx} {h : Hn} {p p' : List LD} {xk : XK} {skE : Sk} {pE : List LD} {ρ : List (Nat × Nat)} {ob : List Bool} : CodeOK P N x (sx cx N h x) → goL cx N h x nx0 mx sk ρ sk p = some (none, p', ob) → AllT ob → LoopsX P N x nx0 mx sk p' xk skE pE → LoopsX P N x nx0 mx sk p xk skE pE
  | done {cx : Cx} {h : Hn} {p : List LD} {xk : XK} {skE : Sk} {pE : List LD} {ρ : List (Nat × Nat)} {ob : List Bool} : CodeOK P N x (sx cx N h x) → goL cx N h x nx0 mx sk ρ skE p = some (some xk, pE, ob) → AllT ob → LoopsX P N x nx0 mx sk p xk skE pE
  | stepJ {cx : Cx} {h : Hn} {p p' : List LD} {xk : XK} {skE : Sk} {pE : List LD} {j : Nat} {ρ : List (Nat × Nat)} {ob : List Bool} : CodeOK P N x (sx cx N h x) → goJ cx N h x j nx0 mx sk ρ sk p = some (none, p', ob) → AllT ob → LoopsX P N x nx0 mx sk p' xk skE pE → LoopsX P N x nx0 mx sk p xk skE pE
  | doneJ {cx : Cx} {h : Hn} {p : List LD} {xk : XK} {skE : Sk} {pE : List LD} {j : Nat} {ρ : List (Nat × Nat)} {ob : List Bool} : CodeOK P N x (sx cx N h x) → goJ cx N h x j nx0 mx sk ρ skE p = some (some xk, pE, ob) → AllT ob → LoopsX P N x nx0 mx sk p xk skE pE
section
variable {P : Program} {N : Nat} {x : Code} {nx0 mx : Nat} {sk : Sk}
theorem loopsX_wp {Lim : Rg} {w0 : World} {T0 : Nat → Nat → Prop} {E0 : EM} {p : List LD} {xk : XK} {skE : Sk} {pE : List LD} (hL : LoopsX P N x nx0 mx sk p xk skE pE)
    (h3 : mx ≤ Lim.lim) (h4 : ∀ i, nx0 ≤ i → i < Lim.lim → E0 i = none) (h5 : Lim.base ≤ nx0) {R : List Ly} {kt ks : List Nat} (hkt : ∀ t, t ∉ kt → getT R t = .undef) (hks : ∀ i, i ∉ ks → getS R i = none)
    {va : List (Nat × SV)} {vb : List (Nat × Option Seg)} {p' : List LD} (hva : bTs skE.tms pE = some (va, p')) (hvb : bSs skE.segs p' = some (vb, [])) :
    ∃ n, ∀ E a w, Ext E0 E → StR N Lim w0 T0 sk p E a w → Code.rounds P x (Post N Lim w0 T0 E0 R (some xk) (onT N kt ks mx va vb)) n a w := by
  induction hL with
  | done hx hgo hob =>
    refine ⟨1, fun E a w he hr => ?_⟩
    obtain ⟨g1, g2, g3, g4, g5, g6⟩ := goL_ok hx hgo hob he hr h3
    rw [rounds_succ]
    refine wp_mono g1 fun e a' w' hp => ?_
    obtain ⟨rfl, E', tm, sg, next, ob', he', hr', hm, hob', hn⟩ := hp
    obtain ⟨va', vb', p'', k1, k2, E'', k3, k4⟩ := on_srel (R := R) (kt := kt) (ks := ks) (nx := mx) hr' he' hm hob' g2 g4 g5 (Nat.le_trans g5 h3) (Nat.le_trans hn h3) h4 h5 g6 hkt hks
    rw [hva] at k1; cases k1
    rw [hvb] at k2; cases k2
    rename_i xk _ _ _ _
    have hP : Post N Lim w0 T0 E0 R (some xk) (onT N kt ks mx va vb) (exitOf (some xk)) a' w' := ⟨rfl, E'', k3, by rw [onT_next]; exact k4⟩
    cases xk <;> exact hP
  | step hx hgo hob _ ih =>
    obtain ⟨n, hn⟩ := ih hva hvb
    refine ⟨n + 1, fun E a w he hr => ?_⟩
    obtain ⟨g1, g2, g3, g4, g5, g6⟩ := goL_ok hx hgo hob he hr h3
    rw [rounds_succ]
    refine wp_mono g1 fun e a' w' hp => ?_
    obtain ⟨rfl, hp⟩ := hp
    obtain ⟨E', he', hr'⟩ := hp.st g2 g4 g5 h3 h4 h5 g6
    exact hn E' a' w' he' hr'
  | doneJ hx hgo hob =>
    refine ⟨1, fun E a w he hr => ?_⟩
    obtain ⟨g1, g2, g3, g4, g5, g6⟩ := goJ_ok hx hgo hob he hr h3
    rw [rounds_succ]
    refine wp_mono g1 fun e a' w' hp => ?_
    obtain ⟨rfl, E', tm, sg, next, ob', he', hr', hm, hob', hn⟩ := hp
    obtain ⟨va', vb', p'', k1, k2, E'', k3, k4⟩ := on_srel (R := R) (kt := kt) (ks := ks) (nx := mx) hr' he' hm hob' g2 g4 g5 (Nat.le_trans g5 h3) (Nat.le_trans hn h3) h4 h5 g6 hkt hks
    rw [hva] at k1; cases k1
    rw [hvb] at k2; cases k2
    rename_i xk _ _ _ _ _
    have hP : Post N Lim w0 T0 E0 R (some xk) (onT N kt ks mx va vb) (exitOf (some xk)) a' w' := ⟨rfl, E'', k3, by rw [onT_next]; exact k4⟩
    cases xk <;> exact hP
  | stepJ hx hgo hob _ ih =>
    obtain ⟨n, hn⟩ := ih hva hvb
    refine ⟨n + 1, fun E a w he hr => ?_⟩
    obtain ⟨g1, g2, g3, g4, g5, g6⟩ := goJ_ok hx hgo hob he hr h3
    rw [rounds_succ]
    refine wp_mono g1 fun e a' w' hp => ?_
    obtain ⟨rfl, hp⟩ := hp
    obtain ⟨E', he', hr'⟩ := hp.st g2 g4 g5 h3 h4 h5 g6
    exact hn E' a' w' he' hr'
theorem loopX_ok {ρ : List (Nat × Nat)} {F : List LD → Option (XO × List Bool)} 
    (hF : ∀ p r, F p = some r → AllT r.2 → ∃ xk skE pE, pickX r.1 = some (xk, skE, pE) ∧ LoopsX P N x nx0 mx sk p xk skE pE) : CodeOK P N (.loop x) (loopL N nx0 mx sk ρ F) := by
  intro R T o ho hob
  unfold loopL at ho
  split at ho <;> try (cases ho; done)
  rename_i hc
  simp only [Bool.and_eq_true, Nat.ble_eq, beqN] at hc
  obtain ⟨c1, c2, c3, c4, c5⟩ := hc
  obtain ⟨p, hm, ho⟩ := bindO_some ho
  obtain ⟨r, hr, ho⟩ := bindO_some ho
  obtain ⟨l, hl, hsel⟩ := exitsK_some ho
  cases hl
  obtain ⟨hob1, hob2⟩ := hob.append
  obtain ⟨xk, skE, pE, h1, h2⟩ := hF p.1 r hr hob2
  obtain ⟨va, vb, p', g1, g2, g3⟩ := hsel xk skE pE h1
  refine ⟨some xk, _, g3, by rw [onT_next]; omega, fun Lim w0 T0 E a w hs hlim => ?_⟩
  rw [onT_next] at hlim
  have hfresh : ∀ i, nx0 ≤ i → i < Lim.lim → E i = none := fun i hi1 hi2 => hs.fresh i (by omega) hi2
  have hbn : Lim.base ≤ nx0 := by have := hs.bn; omega
  obtain ⟨n, hn⟩ := loopsX_wp (w0 := w0) (T0 := T0) (E0 := E) h2 hlim hfresh hbn (R := R) (kt := keysT R) (ks := keysS R) (fun t => keysT_ok) (fun i => keysS_ok) g1 g2
  obtain ⟨va', vb', p'', k1, k2, E'', k3, k4⟩ := on_srel (R := []) (kt := []) (ks := []) (nx := sk.next) hs (Ext.refl E) hm hob1 c2 c3 (Nat.le_refl _) (by omega) (by omega) hfresh hbn c5 (fun _ _ => rfl) (fun _ _ => rfl)
  exact wp_loop_rounds n (hn E'' a w k3 ⟨va', vb', p'', k1, k2, k4⟩)
end
/-- A loop's body, some of whose own loops are told of. -/
theorem bodyL_ok {P : Program} {l : List (Nat × CS)} (ha : AllOK P l) (hmx : P.follows .mixedOrders = true) (n : Nat) {N : Nat} {x : Code} (ts : Nat → Option Bool) {ls : LS} (h1 : onceB (loopsIn x) = true) (h2 : LoopsOK P N x ls) : CodeOK P N x (sx ⟨P, fops, orcN P fops l n⟩ N ⟨ts, lpOf ls⟩ x) :=
  sx_ok (cx := ⟨P, fops, orcN P fops l n⟩) rfl (orcN_ok ha hmx n) hmx x (fun b hm L h => by
    obtain ⟨b', k1, k2⟩ := h2.get _ L h
    rw [loopAt_mem h1 hm] at k1
    cases k1
    exact k2)
end
end Go.Proofs.Ytngdmcbjponlhaa
end

/- A slice without a block, handed over alone: a call with ids of its own, and a copy told of as rows. Nothing is assumed. -/
section
namespace Go.Proofs.Ytngdmcbjponlhaa
open Go
noncomputable section
def argIds (args : List SV) : List Nat := onceN (idsVs args [])
/-- 'S', with the ids in its arguments called 1, 2, .., where no segment is handed over. -/
def canZ (S : CS) : CS := fun base args rd =>
  match rd with
  | _ :: _ => none
  | [] => match (argIds args).all (fun i => Nat.ble (i + 1) base && Nat.ble 1 i) && distN (argIds args) with
    | false => none
    | true => bindO (rnVs (fun i => posOf (argIds args) i 1) args) fun args' => bindO (S ((argIds args).length + 1) args' []) fun e =>
      match Nat.ble ((argIds args).length + 1) e.next with
      | false => none
      | true => bindO (rnV (backN (argIds args) (argIds args).length base e.next) e.ret) fun ret => bindO (rnWs (backN (argIds args) (argIds args).length base e.next) e.ws) fun ws =>
        some ⟨ret, ws.1, base + (e.next - ((argIds args).length + 1)), ws.2 ++ e.obs⟩
theorem CallOK.nil {P : Program} {f : FuncId} {S : CS} (h : CallOK P f S) : CallOK P f (canZ S) := by
  intro E base args vals rd w e hs hob hargs hb1 hbe hfr hmem
  unfold canZ at hs
  split at hs <;> try (cases hs; done)
  split at hs <;> try (cases hs; done)
  rename_i hids
  generalize hL : argIds args = L at *
  simp only [Bool.and_eq_true, List.all_eq_true, Nat.ble_eq] at hids
  obtain ⟨hlt, hdist⟩ := hids
  obtain ⟨args', hargs', hs⟩ := bindO_some hs
  obtain ⟨e1, he1, hs⟩ := bindO_some hs
  split at hs <;> try (cases hs; done)
  rename_i hnx
  rw [Nat.ble_eq] at hnx
  obtain ⟨ret, hret, hs⟩ := bindO_some hs
  obtain ⟨ws, hws, hs⟩ := bindO_some hs
  cases hs
  simp only at hob hbe hfr
  obtain ⟨hob2, hob3⟩ := hob.append
  generalize hm : (L).length = m at *
  -- the ids of the call's own
  let E1 : EM := fun j => if 1 ≤ j ∧ j ≤ m then (match nthN (L) (j - 1) with
    | some i => E i
    | none => none) else none
  have hE1 : ∀ i j, posOf (L) i 1 = some j → E1 j = E i := by
    intro i j hj
    obtain ⟨h1, h2, h3⟩ := posOf_ok hj
    show (if 1 ≤ j ∧ j ≤ m then _ else none) = _
    rw [if_pos (by omega), h2]
  have hl1 : Leads (fun i => posOf (L) i 1) E E1 := fun i j _ hj => ⟨hE1 i j hj, by have := (posOf_ok hj).1; omega⟩
  have hpinj : ∀ i i' j, posOf (L) i 1 = some j → posOf (L) i' 1 = some j → i = i' := by
    intro i i' j hi hi'
    have h1 := (posOf_ok hi).2.1
    rw [(posOf_ok hi').2.1] at h1
    exact (Option.some.inj h1).symm
  have hmem1 : MemRel w (Tch E1 []) E1 (fun j => findS j []) w :=
    ⟨fun j g' hj => (by cases hj), fun i j g k b o z b' o' z' hij hi => (by cases hi), fun j g' b o z hj => (by cases hj), Fr.refl _ _, hmem.tab.1, fun b k hb hk => (by obtain ⟨j, g', o, z, h1, _⟩ := hk; cases h1)⟩
  have hT : ∀ b k, Tch E1 [] b k → Tch E [] b k := by
    rintro b k ⟨j, g', o, z, h1, h2, h3, h4⟩
    cases h1
  refine (h E1 (m + 1) args' vals [] w e1 he1 hob3 (rnVs_ok hl1 hargs' hargs) (by omega) hnx (fun i hi _ => if_neg (by omega)) hmem1).mono fun v w' hp => ?_
  obtain ⟨E1', p1, p2, p3, p4⟩ := hp
  let E' : EM := fun i => if base ≤ i ∧ i < base + (e1.next - (m + 1)) then E1' (i - base + (m + 1)) else E i
  have hback : ∀ j i, backN (L) m base e1.next j = some i → j ≠ 0 ∧ ((j ≤ m ∧ nthN (L) (j - 1) = some i) ∨ (m < j ∧ j < e1.next ∧ i = base + (j - (m + 1)))) := by
    intro j i hji
    unfold backN at hji
    split at hji
    · cases hji
    · rename_i h0
      refine ⟨fun e => by (rw [beqN.2 e] at h0; cases h0), ?_⟩
      split at hji
      · rename_i hb; rw [Nat.ble_eq] at hb; exact .inl ⟨hb, hji⟩
      · rename_i hb
        split at hji
        · rename_i hb2
          rw [Nat.ble_eq] at hb2
          cases hji
          exact .inr ⟨Nat.lt_of_not_le fun hl => by (rw [Nat.ble_eq_true_of_le hl] at hb; cases hb), by omega, rfl⟩
        · cases hji
  have hbE : Leads (backN (L) m base e1.next) E1' E' := by
    intro j i h0 hji
    rcases (hback j i hji).2 with ⟨h1, h2⟩ | ⟨h1, h2, rfl⟩
    · have hi := hlt i (nthN_mem h2).1
      refine ⟨?_, by omega⟩
      show (if _ then _ else _) = _
      rw [if_neg (by omega)]
      have e1j : E1 j = E i := by
        show (if 1 ≤ j ∧ j ≤ m then _ else none) = _
        rw [if_pos (by omega), h2]
      cases hx : E i with
      | some x => rw [p1 j x (by rw [e1j, hx])]
      | none =>
        cases hy : E1' j with
        | none => rfl
        | some y =>
          rcases p2 j (by rw [hy]; simp) with h3 | h3
          · rw [e1j, hx] at h3; exact absurd rfl h3
          · omega
    · refine ⟨?_, by omega⟩
      show (if _ then _ else _) = _
      rw [if_pos (by omega)]
      congr 1; omega
  have hinj : ∀ j j' i, backN (L) m base e1.next j = some i → backN (L) m base e1.next j' = some i → j = j' := by
    intro j j' i h1 h2
    obtain ⟨h0, h1⟩ := hback j i h1
    obtain ⟨h0', h2⟩ := hback j' i h2
    rcases h1 with ⟨a1, a2⟩ | ⟨a1, a2, a3⟩ <;> rcases h2 with ⟨b1, b2⟩ | ⟨b1, b2, b3⟩
    · have := nthN_inj hdist a2 b2; omega
    · have := hlt i (nthN_mem a2).1; omega
    · have := hlt i (nthN_mem b2).1; omega
    · omega
  have hpb : ∀ i j, posOf (L) i 1 = some j → backN (L) m base e1.next j = some i := by
    intro i j hj
    obtain ⟨h1, h2, h3⟩ := posOf_ok hj
    unfold backN
    split
    · rename_i h0; rw [beqN] at h0; omega
    · split
      · exact h2
      · rename_i hb; rw [Nat.ble_eq_true_of_le (by omega)] at hb; cases hb
  have hG : ∀ i g', findS i ([] : List (Nat × Seg)) = some g' → ∃ j g, backN L m base e1.next j = some i ∧ findS j [] = some g ∧ SegRn E1' E' g g' := by
    intro i g' hg
    cases hg
  have hGet := rnWs_get hbE hinj hws hob2 (F := fun j => findS j []) (G := fun i => findS i []) hG
  refine ⟨E', fun i x hx => ?_, fun i hi => ?_, rnV_ok hbE hret p3, fun i g' hg => ?_, fun i j g k b o z b' o' z' hij hi hj hrw hEi hEj => ?_, fun i g' b o z hi hrw hEi => ?_, p4.fr.mono hT, hmem.tab⟩
  · show (if _ then _ else _) = _
    rw [if_neg]
    · exact hx
    · intro h; rw [hfr i h.1 h.2] at hx; cases hx
  · by_cases h : base ≤ i ∧ i < base + (e1.next - (m + 1))
    · exact .inr h
    · left
      have : E' i = E i := if_neg h
      rwa [this] at hi
  · obtain ⟨j, g, h1, h2, h3⟩ := hGet i g' hg
    obtain ⟨b, o, z, cs, T, fr, e, s⟩ := p4.segs j g h2
    exact ⟨b, o, z, cs, T, fr, (hbE j i (hback j i h1).1 h1).1.trans e, s.rn h3⟩
  · obtain ⟨j1, g1, a1, a2, a3⟩ := hGet i g hi
    obtain ⟨j2, g2, b1, b2, b3⟩ := hGet j k hj
    rw [(hbE j1 i (hback j1 i a1).1 a1).1] at hEi
    rw [(hbE j2 j (hback j2 j b1).1 b1).1] at hEj
    refine p4.disj j1 j2 g1 g2 b o z b' o' z' (fun e => ?_) a2 b2 (by rw [← a3.rw, ← b3.rw]; exact hrw) hEi hEj
    rw [e, b1] at a1
    cases a1; exact hij rfl
  · obtain ⟨j, g, h1, h2, h3⟩ := hGet i g' hi
    rw [(hbE j i (hback j i h1).1 h1).1] at hEi
    exact (p4.tch j g b o z h2 (by rw [← h3.rw]; exact hrw) hEi).imp id fun h k h4 h5 => hT b k (h k h4 h5)
/-- 'H' tells less than 'S'. -/
theorem CallOK.less {P : Program} {f : FuncId} {S H : CS} (h : CallOK P f S) (hH : ∀ b args rd e, H b args rd = some e → AllT e.obs → ∃ e1, S b args rd = some e1 ∧ AllT e1.obs ∧ e1.ret = e.ret ∧ e1.next = e.next ∧ ∀ f i g', updSs f e.ws i = some g' → ∃ g, updSs f e1.ws i = some g ∧ SegLe g g') : CallOK P f H := by
  intro E base args vals rd w e hs hob hargs hb1 hbe hfr hmem
  obtain ⟨e1, h1, h2, h3, h4, h5⟩ := hH _ _ _ _ hs hob
  refine (h E base args vals rd w e1 h1 h2 hargs hb1 (by rw [h4]; exact hbe) (by rw [h4]; exact hfr) hmem).mono fun v w' hp => ?_
  obtain ⟨E', k1, k2, k3, k4⟩ := hp
  exact ⟨E', k1, fun i hi => by rw [← h4]; exact k2 i hi, by rw [← h3]; exact k3, k4.weaken fun i g' hg => h5 _ i g' hg⟩
theorem upd_less {f : Nat → Option Seg} {i : Nat} {g1 g2 : Seg} (h : SegLe g1 g2) : ∀ j g', updSs f [(i, some g2)] j = some g' → ∃ g, updSs f [(i, some g1)] j = some g ∧ SegLe g g' := by
  intro j g' hj
  have hj' : upd f i (some g2) j = some g' := hj
  show ∃ g, upd f i (some g1) j = some g ∧ SegLe g g'
  by_cases e : j = i
  · subst e
    rw [upd_same] at hj'
    cases hj'
    exact ⟨g1, upd_same _ _ _, h⟩
  · rw [upd_other _ _ e] at hj'
    exact ⟨g', by rw [upd_other _ _ e]; exact hj', SegLe.refl _⟩
end
namespace SlWood
noncomputable section
def W0 : Int → List SC := Row (fun _ _ => 0) (fun _ _ => 0)
set_option maxRecDepth 100000 in
theorem toZ_run (O : FOps) (f : Bool) : inl (cxT O) Try.f53 noH 2 [.c (.sl 1 0 18 (.c 0) f)] [] = some ⟨.c (.sl 2 0 18 (.c 0) true), [(2, some ⟨true, true, .cells []⟩)], 3, []⟩ := by kernel_rfl
/-- A copy of nothing, told of as rows. -/
def toZ1 : CS := fun base args rd => match args with
  | [.c (.sl i o es (.c (.ofNat n)) _)] => match rd with
    | [] => match Nat.beq base 2 && (Nat.beq i 1 && (Nat.beq o 0 && (Nat.beq es 18 && Nat.beq n 0))) with
      | true => some ⟨.c (.sl 2 0 18 (.s 0) true), [(2, some ⟨true, true, .cells []⟩)], 60, []⟩
      | false => none
    | _ :: _ => none
  | _ => none
def toZH : CS := fun base args rd => match args with
  | [.c (.sl i o es (.c (.ofNat n)) _)] => match rd with
    | [] => match Nat.beq base 2 && (Nat.beq i 1 && (Nat.beq o 0 && (Nat.beq es 18 && Nat.beq n 0))) with
      | true => some ⟨.c (.sl 2 0 18 (.s 0) true), [(2, some ⟨true, true, .rows 18 0 W0⟩)], 60, []⟩
      | false => none
    | _ :: _ => none
  | _ => none
theorem none_le : SegLe ⟨true, true, .cells []⟩ ⟨true, true, .rows 18 0 W0⟩ :=
  ⟨id, id, rfl, fun E k v hk _ => by simp [SBody.len] at hk⟩
def toNC (O : FOps) : CS := orS (canZ toZH) (toC O)
set_option maxRecDepth 100000 in
theorem cToNC : CallOK Try.prog 53 (toNC fops) := by
  have h0 := inlN_of (l := []) trivial mixed 8 Try.func53 (by kernel_rfl) (fun _ => none)
  have h1 : CallOK Try.prog 53 toZ1 := CallOK.weak h0 fun base args rd e E vals hs hob hv => by
    unfold toZ1 at hs
    split at hs <;> try (cases hs; done)
    rename_i i o es n f
    split at hs <;> try (cases hs; done)
    split at hs <;> cases hs
    rename_i hc
    simp only [Bool.and_eq_true, beqN] at hc
    obtain ⟨rfl, rfl, rfl, rfl, rfl⟩ := hc
    exact ⟨_, toZ_run fops f, AllT.nil, fun E v h => h, rfl, by decide, by decide⟩
  have h2 : CallOK Try.prog 53 toZH := CallOK.less h1 fun base args rd e hs hob => by
    unfold toZH at hs
    split at hs <;> try (cases hs; done)
    rename_i i o es n f
    split at hs <;> try (cases hs; done)
    split at hs <;> cases hs
    rename_i hc
    refine ⟨⟨.c (.sl 2 0 18 (.s 0) true), [(2, some ⟨true, true, .cells []⟩)], 60, []⟩, ?_, AllT.nil, rfl, rfl, fun f => upd_less none_le⟩
    unfold toZ1
    simp only [hc]
  exact h2.nil.or cToC
end
end SlWood
end Go.Proofs.Ytngdmcbjponlhaa
end

/- Steps to cold: the rounds. Nothing is assumed. -/
section
namespace Go.Proofs.Ytngdmcbjponlhaa.Stc
open Go SlWood Stv Sto Fir
noncomputable section
noncomputable def LF (O : FOps) (nm : Nat → Bool) (vl : (Nat → Nat) → Bool) (fl : Nat → Nat) (nb : Nat → Bool) (e : Bool) : List (Nat × CS) := [(79, fIC O nm vl fl nb), (77, fSC O nm vl fl nb e)]
set_option maxRecDepth 100000 in
theorem okLF (e : Bool) : AllOK Try.prog (LF fops isNum valid flv (nanb .f64) e) := ⟨cFIC, cFSC e, trivial⟩
noncomputable def cxR (O : FOps) (nm : Nat → Bool) (vl : (Nat → Nat) → Bool) (fl : Nat → Nat) (nb : Nat → Bool) (e : Bool) : Cx := ⟨Try.prog, O, orcN Try.prog O (LF O nm vl fl nb e) 8⟩
noncomputable def stKs (i : Nat) : List KC := [.sl i 0 18 false, .flt .f32, .flt .f32, .int .i8, .int .i64, .flt .f32]
noncomputable def tNI : Nat := Try.f50.ntmps
noncomputable def tNS : Nat := Try.f49.ntmps
noncomputable def tIk : Sk := ⟨[(1, .c (.flt .f32)), (2, .c (.flt .f32)), (3, .c (.int .i64)), (4, .c (.ptr 2 0)), (11, .c (.int .i64))], [(2, ⟨true, true, .cells (stKs 62)⟩), (62, ⟨false, false, .rows 18⟩)], 63⟩
noncomputable def tIE : Sk := ⟨[(8, .c (.int .i64)), (9, .c (.int .i64))], [], 62⟩
noncomputable def tID (rm tm : Nat) (mo k n : Int) (a b : Nat) (s t : Int) (c : Nat) (N : Int) (row : Int → List SC) : List LD := [.f rm, .f tm, .i mo, .i k, .i n, .f a, .f b, .i s, .i t, .f c, .i N, .r row]
noncomputable def tIg (O : FOps) (nm : Nat → Bool) (vl : (Nat → Nat) → Bool) (fl : Nat → Nat) (nb : Nat → Bool) (h : List (Nat × Bool)) (ρ : List (Nat × Nat)) (sk : Sk) (rm tm : Nat) (mo k n : Int) (a b : Nat) (s t : Int) (c : Nat) (N : Int) (row : Int → List SC) : Option (Option XK × List LD × List Bool) :=
  goL (cxR O nm vl fl nb false) tNI ⟨Sto.hint h, fun _ => none⟩ (bodyOf Try.f50 8) 62 500 tIk ρ sk (tID rm tm mo k n a b s t c N row)
noncomputable def tSk : Sk := ⟨[(1, .c (.flt .f32)), (2, .c (.flt .f32)), (3, .c (.int .i64)), (11, .c (.ptr 64 0)), (12, .c (.int .i64))], [(64, ⟨true, true, .cells (stKs 65)⟩), (65, ⟨false, false, .rows 18⟩)], 66⟩
noncomputable def tSE : Sk := ⟨[(8, .c (.int .i64)), (9, .c (.int .i64))], [], 65⟩
noncomputable def tSg (O : FOps) (nm : Nat → Bool) (vl : (Nat → Nat) → Bool) (fl : Nat → Nat) (nb : Nat → Bool) (e : Bool) (h : List (Nat × Bool)) (ρ : List (Nat × Nat)) (sk : Sk) (rm tm : Nat) (mo k n : Int) (a b : Nat) (s t : Int) (c : Nat) (N : Int) (row : Int → List SC) : Option (Option XK × List LD × List Bool) :=
  goL (cxR O nm vl fl nb e) tNS ⟨Sto.hint h, fun _ => none⟩ (bodyOf Try.f49 9) 65 500 tSk ρ sk (tID rm tm mo k n a b s t c N row)
/-! ### the rounds -/
set_option maxRecDepth 100000 in
theorem iStep (O : FOps) (nm : Nat → Bool) (vl : (Nat → Nat) → Bool) (fl : Nat → Nat) (nb : Nat → Bool) (rm tm : Nat) (mo k n : Int) (a b : Nat) (s t : Int) (c : Nat) (N : Int) (row : Int → List SC) : tIg O nm vl fl nb [(32, false), (36, false), (46, false)] [(69, 62)] tIk rm tm mo k n a b s t c N row =
    some (none, tID rm tm mo (IntKind.i64.wrap (k + 1)) n (nBx O n row a b s 1065353216 rm tm) b (nSt O n row a b s 1065353216 rm tm) (nAs O fl n row a b s t c 1065353216 tm) (nDu O fl n row a b s c 1065353216 tm) n (nRw O n row a b s 1065353216 tm), [!decide (s = 0), !decide (k = mo), flatR row, flatR (nRw O n row a b s 1065353216 tm), okP n N row a b s t c 1065353216 rm tm, !!nOk O vl fl n row a b s t c 1065353216 rm tm, flatR (nRw O n row a b s 1065353216 tm)]) := by kernel_rfl
set_option maxRecDepth 100000 in
theorem iFail (O : FOps) (nm : Nat → Bool) (vl : (Nat → Nat) → Bool) (fl : Nat → Nat) (nb : Nat → Bool) (rm tm : Nat) (mo k n : Int) (a b : Nat) (s t : Int) (c : Nat) (N : Int) (row : Int → List SC) : tIg O nm vl fl nb [(32, false), (36, false), (46, true)] [] tIE rm tm mo k n a b s t c N row =
    some (some .ret, [.i 0, .i 4], [!decide (s = 0), !decide (k = mo), flatR row, flatR (nRw O n row a b s 1065353216 tm), okP n N row a b s t c 1065353216 rm tm, !nOk O vl fl n row a b s t c 1065353216 rm tm]) := by kernel_rfl
set_option maxRecDepth 100000 in
theorem iCold (O : FOps) (nm : Nat → Bool) (vl : (Nat → Nat) → Bool) (fl : Nat → Nat) (nb : Nat → Bool) (rm tm : Nat) (mo k n : Int) (a b : Nat) (s t : Int) (c : Nat) (N : Int) (row : Int → List SC) : tIg O nm vl fl nb [(32, true)] [] tIE rm tm mo k n a b s t c N row = some (some .ret, [.i k, .i 0], [decide (s = 0)]) := by kernel_rfl
set_option maxRecDepth 100000 in
theorem iMost (O : FOps) (nm : Nat → Bool) (vl : (Nat → Nat) → Bool) (fl : Nat → Nat) (nb : Nat → Bool) (rm tm : Nat) (mo k n : Int) (a b : Nat) (s t : Int) (c : Nat) (N : Int) (row : Int → List SC) : tIg O nm vl fl nb [(32, false), (36, true)] [] tIE rm tm mo k n a b s t c N row = some (some .ret, [.i 0, .i 7], [!decide (s = 0), decide (k = mo)]) := by kernel_rfl
set_option maxRecDepth 100000 in
theorem sStep (O : FOps) (nm : Nat → Bool) (vl : (Nat → Nat) → Bool) (fl : Nat → Nat) (nb : Nat → Bool) (rm tm : Nat) (mo k n : Int) (a b : Nat) (s t : Int) (c : Nat) (N : Int) (row : Int → List SC) : tSg O nm vl fl nb false [(34, false), (38, false), (47, false)] [(71, 65)] tSk rm tm mo k n a b s t c N row =
    some (none, tID rm tm mo (IntKind.i64.wrap (k + 1)) n (nBx O n row a b s 1065353216 rm tm) b (nSt O n row a b s 1065353216 rm tm) (nAs O fl n row a b s t c 1065353216 tm) (nDu O fl n row a b s c 1065353216 tm) n (nRw O n row a b s 1065353216 tm), [!decide (s = 0), !decide (k = mo), flatR row, flatR (nRw O n row a b s 1065353216 tm), okP n N row a b s t c 1065353216 rm tm, nOk O vl fl n row a b s t c 1065353216 rm tm, flatR (nRw O n row a b s 1065353216 tm)]) := by kernel_rfl
set_option maxRecDepth 100000 in
theorem sFail (O : FOps) (nm : Nat → Bool) (vl : (Nat → Nat) → Bool) (fl : Nat → Nat) (nb : Nat → Bool) (rm tm : Nat) (mo k n : Int) (a b : Nat) (s t : Int) (c : Nat) (N : Int) (row : Int → List SC) : tSg O nm vl fl nb true [(34, false), (38, false), (47, true)] [] tSE rm tm mo k n a b s t c N row =
    some (some .ret, [.i 0, .i 4], [!decide (s = 0), !decide (k = mo), flatR row, okP n N row a b s t c 1065353216 rm tm, !nOk O vl fl n row a b s t c 1065353216 rm tm]) := by kernel_rfl
set_option maxRecDepth 100000 in
theorem sCold (O : FOps) (nm : Nat → Bool) (vl : (Nat → Nat) → Bool) (fl : Nat → Nat) (nb : Nat → Bool) (rm tm : Nat) (mo k n : Int) (a b : Nat) (s t : Int) (c : Nat) (N : Int) (row : Int → List SC) : tSg O nm vl fl nb false [(34, true)] [] tSE rm tm mo k n a b s t c N row = some (some .ret, [.i k, .i 0], [decide (s = 0)]) := by kernel_rfl
set_option maxRecDepth 100000 in
theorem sMost (O : FOps) (nm : Nat → Bool) (vl : (Nat → Nat) → Bool) (fl : Nat → Nat) (nb : Nat → Bool) (rm tm : Nat) (mo k n : Int) (a b : Nat) (s t : Int) (c : Nat) (N : Int) (row : Int → List SC) : tSg O nm vl fl nb false [(34, false), (38, true)] [] tSE rm tm mo k n a b s t c N row = some (some .ret, [.i 0, .i 7], [!decide (s = 0), decide (k = mo)]) := by kernel_rfl
/-! ### the loops -/
/-- How many steps, and the code. -/
noncomputable def cl (O : FOps) (vl : (Nat → Nat) → Bool) (fl : Nat → Nat) (n : Int) (b rm tm : Nat) : Nat → Int → (Int → List SC) → Nat → Int → Int → Nat → Int × Int
  | 0, k, _, _, s, _, _ => bif decide (s = 0) then (k, 0) else (0, 7)
  | m + 1, k, row, a, s, t, c => bif decide (s = 0) then (k, 0) else bif nOk O vl fl n row a b s t c 1065353216 rm tm then cl O vl fl n b rm tm m (k + 1) (nRw O n row a b s 1065353216 tm) (nBx O n row a b s 1065353216 rm tm) (nSt O n row a b s 1065353216 rm tm) (nAs O fl n row a b s t c 1065353216 tm) (nDu O fl n row a b s c 1065353216 tm) else (0, 4)
theorem lpI (rm tm : Nat) {mo : Int} (hmo : mo ≤ 400) (n : Int) (b : Nat) : ∀ (m : Nat) (k : Int) (row : Int → List SC) (a : Nat) (s t : Int) (c : Nat), 0 ≤ k → k + m = mo → FP n row a b s t c 1065353216 rm tm →
    LoopsX Try.prog tNI (bodyOf Try.f50 8) 62 500 tIk (tID rm tm mo k n a b s t c n row) .ret tIE [.i (cl fops valid flv n b rm tm m k row a s t c).1, .i (cl fops valid flv n b rm tm m k row a s t c).2] := by
  have hx : ∀ e ts, CodeOK Try.prog tNI (bodyOf Try.f50 8) (sx (cxR fops isNum valid flv (nanb .f64) e) tNI ⟨ts, fun _ => none⟩ (bodyOf Try.f50 8)) := fun e ts => body_ok (l := LF fops isNum valid flv (nanb .f64) e) (okLF e) mixed 8 _ ts
  intro m
  induction m with
  | zero =>
    intro k row a s t c hk hkm hP
    have e : k = mo := by omega
    cases h0 : decide (s = 0) with
    | true =>
      have h1 := iCold fops isNum valid flv (nanb .f64) rm tm mo k n a b s t c n row
      have hc : cl fops valid flv n b rm tm 0 k row a s t c = (k, 0) := by unfold cl; rw [h0]; rfl
      rw [hc]
      exact .done (ρ := []) (hx false _) h1 (AllT.one h0)
    | false =>
      have h1 := iMost fops isNum valid flv (nanb .f64) rm tm mo k n a b s t c n row
      have hc : cl fops valid flv n b rm tm 0 k row a s t c = (0, 7) := by unfold cl; rw [h0]; rfl
      rw [hc]
      exact .done (ρ := []) (hx false _) h1 (AllT.cons (by rw [h0]; rfl) (AllT.one (decide_eq_true e)))
  | succ m ih =>
    intro k row a s t c hk hkm hP
    have hlt : decide (k = mo) = false := decide_eq_false (by omega)
    have hf := shape_flat hP.sh
    have hf2 : flatR (nRw fops n row a b s 1065353216 tm) = true := rowK_flat _ _ _
    have hP' : okP n n row a b s t c 1065353216 rm tm = true := pB_iff.2 ⟨rfl, hP⟩
    cases h0 : decide (s = 0) with
    | true =>
      have h1 := iCold fops isNum valid flv (nanb .f64) rm tm mo k n a b s t c n row
      have hc : cl fops valid flv n b rm tm (m + 1) k row a s t c = (k, 0) := by unfold cl; rw [h0]; rfl
      rw [hc]
      exact .done (ρ := []) (hx false _) h1 (AllT.one h0)
    | false =>
      cases hok : nOk fops valid flv n row a b s t c 1065353216 rm tm with
      | true =>
        have h1 := iStep fops isNum valid flv (nanb .f64) rm tm mo k n a b s t c n row
        rw [wrap_succ hk (by omega)] at h1
        have hc : cl fops valid flv n b rm tm (m + 1) k row a s t c = cl fops valid flv n b rm tm m (k + 1) (nRw fops n row a b s 1065353216 tm) (nBx fops n row a b s 1065353216 rm tm) (nSt fops n row a b s 1065353216 rm tm) (nAs fops flv n row a b s t c 1065353216 tm) (nDu fops flv n row a b s c 1065353216 tm) := by
          rw [cl, h0, hok]; rfl
        rw [hc]
        exact .step (hx false _) h1 (AllT.cons (by rw [h0]; rfl) (AllT.cons (by rw [hlt]; rfl) (AllT.cons hf (AllT.cons hf2 (AllT.cons hP' (AllT.cons (nn hok) (AllT.one hf2))))))) (ih (k + 1) _ _ _ _ _ (by omega) (by omega) (hP.next hok))
      | false =>
        have h1 := iFail fops isNum valid flv (nanb .f64) rm tm mo k n a b s t c n row
        have hno : (!nOk fops valid flv n row a b s t c 1065353216 rm tm) = true := by rw [hok]; rfl
        have hc : cl fops valid flv n b rm tm (m + 1) k row a s t c = (0, 4) := by rw [cl, h0, hok]; rfl
        rw [hc]
        exact .done (ρ := []) (hx false _) h1 (AllT.cons (by rw [h0]; rfl) (AllT.cons (by rw [hlt]; rfl) (AllT.cons hf (AllT.cons hf2 (AllT.cons hP' (AllT.one hno))))))
noncomputable def FI (O : FOps) (vl : (Nat → Nat) → Bool) (fl : Nat → Nat) : List LD → Option (XO × List Bool)
  | [.f rm, .f tm, .i mo, .i k, .i n, .f a, .f b, .i s, .i t, .f c, .i N, .r row] => some ([(.t, .ret, tIE, [.i (cl O vl fl n b rm tm mo.toNat 0 row a s t c).1, .i (cl O vl fl n b rm tm mo.toNat 0 row a s t c).2])], [pB (k = 0 ∧ 0 ≤ mo ∧ mo ≤ 400 ∧ N = n ∧ FP n row a b s t c 1065353216 rm tm)])
  | _ => none
noncomputable def LI (O : FOps) (vl : (Nat → Nat) → Bool) (fl : Nat → Nat) : List Ly → Top → Option Outs := loopL tNI 62 500 tIk [(1, 62)] (FI O vl fl)
theorem okI : CodeOK Try.prog tNI (.loop (bodyOf Try.f50 8)) (LI fops valid flv) := loopX_ok fun p r hr hob => by
  unfold FI at hr
  split at hr <;> cases hr
  rename_i rm tm mo k n a b s t c N row
  obtain ⟨e1, h0, h1, e2, hP⟩ := pB_iff.1 hob.head
  rw [e1, e2]
  exact ⟨_, _, _, rfl, lpI rm tm h1 n b mo.toNat 0 row a s t c (Int.le_refl _) (by omega) hP⟩
theorem lpS (rm tm : Nat) {mo : Int} (hmo : mo ≤ 400) (n : Int) (b : Nat) : ∀ (m : Nat) (k : Int) (row : Int → List SC) (a : Nat) (s t : Int) (c : Nat), 0 ≤ k → k + m = mo → FP n row a b s t c 1065353216 rm tm →
    LoopsX Try.prog tNS (bodyOf Try.f49 9) 65 500 tSk (tID rm tm mo k n a b s t c n row) .ret tSE [.i (cl fops valid flv n b rm tm m k row a s t c).1, .i (cl fops valid flv n b rm tm m k row a s t c).2] := by
  have hx : ∀ e ts, CodeOK Try.prog tNS (bodyOf Try.f49 9) (sx (cxR fops isNum valid flv (nanb .f64) e) tNS ⟨ts, fun _ => none⟩ (bodyOf Try.f49 9)) := fun e ts => body_ok (l := LF fops isNum valid flv (nanb .f64) e) (okLF e) mixed 8 _ ts
  intro m
  induction m with
  | zero =>
    intro k row a s t c hk hkm hP
    have e : k = mo := by omega
    cases h0 : decide (s = 0) with
    | true =>
      have h1 := sCold fops isNum valid flv (nanb .f64) rm tm mo k n a b s t c n row
      have hc : cl fops valid flv n b rm tm 0 k row a s t c = (k, 0) := by unfold cl; rw [h0]; rfl
      rw [hc]
      exact .done (ρ := []) (hx false _) h1 (AllT.one h0)
    | false =>
      have h1 := sMost fops isNum valid flv (nanb .f64) rm tm mo k n a b s t c n row
      have hc : cl fops valid flv n b rm tm 0 k row a s t c = (0, 7) := by unfold cl; rw [h0]; rfl
      rw [hc]
      exact .done (ρ := []) (hx false _) h1 (AllT.cons (by rw [h0]; rfl) (AllT.one (decide_eq_true e)))
  | succ m ih =>
    intro k row a s t c hk hkm hP
    have hlt : decide (k = mo) = false := decide_eq_false (by omega)
    have hf := shape_flat hP.sh
    have hf2 : flatR (nRw fops n row a b s 1065353216 tm) = true := rowK_flat _ _ _
    have hP' : okP n n row a b s t c 1065353216 rm tm = true := pB_iff.2 ⟨rfl, hP⟩
    cases h0 : decide (s = 0) with
    | true =>
      have h1 := sCold fops isNum valid flv (nanb .f64) rm tm mo k n a b s t c n row
      have hc : cl fops valid flv n b rm tm (m + 1) k row a s t c = (k, 0) := by unfold cl; rw [h0]; rfl
      rw [hc]
      exact .done (ρ := []) (hx false _) h1 (AllT.one h0)
    | false =>
      cases hok : nOk fops valid flv n row a b s t c 1065353216 rm tm with
      | true =>
        have h1 := sStep fops isNum valid flv (nanb .f64) rm tm mo k n a b s t c n row
        rw [wrap_succ hk (by omega)] at h1
        have hc : cl fops valid flv n b rm tm (m + 1) k row a s t c = cl fops valid flv n b rm tm m (k + 1) (nRw fops n row a b s 1065353216 tm) (nBx fops n row a b s 1065353216 rm tm) (nSt fops n row a b s 1065353216 rm tm) (nAs fops flv n row a b s t c 1065353216 tm) (nDu fops flv n row a b s c 1065353216 tm) := by
          rw [cl, h0, hok]; rfl
        rw [hc]
        exact .step (hx false _) h1 (AllT.cons (by rw [h0]; rfl) (AllT.cons (by rw [hlt]; rfl) (AllT.cons hf (AllT.cons hf2 (AllT.cons hP' (AllT.cons hok (AllT.one hf2))))))) (ih (k + 1) _ _ _ _ _ (by omega) (by omega) (hP.next hok))
      | false =>
        have h1 := sFail fops isNum valid flv (nanb .f64) rm tm mo k n a b s t c n row
        have hno : (!nOk fops valid flv n row a b s t c 1065353216 rm tm) = true := by rw [hok]; rfl
        have hc : cl fops valid flv n b rm tm (m + 1) k row a s t c = (0, 4) := by rw [cl, h0, hok]; rfl
        rw [hc]
        exact .done (ρ := []) (hx true _) h1 (AllT.cons (by rw [h0]; rfl) (AllT.cons (by rw [hlt]; rfl) (AllT.cons hf (AllT.cons hP' (AllT.one hno)))))
noncomputable def FS (O : FOps) (vl : (Nat → Nat) → Bool) (fl : Nat → Nat) : List LD → Option (XO × List Bool)
  | [.f rm, .f tm, .i mo, .i k, .i n, .f a, .f b, .i s, .i t, .f c, .i N, .r row] => some ([(.t, .ret, tSE, [.i (cl O vl fl n b rm tm mo.toNat 0 row a s t c).1, .i (cl O vl fl n b rm tm mo.toNat 0 row a s t c).2])], [pB (k = 0 ∧ 0 ≤ mo ∧ mo ≤ 400 ∧ N = n ∧ FP n row a b s t c 1065353216 rm tm)])
  | _ => none
noncomputable def LS (O : FOps) (vl : (Nat → Nat) → Bool) (fl : Nat → Nat) : List Ly → Top → Option Outs := loopL tNS 65 500 tSk [(63, 65)] (FS O vl fl)
theorem okS : CodeOK Try.prog tNS (.loop (bodyOf Try.f49 9)) (LS fops valid flv) := loopX_ok fun p r hr hob => by
  unfold FS at hr
  split at hr <;> cases hr
  rename_i rm tm mo k n a b s t c N row
  obtain ⟨e1, h0, h1, e2, hP⟩ := pB_iff.1 hob.head
  rw [e1, e2]
  exact ⟨_, _, _, rfl, lpS rm tm h1 n b mo.toNat 0 row a s t c (Int.le_refl _) (by omega) hP⟩
end
end Go.Proofs.Ytngdmcbjponlhaa.Stc
end

/- The law of FireStep: what its text computes, with any number of logs. Nothing is assumed. -/
section
namespace Go.Proofs.Ytngdmcbjponlhaa.Fst
open Go SlWood Stv Sto Fir
noncomputable section
abbrev HH := List (Nat × Bool) × List (Nat × Bool) × Bool
def hOK : HH := ([(21, false), (35, false)], [(17, false)], false)
def hSt : HH := ([(21, false), (35, true)], [(17, false)], true)
def hErr : HH := ([(21, true)], [(17, true)], false)
def hLaw : List (Nat × Bool) := [(27, false), (63, false), (68, false), (90, false), (98, false), (101, false), (126, false), (131, false), (134, false)]
def LP (O : FOps) (nm : Nat → Bool) (vl : (Nat → Nat) → Bool) (fl : Nat → Nat) (nb : Nat → Bool) (e : Bool) : List (Nat × CS) := (79, fI2 O nm vl fl nb) :: (77, fS2 O nm vl fl nb e) :: (78, coIC O vl) :: (76, coSC O vl) :: Sto.LW O vl
set_option maxRecDepth 100000 in
theorem okLP (e : Bool) : AllOK Try.prog (LP fops isNum valid flv (nanb .f64) e) := ⟨cFI2, cFS2 e, cCoI, cCoS, okLW⟩
def cIh (O : FOps) (nm : Nat → Bool) (vl : (Nat → Nat) → Bool) (fl : Nat → Nat) (nb : Nat → Bool) (h : HH) : CS := inl ⟨Try.prog, O, orcN Try.prog O (LP O nm vl fl nb h.2.2) 8⟩ Try.f45 ⟨Sto.hint h.1, fun _ => none⟩
def cSh (O : FOps) (nm : Nat → Bool) (vl : (Nat → Nat) → Bool) (fl : Nat → Nat) (nb : Nat → Bool) (h : HH) : CS := inl ⟨Try.prog, O, orcN Try.prog O (LP O nm vl fl nb h.2.2) 8⟩ Try.f44 ⟨Sto.hint h.2.1, fun _ => none⟩
def L3' (O : FOps) (nm : Nat → Bool) (vl : (Nat → Nat) → Bool) (fl : Nat → Nat) (nb : Nat → Bool) (h : HH) : List (Nat × CS) := (45, cIh O nm vl fl nb h) :: (44, cSh O nm vl fl nb h) :: Sto.LW O vl
set_option maxRecDepth 100000 in
theorem okL3' (h : HH) : AllOK Try.prog (L3' fops isNum valid flv (nanb .f64) h) :=
  ⟨inlN_of (l := LP fops isNum valid flv (nanb .f64) h.2.2) (okLP h.2.2) mixed 8 Try.func45 (by kernel_rfl) _, inlN_of (l := LP fops isNum valid flv (nanb .f64) h.2.2) (okLP h.2.2) mixed 8 Try.func44 (by kernel_rfl) _, okLW⟩
def run' (O : FOps) (nm : Nat → Bool) (vl : (Nat → Nat) → Bool) (fl : Nat → Nat) (nb : Nat → Bool) (h : HH) (hl : List (Nat × Bool)) (v : SV) (rd : List (Nat × Seg)) (dr rm tm : Nat) : Option (SV × List Bool) :=
  rE 2 (inl ⟨Try.prog, O, orcN Try.prog O (L3' O nm vl fl nb h) 8⟩ Try.f13 ⟨Sto.hint hl, fun _ => none⟩ 2 [v, .c (.flt .f32 dr), .c (.flt .f32 rm), .c (.flt .f32 tm)] rd)
/-- Four numbers are the same. -/
def eq4 (O : FOps) (x y z w : Nat) : Bool :=
  bif !sf O (O.conv .f32 .f64 x) (O.conv .f32 .f64 x) then false else bif !sf O (O.conv .f32 .f64 y) (O.conv .f32 .f64 y) then false else bif !sf O (O.conv .f32 .f64 z) (O.conv .f32 .f64 z) then false else bif !sf O (O.conv .f32 .f64 w) (O.conv .f32 .f64 w) then false else true
theorem eq4_true (x y z w : Nat) : eq4 fops x y z w = true := by
  unfold eq4
  simp [sf_self]
def sOK (O : FOps) (vl : (Nat → Nat) → Bool) (fl : Nat → Nat) (R : Int → List SC) (n : Int) (a b : Nat) (s t : Int) (c dr rm tm : Nat) (q : Bool) : List Bool :=
  oV n s R ++ [!!decide (cdI O (vR O vl n R a b s t c) dr rm tm = 0), flatR R, flatR (nRw O n R a b s dr tm), okP n n R a b s t c dr rm tm, q]
def tOK (E G : Bool) : Bool := bif !E then true else bif !G then true else false
def eqN (O : FOps) (fl : Nat → Nat) (R : Int → List SC) (n : Int) (a b : Nat) (s t : Int) (c dr rm tm : Nat) : Bool :=
  eqT O (eqR O n n (nRw O n R a b s dr tm) (nRw O n R a b s dr tm)) (nBx O n R a b s dr rm tm) b (nSt O n R a b s dr rm tm) (nAs O fl n R a b s t c dr tm) (nDu O fl n R a b s c dr tm)
def eqG4 (O : FOps) (R : Int → List SC) (n : Int) (a b : Nat) (s : Int) (dr rm tm : Nat) : Bool := eq4 O (gR O a rm tm) (nUp O a b s dr rm tm) (nSm O n R a tm) (nFu O n R a b s dr tm)
set_option maxRecDepth 100000 in
theorem run_big (O : FOps) (nm : Nat → Bool) (vl : (Nat → Nat) → Bool) (fl : Nat → Nat) (nb : Nat → Bool) (F : Nat → Int → Nat) (G : Nat → Int → Int) (n : Int) (a b : Nat) (s t : Int) (c dr rm tm : Nat) :
    run' O nm vl fl nb hOK [(27, true)] (stA n a b s t c) [(1, ⟨false, false, .rows 18 n (Row F G)⟩)] dr rm tm = some (.c (.bool .t), [decide (lf n < 0)]) := by kernel_rfl
set_option maxRecDepth 100000 in
theorem run_ok (O : FOps) (nm : Nat → Bool) (vl : (Nat → Nat) → Bool) (fl : Nat → Nat) (nb : Nat → Bool) (F : Nat → Int → Nat) (G : Nat → Int → Int) (n : Int) (a b : Nat) (s t : Int) (c dr rm tm : Nat) :
    run' O nm vl fl nb hOK hLaw (stA n a b s t c) [(1, ⟨false, false, .rows 18 n (Row F G)⟩)] dr rm tm = some (.c (.bool .t), obG O F G n (sOK O vl fl (R1 F G n) n a b s t c dr rm tm (nOk O vl fl n (R1 F G n) a b s t c dr rm tm)) (sOK O vl fl (R1 F G n) n a b s t c dr rm tm (!!nOk O vl fl n (R1 F G n) a b s t c dr rm tm)) n (nRw O n (R1 F G n) a b s dr tm) (nRw O n (R1 F G n) a b s dr tm)
      (tOK (eqN O fl (R1 F G n) n a b s t c dr rm tm) (eqG4 O (R1 F G n) n a b s dr rm tm)) (eqT O (eqR O n n (R1 F G n) (R1 F G n)) a b s t c)) := by kernel_rfl
def sST (O : FOps) (vl : (Nat → Nat) → Bool) (R : Int → List SC) (n : Int) (a b : Nat) (s t : Int) (c dr rm tm : Nat) (l : List Bool) : List Bool :=
  oV n s R ++ [!!decide (cdI O (vR O vl n R a b s t c) dr rm tm = 0), flatR R] ++ l
def tST (O : FOps) : Bool := bif !eqT0 O 0 0 then true else bif !eq4 O 0 0 0 0 then true else false
set_option maxRecDepth 100000 in
theorem run_st (O : FOps) (nm : Nat → Bool) (vl : (Nat → Nat) → Bool) (fl : Nat → Nat) (nb : Nat → Bool) (F : Nat → Int → Nat) (G : Nat → Int → Int) (n : Int) (a b : Nat) (s t : Int) (c dr rm tm : Nat) :
    run' O nm vl fl nb hSt hLaw (stA n a b s t c) [(1, ⟨false, false, .rows 18 n (Row F G)⟩)] dr rm tm = some (.c (.bool .t), obGe O F G n (sST O vl (R1 F G n) n a b s t c dr rm tm [okP n n (R1 F G n) a b s t c dr rm tm, !nOk O vl fl n (R1 F G n) a b s t c dr rm tm]) (sST O vl (R1 F G n) n a b s t c dr rm tm [flatR (nRw O n (R1 F G n) a b s dr tm), okP n n (R1 F G n) a b s t c dr rm tm, !nOk O vl fl n (R1 F G n) a b s t c dr rm tm])
      (tST O) (eqT O (eqR O n n (R1 F G n) (R1 F G n)) a b s t c)) := by kernel_rfl
def sER (O : FOps) (vl : (Nat → Nat) → Bool) (R : Int → List SC) (n : Int) (a b : Nat) (s t : Int) (c dr rm tm : Nat) : List Bool :=
  oV n s R ++ [!decide (cdI O (vR O vl n R a b s t c) dr rm tm = 0)]
def tER (O : FOps) (c : Int) : Bool := bif !eqT0 O 0 0 then true else bif !eq4 O 0 0 0 0 then true else !decide (c = c)
set_option maxRecDepth 100000 in
theorem run_err (O : FOps) (nm : Nat → Bool) (vl : (Nat → Nat) → Bool) (fl : Nat → Nat) (nb : Nat → Bool) (F : Nat → Int → Nat) (G : Nat → Int → Int) (n : Int) (a b : Nat) (s t : Int) (c dr rm tm : Nat) :
    run' O nm vl fl nb hErr hLaw (stA n a b s t c) [(1, ⟨false, false, .rows 18 n (Row F G)⟩)] dr rm tm = some (.c (.bool .t), obGe O F G n (sER O vl (R1 F G n) n a b s t c dr rm tm) (sER O vl (R1 F G n) n a b s t c dr rm tm) (tER O (cdI O (vR O vl n (R1 F G n) a b s t c) dr rm tm)) (eqT O (eqR O n n (R1 F G n) (R1 F G n)) a b s t c)) := by kernel_rfl
def sN (O : FOps) (vl : (Nat → Nat) → Bool) (fl : Nat → Nat) (k : Int) (a b : Nat) (s t : Int) (c dr rm tm : Nat) (q : Bool) : List Bool := [!!decide (k = 0), okP 0 0 row0 a b s t c dr rm tm, q]
def eqN0 (O : FOps) (fl : Nat → Nat) (a b : Nat) (s t : Int) (c dr rm tm : Nat) : Bool :=
  eqT O true (nBx O 0 row0 a b s dr rm tm) b (nSt O 0 row0 a b s dr rm tm) (nAs O fl 0 row0 a b s t c dr tm) (nDu O fl 0 row0 a b s c dr tm)
set_option maxRecDepth 100000 in
theorem run0_ok (O : FOps) (nm : Nat → Bool) (vl : (Nat → Nat) → Bool) (fl : Nat → Nat) (nb : Nat → Bool) (a b : Nat) (s t : Int) (c dr rm tm : Nat) :
    run' O nm vl fl nb hOK hLaw (st0 a b s t c) [] dr rm tm = some (.c (.bool .t), ob0 (sN O vl fl (cdS O (vS O true 0 a b s t c) dr rm tm) a b s t c dr rm tm (nOk O vl fl 0 row0 a b s t c dr rm tm)) (sN O vl fl (cdI O (vI O true 0 a b s t c) dr rm tm) a b s t c dr rm tm (!!nOk O vl fl 0 row0 a b s t c dr rm tm))
      (tOK (eqN0 O fl a b s t c dr rm tm) (eqG4 O row0 0 a b s dr rm tm)) (eqT O true a b s t c)) := by kernel_rfl
set_option maxRecDepth 100000 in
theorem run0_st (O : FOps) (nm : Nat → Bool) (vl : (Nat → Nat) → Bool) (fl : Nat → Nat) (nb : Nat → Bool) (a b : Nat) (s t : Int) (c dr rm tm : Nat) :
    run' O nm vl fl nb hSt hLaw (st0 a b s t c) [] dr rm tm = some (.c (.bool .t), ob0 (sN O vl fl (cdS O (vS O true 0 a b s t c) dr rm tm) a b s t c dr rm tm (!nOk O vl fl 0 row0 a b s t c dr rm tm)) (sN O vl fl (cdI O (vI O true 0 a b s t c) dr rm tm) a b s t c dr rm tm (!nOk O vl fl 0 row0 a b s t c dr rm tm))
      (tST O) (eqT O true a b s t c)) := by kernel_rfl
def tE0 (O : FOps) (c d : Int) : Bool := bif !eqT0 O 0 0 then true else bif !eq4 O 0 0 0 0 then true else !decide (c = d)
set_option maxRecDepth 100000 in
theorem run0_err (O : FOps) (nm : Nat → Bool) (vl : (Nat → Nat) → Bool) (fl : Nat → Nat) (nb : Nat → Bool) (a b : Nat) (s t : Int) (c dr rm tm : Nat) :
    run' O nm vl fl nb hErr hLaw (st0 a b s t c) [] dr rm tm = some (.c (.bool .t), ob0 [!decide (cdS O (vS O true 0 a b s t c) dr rm tm = 0)] [!decide (cdI O (vI O true 0 a b s t c) dr rm tm = 0)]
      (tE0 O (cdI O (vI O true 0 a b s t c) dr rm tm) (cdS O (vS O true 0 a b s t c) dr rm tm)) (eqT O true a b s t c)) := by kernel_rfl
/-! ### the law -/
theorem wk_R1 (F : Nat → Int → Nat) (G : Nat → Int → Int) {n k : Int} (h0 : 0 ≤ k) (h1 : k < n) : wk (datF (R1 F G n)) k = back (fun c => F c k) := by
  have hF : ∀ j, (datF (R1 F G n) j k = clF n F j k) → datF (R1 F G n) j k = F j k := fun j e => by
    rw [e]
    unfold clF
    rw [decide_eq_true h0, decide_eq_true h1]; rfl
  funext j
  unfold wk at18 back
  simp only [show datF (R1 F G n) 0 k = F 0 k from hF 0 rfl, show datF (R1 F G n) 1 k = F 1 k from hF 1 rfl, show datF (R1 F G n) 2 k = F 2 k from hF 2 rfl, show datF (R1 F G n) 3 k = F 3 k from hF 3 rfl, show datF (R1 F G n) 4 k = F 4 k from hF 4 rfl, show datF (R1 F G n) 5 k = F 5 k from hF 5 rfl, show datF (R1 F G n) 6 k = F 6 k from hF 6 rfl, show datF (R1 F G n) 7 k = F 7 k from hF 7 rfl, show datF (R1 F G n) 8 k = F 8 k from hF 8 rfl, show datF (R1 F G n) 9 k = F 9 k from hF 9 rfl, show datF (R1 F G n) 10 k = F 10 k from hF 10 rfl, show datF (R1 F G n) 11 k = F 11 k from hF 11 rfl, show datF (R1 F G n) 12 k = F 12 k from hF 12 rfl, show datF (R1 F G n) 13 k = F 13 k from hF 13 rfl, show datF (R1 F G n) 14 k = F 14 k from hF 14 rfl, show datF (R1 F G n) 15 k = F 15 k from hF 15 rfl, show datF (R1 F G n) 16 k = F 16 k from hF 16 rfl, show datF (R1 F G n) 17 k = F 17 k from hF 17 rfl]
theorem cn_R1 {F : Nat → Int → Nat} {G : Nat → Int → Int} {n : Int} (hd : ∀ (k : Int) (i : Nat), 0 ≤ k → k < n → i < 18 → Cn .f32 (F i k)) : ∀ (k : Int) (i : Nat), 0 ≤ k → k < n → i < 18 → Cn .f32 (wk (datF (R1 F G n)) k i) := fun k i h0 h1 hi => by
  rw [wk_R1 F G h0 h1]
  exact back_cn (fun j hj => hd k j h0 h1 hj) i hi
theorem cn_dat {F : Nat → Int → Nat} {G : Nat → Int → Int} {n : Nat} (h : DataOK SlWood.ts n F G) : ∀ (k : Int) (i : Nat), 0 ≤ k → k < (n : Int) → i < 18 → Cn .f32 (F i k) := fun k i h0 h1 hi => by
  have h2 : SlWood.ts[i]? = some (.flt .f32) := by
    have h4 : SlWood.ts = List.replicate 18 (.flt .f32) := rfl
    rw [h4, List.getElem?_replicate, if_pos hi]
  have h5 := (h k.toNat i _ (by omega) h2).1 .f32 rfl
  rw [show ((k.toNat : Nat) : Int) = k by omega] at h5
  exact h5
theorem fp_of {n : Int} {row : Int → List SC} (h0 : 0 ≤ n) (hs : Shape ts row) (hc : ∀ (k : Int) (i : Nat), 0 ≤ k → k < n → i < 18 → Cn .f32 (wk (datF row) k i)) {a b : Nat} {s t : Int} {c dr rm tm : Nat} (h : cdI fops (vR fops valid n row a b s t c) dr rm tm = 0) : FP n row a b s t c dr rm tm := by
  obtain ⟨h1, h2⟩ := cd0 h
  obtain ⟨h3, h4, h5⟩ := bd_false h2
  exact ⟨h0, hs, hc, h1, h3, h4, h5⟩
theorem nRw_shape (n : Int) (row : Int → List SC) (a b : Nat) (s : Int) (dr tm : Nat) : Shape ts (nRw fops n row a b s dr tm) := shape_row _ _
theorem tST_false : tST fops = false := by
  unfold tST
  rw [eqT0_true, eq4_true]; rfl
theorem tE0_false {c d : Int} (h : c = d) : tE0 fops c d = false := by
  unfold tE0
  rw [eqT0_true, eq4_true, h]
  simp
theorem law_all (F : Nat → Int → Nat) (G : Nat → Int → Int) {n : Int} (h0 : 0 ≤ n) (hmax : n ≤ 9223372036854775807) (a b : Nat) {s : Int} (hs : -128 ≤ s ∧ s ≤ 127) (t : Int) (c dr rm tm : Nat) (hd : ∀ (k : Int) (i : Nat), 0 ≤ k → k < n → i < 18 → Cn .f32 (F i k)) :
    ∃ h hl ob, run' fops isNum valid flv (nanb .f64) h hl (stA n a b s t c) [(1, ⟨false, false, .rows 18 n (Row F G)⟩)] dr rm tm = some (.c (.bool .t), ob) ∧ AllT ob := by
  by_cases hbig : 1048576 < n
  · exact ⟨_, _, _, run_big fops isNum valid flv (nanb .f64) F G n a b s t c dr rm tm, AllT.one (lf_big hbig hmax)⟩
  · have h1 : n ≤ 1048576 := by omega
    have hv := oV_ok (r1_shape F G n) h0 h1 hs
    have hf := shape_flat (r1_shape F G n)
    by_cases hc : cdI fops (vR fops valid n (R1 F G n) a b s t c) dr rm tm = 0
    · have hP := fp_of h0 (r1_shape F G n) (cn_R1 hd) hc
      have hP' : okP n n (R1 F G n) a b s t c dr rm tm = true := pB_iff.2 ⟨rfl, hP⟩
      have hf2 := shape_flat (nRw_shape n (R1 F G n) a b s dr tm)
      have h6 := hP.vp.six
      cases hok : nOk fops valid flv n (R1 F G n) a b s t c dr rm tm with
      | true =>
        have hS : ∀ q, q = true → AllT (sOK fops valid flv (R1 F G n) n a b s t c dr rm tm q) := fun q hq =>
          AllT.app hv (AllT.cons (by rw [hc]; rfl) (AllT.cons hf (AllT.cons hf2 (AllT.cons hP' (AllT.one hq)))))
        have hk := nRw_shape n (R1 F G n) a b s dr tm
        exact ⟨_, _, _, run_ok fops isNum valid flv (nanb .f64) F G n a b s t c dr rm tm, obG_ok F G h0 h1 (hS _ hok) (hS _ (by rw [hok]; rfl)) h0 h1 hk hk (by unfold tOK eqN eqG4; rw [eqT_q, eq4_true]; rfl) (eqT_q _ _ _ _ _ _ _)⟩
      | false =>
        have hno : (!nOk fops valid flv n (R1 F G n) a b s t c dr rm tm) = true := by rw [hok]; rfl
        have hS : ∀ l, AllT l → AllT (sST fops valid (R1 F G n) n a b s t c dr rm tm l) := fun l hl =>
          AllT.app (AllT.app hv (AllT.cons (by rw [hc]; rfl) (AllT.one hf))) hl
        exact ⟨_, _, _, run_st fops isNum valid flv (nanb .f64) F G n a b s t c dr rm tm, obGe_ok F G h0 h1 (hS _ (AllT.cons hP' (AllT.one hno))) (hS _ (AllT.cons hf2 (AllT.cons hP' (AllT.one hno)))) tST_false (eqT_q _ _ _ _ _ _ _)⟩
    · have hS : AllT (sER fops valid (R1 F G n) n a b s t c dr rm tm) := AllT.app hv (AllT.one (by simpa using hc))
      exact ⟨_, _, _, run_err fops isNum valid flv (nanb .f64) F G n a b s t c dr rm tm, obGe_ok F G h0 h1 hS hS (tE0_false rfl) (eqT_q _ _ _ _ _ _ _)⟩
theorem law_all0 (a b : Nat) {s : Int} (hs : -128 ≤ s ∧ s ≤ 127) (t : Int) (c dr rm tm : Nat) : ∃ h hl ob, run' fops isNum valid flv (nanb .f64) h hl (st0 a b s t c) [] dr rm tm = some (.c (.bool .t), ob) ∧ AllT ob := by
  have e : cdS fops (vS fops true 0 a b s t c) dr rm tm = cdI fops (vI fops true 0 a b s t c) dr rm tm := by rw [v0_eq a b hs t c, cd_eq]
  by_cases hc : cdI fops (vI fops true 0 a b s t c) dr rm tm = 0
  · have hP : FP 0 row0 a b s t c dr rm tm := fp_of (Int.le_refl _) (shape_row _ _) (fun k i h0 h1 _ => by omega) hc
    have hP' : okP 0 0 row0 a b s t c dr rm tm = true := pB_iff.2 ⟨rfl, hP⟩
    have hc' : cdS fops (vS fops true 0 a b s t c) dr rm tm = 0 := by rw [e]; exact hc
    cases hok : nOk fops valid flv 0 row0 a b s t c dr rm tm with
    | true => exact ⟨_, _, _, run0_ok fops isNum valid flv (nanb .f64) a b s t c dr rm tm, ob0_ok (AllT.cons (by rw [hc']; rfl) (AllT.cons hP' (AllT.one hok))) (AllT.cons (by rw [hc]; rfl) (AllT.cons hP' (AllT.one (by rw [hok]; rfl)))) (by unfold tOK eqN0 eqG4; rw [eqT_true rfl, eq4_true]; rfl) (eqT_true rfl _ _ _ _ _)⟩
    | false =>
      have hno : (!nOk fops valid flv 0 row0 a b s t c dr rm tm) = true := by rw [hok]; rfl
      exact ⟨_, _, _, run0_st fops isNum valid flv (nanb .f64) a b s t c dr rm tm, ob0_ok (AllT.cons (by rw [hc']; rfl) (AllT.cons hP' (AllT.one hno))) (AllT.cons (by rw [hc]; rfl) (AllT.cons hP' (AllT.one hno))) tST_false (eqT_true rfl _ _ _ _ _)⟩
  · exact ⟨_, _, _, run0_err fops isNum valid flv (nanb .f64) a b s t c dr rm tm, ob0_ok (AllT.one (by rw [e]; simpa using hc)) (AllT.one (by simpa using hc)) (tE0_false e.symm) (eqT_true rfl _ _ _ _ _)⟩
/-! ### as the law's walk has it -/
def L3 (O : FOps) (vl : (Nat → Nat) → Bool) (h : HH) : List (Nat × CS) := L3' O isNum vl flv (nanb .f64) h
set_option maxRecDepth 100000 in
theorem okL3 (h : HH) : AllOK Try.prog (L3 fops valid h) := okL3' h
end
end Go.Proofs.Ytngdmcbjponlhaa.Fst
end

/- The law of StepsToCold: what its text computes, with any number of logs. Nothing is assumed. -/
section
namespace Go.Proofs.Ytngdmcbjponlhaa.Stc
open Go SlWood Stv Sto Fir
noncomputable section
def LP2 (O : FOps) (vl : (Nat → Nat) → Bool) : List (Nat × CS) := (78, coIC O vl) :: (76, coSC O vl) :: Sto.LW O vl
set_option maxRecDepth 100000 in
theorem okLP2 : AllOK Try.prog (LP2 fops valid) := ⟨cCoI, cCoS, okLW⟩
def fI (O : FOps) (vl : (Nat → Nat) → Bool) (fl : Nat → Nat) : CS := inl ⟨Try.prog, O, orcN Try.prog O (LP2 O vl) 8⟩ Try.f50 ⟨fun _ => none, lpOf [(8, LI O vl fl)]⟩
def fS (O : FOps) (vl : (Nat → Nat) → Bool) (fl : Nat → Nat) : CS := inl ⟨Try.prog, O, orcN Try.prog O (LP2 O vl) 8⟩ Try.f49 ⟨fun _ => none, lpOf [(9, LS O vl fl)]⟩
set_option maxRecDepth 100000 in
theorem cI0 : CallOK Try.prog 50 (fI fops valid flv) := by
  have hb : Try.f50.body.isSome = true := by kernel_rfl
  obtain ⟨c, hc⟩ := Option.isSome_iff_exists.1 hb
  have h1 : (match Try.f50.body with | some c => onceB (loopsIn c) && (match loopAt 8 (loopsIn c) with | some _ => true | none => false) | none => false) = true := by kernel_rfl
  rw [hc] at h1
  simp only [Bool.and_eq_true] at h1
  exact inlL_of (l := LP2 fops valid) (ls := [(8, LI fops valid flv)]) okLP2 mixed 8 Try.func50 (by kernel_rfl) _ hc h1.1 ⟨⟨_, bodyOf_at hc h1.2, okI⟩, trivial⟩
set_option maxRecDepth 100000 in
theorem cS0 : CallOK Try.prog 49 (fS fops valid flv) := by
  have hb : Try.f49.body.isSome = true := by kernel_rfl
  obtain ⟨c, hc⟩ := Option.isSome_iff_exists.1 hb
  have h1 : (match Try.f49.body with | some c => onceB (loopsIn c) && (match loopAt 9 (loopsIn c) with | some _ => true | none => false) | none => false) = true := by kernel_rfl
  rw [hc] at h1
  simp only [Bool.and_eq_true] at h1
  exact inlL_of (l := LP2 fops valid) (ls := [(9, LS fops valid flv)]) okLP2 mixed 8 Try.func49 (by kernel_rfl) _ hc h1.1 ⟨⟨_, bodyOf_at hc h1.2, okS⟩, trivial⟩
def Kc (O : FOps) (vl : (Nat → Nat) → Bool) (n : Int) (row : Int → List SC) (a b : Nat) (s t : Int) (c rm tm : Nat) : Int := cdI O (vR O vl n row a b s t c) 1065353216 rm tm
def rn (mo : Int) : Bool := bif decide (mo < 0) then true else decide (400 < mo)
def xR (K : Int) (mo : Int) (r : Int × Int) : Int := bif !decide (K = 0) then 0 else bif rn mo then 0 else r.1
def yR (K : Int) (mo : Int) (r : Int × Int) : Int := bif !decide (K = 0) then K else bif rn mo then 2 else r.2
def k2 (K mo : Int) : Int := bif (bif decide (K = 0) then bif (bif decide (0 ≤ mo) then decide (mo ≤ 400) else false) then false else true else false) then 2 else K
def xS (K : Int) (mo : Int) (r : Int × Int) : Int := bif !decide (k2 K mo = 0) then 0 else r.1
def yS (K : Int) (mo : Int) (r : Int × Int) : Int := bif !decide (k2 K mo = 0) then k2 K mo else r.2
theorem rn_eq (mo : Int) : (bif (bif decide (0 ≤ mo) then decide (mo ≤ 400) else false) then false else true) = rn mo := by
  unfold rn
  by_cases h0 : mo < 0
  · rw [decide_eq_true h0, decide_eq_false (show ¬ 0 ≤ mo by omega)]; rfl
  · rw [decide_eq_false h0, decide_eq_true (show 0 ≤ mo by omega)]
    by_cases h1 : 400 < mo
    · rw [decide_eq_true h1, decide_eq_false (show ¬ mo ≤ 400 by omega)]; rfl
    · rw [decide_eq_false h1, decide_eq_true (show mo ≤ 400 by omega)]; rfl
theorem xy_eq (K mo : Int) (r : Int × Int) : xS K mo r = xR K mo r ∧ yS K mo r = yR K mo r := by
  unfold xS yS xR yR k2
  rw [rn_eq]
  by_cases h : K = 0
  · subst h
    cases rn mo <;> exact ⟨rfl, rfl⟩
  · rw [decide_eq_false h]
    simp [h]
def obI (K mo n N s : Int) (row : Int → List SC) (P : Bool) : List Bool := [flatR row, okV n N s row] ++ gdB (!decide (K = 0)) (gdB (rn mo) [flatR row, P])
def obS (K mo n N s : Int) (row : Int → List SC) (P : Bool) : List Bool := [flatR row, okV n N s row] ++ gdB (!decide (k2 K mo = 0)) [decide (0 ≤ n ∧ n ≤ N ∧ n ≤ 1000000), flatR row, P]
def pre (mo n N : Int) (row : Int → List SC) (a b : Nat) (s t : Int) (c rm tm : Nat) : Bool := pB ((0 : Int) = 0 ∧ 0 ≤ mo ∧ mo ≤ 400 ∧ N = n ∧ FP n row a b s t c 1065353216 rm tm)
set_option maxRecDepth 100000 in
theorem I_run (O : FOps) (vl : (Nat → Nat) → Bool) (fl : Nat → Nat) (f w o : Bool) (n N : Int) (row : Int → List SC) (a b : Nat) (s t : Int) (c rm tm : Nat) (mo : Int) :
    roS (fI O vl fl) 2 [.a (stL f n a b s t c), .c (.flt .f32 rm), .c (.flt .f32 tm), .c (.int .i64 (.s mo))] [(1, ⟨w, o, .rows 18 N row⟩)] =
      some ⟨.tup [.c (.int .i64 (.s (xR (Kc O vl n row a b s t c rm tm) mo (cl O vl fl n b rm tm mo.toNat 0 row a s t c)))), .c (.int .i64 (.s (yR (Kc O vl n row a b s t c rm tm) mo (cl O vl fl n b rm tm mo.toNat 0 row a s t c))))], [], 500, obI (Kc O vl n row a b s t c rm tm) mo n N s row (pre mo n N row a b s t c rm tm)⟩ := by kernel_rfl
set_option maxRecDepth 100000 in
theorem S_run (O : FOps) (vl : (Nat → Nat) → Bool) (fl : Nat → Nat) (f w o : Bool) (n N : Int) (row : Int → List SC) (a b : Nat) (s t : Int) (c rm tm : Nat) (mo : Int) :
    roS (fS O vl fl) 2 [.a (stL f n a b s t c), .c (.flt .f32 rm), .c (.flt .f32 tm), .c (.int .i64 (.s mo))] [(1, ⟨w, o, .rows 18 N row⟩)] =
      some ⟨.tup [.c (.int .i64 (.s (xS (Kc O vl n row a b s t c rm tm) mo (cl O vl fl n b rm tm mo.toNat 0 row a s t c)))), .c (.int .i64 (.s (yS (Kc O vl n row a b s t c rm tm) mo (cl O vl fl n b rm tm mo.toNat 0 row a s t c))))], [], 500, obS (Kc O vl n row a b s t c rm tm) mo n N s row (pre mo n n row a b s t c rm tm)⟩ := by kernel_rfl
/-! ### told by hand -/
def okH (n N s : Int) (row : Int → List SC) : Bool := pB (N = n ∧ 0 ≤ n ∧ n ≤ 1048576 ∧ Shape ts row ∧ (-128 ≤ s ∧ s ≤ 127) ∧ ∀ (k : Int) (i : Nat), 0 ≤ k → k < n → i < 18 → Cn .f32 (wk (datF row) k i))
def stcH (O : FOps) (vl : (Nat → Nat) → Bool) (fl : Nat → Nat) : CS := fun base args rd => match args with
  | [.a [.sl i o es (.s n) _, .flt .f32 a, .flt .f32 b, .int .i8 (.s s), .int .i64 (.s t), .flt .f32 c], .c (.flt .f32 rm), .c (.flt .f32 tm), .c (.int .i64 (.s mo))] => match rd with
    | [(j, ⟨_, _, .rows st N row⟩)] => match Nat.beq base 2 && (Nat.beq i 1 && (Nat.beq o 0 && (Nat.beq es 18 && (Nat.beq j 1 && Nat.beq st 18)))) with
      | true => some ⟨.tup [.c (.int .i64 (.s (xR (Kc O vl n row a b s t c rm tm) mo (cl O vl fl n b rm tm mo.toNat 0 row a s t c)))), .c (.int .i64 (.s (yR (Kc O vl n row a b s t c rm tm) mo (cl O vl fl n b rm tm mo.toNat 0 row a s t c))))], [], 500, [okH n N s row]⟩
      | false => none
    | _ => none
  | _ => none
theorem rn_false {mo : Int} (h : rn mo = false) : 0 ≤ mo ∧ mo ≤ 400 := by
  unfold rn at h
  by_cases h0 : mo < 0
  · rw [decide_eq_true h0] at h; cases h
  · rw [decide_eq_false h0] at h
    have := of_decide_eq_false h
    omega
theorem k2_zero {K mo : Int} (h : k2 K mo = 0) : K = 0 ∧ rn mo = false := by
  unfold k2 at h
  rw [rn_eq] at h
  by_cases hK : K = 0
  · subst hK
    cases hr : rn mo
    · exact ⟨rfl, rfl⟩
    · rw [hr] at h; cases h
  · rw [decide_eq_false hK] at h
    exact absurd h hK
section
variable {n N s : Int} {row : Int → List SC} (h : okH n N s row = true) {a b : Nat} {t : Int} {c rm tm : Nat} {mo : Int}
include h
theorem okV_of : flatR row = true ∧ okV n N s row = true := by
  obtain ⟨h1, h2, h3, h4, h5, _⟩ := pB_iff.1 h
  exact ⟨shape_flat h4, pB_iff.2 ⟨h1, h2, h3, h4, h5⟩⟩
theorem fp_ok (hK : Kc fops valid n row a b s t c rm tm = 0) : FP n row a b s t c 1065353216 rm tm := by
  obtain ⟨h1, h2, h3, h4, h5, h6⟩ := pB_iff.1 h
  exact Fst.fp_of h2 h4 h6 hK
theorem obI_ok : AllT (obI (Kc fops valid n row a b s t c rm tm) mo n N s row (pre mo n N row a b s t c rm tm)) := by
  obtain ⟨h1, h2⟩ := okV_of h
  refine AllT.app (AllT.cons h1 (AllT.one h2)) (gdB_ok fun e => gdB_ok fun e' => AllT.cons h1 (AllT.one (pB_iff.2 ?_)))
  have hK : Kc fops valid n row a b s t c rm tm = 0 := by simpa using e
  obtain ⟨r1, r2⟩ := rn_false e'
  exact ⟨rfl, r1, r2, (pB_iff.1 h).1, fp_ok h hK⟩
theorem obS_ok : AllT (obS (Kc fops valid n row a b s t c rm tm) mo n N s row (pre mo n n row a b s t c rm tm)) := by
  obtain ⟨h1, h2⟩ := okV_of h
  refine AllT.app (AllT.cons h1 (AllT.one h2)) (gdB_ok fun e => ?_)
  have hk2 : k2 (Kc fops valid n row a b s t c rm tm) mo = 0 := by simpa using e
  obtain ⟨hK, hr⟩ := k2_zero hk2
  obtain ⟨r1, r2⟩ := rn_false hr
  have hP := fp_ok h hK
  have h6 := hP.vp.six
  obtain ⟨g1, g2, _⟩ := pB_iff.1 h
  exact AllT.cons (by rw [g1]; simp; omega) (AllT.cons h1 (AllT.one (pB_iff.2 ⟨rfl, r1, r2, rfl, hP⟩)))
end
set_option maxRecDepth 100000 in
theorem cI : CallOK Try.prog 50 (canS (stcH fops valid flv)) :=
  (CallOK.hand (H := stcH fops valid flv) cI0.ro fun bs args rd e hh hob => by
    unfold stcH at hh
    split at hh <;> try (cases hh; done)
    rename_i i o es n f xa xb s t xc rm tm mo
    split at hh <;> try (cases hh; done)
    rename_i j w p st N row
    split at hh <;> cases hh
    rename_i hc
    simp only [Bool.and_eq_true, beqN] at hc
    obtain ⟨rfl, rfl, rfl, rfl, rfl, rfl⟩ := hc
    exact ⟨_, I_run fops valid flv f w p n N row xa xb s t xc rm tm mo, obI_ok hob.head⟩).can
set_option maxRecDepth 100000 in
theorem cS : CallOK Try.prog 49 (canS (stcH fops valid flv)) :=
  (CallOK.hand (H := stcH fops valid flv) cS0.ro fun bs args rd e hh hob => by
    unfold stcH at hh
    split at hh <;> try (cases hh; done)
    rename_i i o es n f xa xb s t xc rm tm mo
    split at hh <;> try (cases hh; done)
    rename_i j w p st N row
    split at hh <;> cases hh
    rename_i hc
    simp only [Bool.and_eq_true, beqN] at hc
    obtain ⟨rfl, rfl, rfl, rfl, rfl, rfl⟩ := hc
    have h1 := S_run fops valid flv f w p n N row xa xb s t xc rm tm mo
    rw [(xy_eq _ _ _).1, (xy_eq _ _ _).2] at h1
    exact ⟨_, h1, obS_ok hob.head⟩).can
/-! ### the law -/
def L3' (O : FOps) (vl : (Nat → Nat) → Bool) (fl : Nat → Nat) : List (Nat × CS) := (50, canS (stcH O vl fl)) :: (49, canS (stcH O vl fl)) :: (53, toNC O) :: Sto.LW O vl
set_option maxRecDepth 100000 in
theorem okL3' : AllOK Try.prog (L3' fops valid flv) := ⟨cI, cS, cToNC, okLW⟩
def run' (O : FOps) (vl : (Nat → Nat) → Bool) (fl : Nat → Nat) (hl : List (Nat × Bool)) (v : SV) (rd : List (Nat × Seg)) (rm tm : Nat) (mo : Int) : Option (SV × List Bool) :=
  rE 2 (inl ⟨Try.prog, O, orcN Try.prog O (L3' O vl fl) 8⟩ Try.f15 ⟨Sto.hint hl, fun _ => none⟩ 2 [v, .c (.flt .f32 rm), .c (.flt .f32 tm), .c (.int .i64 (.s mo))] rd)
def hLaw : List (Nat × Bool) := [(19, false), (46, false), (51, false)]
def tD (x y : Int) : Bool := bif !decide (x = x) then true else !decide (y = y)
theorem tD_false (x y : Int) : tD x y = false := by unfold tD; simp
def xV (O : FOps) (vl : (Nat → Nat) → Bool) (fl : Nat → Nat) (n : Int) (row : Int → List SC) (a b : Nat) (s t : Int) (c rm tm : Nat) (mo : Int) : Int := xR (Kc O vl n row a b s t c rm tm) mo (cl O vl fl n b rm tm mo.toNat 0 row a s t c)
def yV (O : FOps) (vl : (Nat → Nat) → Bool) (fl : Nat → Nat) (n : Int) (row : Int → List SC) (a b : Nat) (s t : Int) (c rm tm : Nat) (mo : Int) : Int := yR (Kc O vl n row a b s t c rm tm) mo (cl O vl fl n b rm tm mo.toNat 0 row a s t c)
set_option maxRecDepth 100000 in
theorem run_big (O : FOps) (vl : (Nat → Nat) → Bool) (fl : Nat → Nat) (F : Nat → Int → Nat) (G : Nat → Int → Int) (n : Int) (a b : Nat) (s t : Int) (c rm tm : Nat) (mo : Int) :
    run' O vl fl [(19, true)] (stA n a b s t c) [(1, ⟨false, false, .rows 18 n (Row F G)⟩)] rm tm mo = some (.c (.bool .t), [decide (lf n < 0)]) := by kernel_rfl
set_option maxRecDepth 100000 in
theorem run_ok (O : FOps) (vl : (Nat → Nat) → Bool) (fl : Nat → Nat) (F : Nat → Int → Nat) (G : Nat → Int → Int) (n : Int) (a b : Nat) (s t : Int) (c rm tm : Nat) (mo : Int) :
    run' O vl fl hLaw (stA n a b s t c) [(1, ⟨false, false, .rows 18 n (Row F G)⟩)] rm tm mo = some (.c (.bool .t), [!decide (lf n < 0)] ++ oC F G n ++ [flatR (R1 F G n), okH n n s (R1 F G n)] ++ oC F G n ++ [flatR (R1 F G n), okH n n s (R1 F G n)] ++
      [!tD (xV O vl fl n (R1 F G n) a b s t c rm tm mo) (yV O vl fl n (R1 F G n) a b s t c rm tm mo)] ++ oC F G n ++ oE n (R1 F G n) (R1 F G n) ++ [!!eqT O (eqR O n n (R1 F G n) (R1 F G n)) a b s t c]) := by kernel_rfl
set_option maxRecDepth 100000 in
theorem run0 (O : FOps) (vl : (Nat → Nat) → Bool) (fl : Nat → Nat) (a b : Nat) (s t : Int) (c rm tm : Nat) (mo : Int) :
    run' O vl fl hLaw (st0 a b s t c) [] rm tm mo = some (.c (.bool .t), [flatR W0] ++ [flatR W0, okH 0 0 s W0] ++ [flatR W0] ++ [flatR W0, okH 0 0 s W0] ++ [!tD (xV O vl fl 0 W0 a b s t c rm tm mo) (yV O vl fl 0 W0 a b s t c rm tm mo)] ++ [flatR W0] ++ oE 0 W0 W0 ++ [!!eqT O (eqR O 0 0 W0 W0) a b s t c]) := by kernel_rfl
theorem law_all (F : Nat → Int → Nat) (G : Nat → Int → Int) {n : Int} (h0 : 0 ≤ n) (hmax : n ≤ 9223372036854775807) (a b : Nat) {s : Int} (hs : -128 ≤ s ∧ s ≤ 127) (t : Int) (c rm tm : Nat) (mo : Int) (hd : ∀ (k : Int) (i : Nat), 0 ≤ k → k < n → i < 18 → Cn .f32 (F i k)) :
    ∃ (h : Unit) (hl : List (Nat × Bool)) (ob : List Bool), run' fops valid flv hl (stA n a b s t c) [(1, ⟨false, false, .rows 18 n (Row F G)⟩)] rm tm mo = some (.c (.bool .t), ob) ∧ AllT ob := by
  by_cases hbig : 1048576 < n
  · exact ⟨(), _, _, run_big fops valid flv F G n a b s t c rm tm mo, AllT.one (lf_big hbig hmax)⟩
  · have h1 : n ≤ 1048576 := by omega
    have hC := oC_ok F G h0 h1
    have hsh := r1_shape F G n
    have hH : okH n n s (R1 F G n) = true := pB_iff.2 ⟨rfl, h0, h1, hsh, hs, Fst.cn_R1 hd⟩
    have hF : AllT [flatR (R1 F G n), okH n n s (R1 F G n)] := AllT.cons (shape_flat hsh) (AllT.one hH)
    refine ⟨(), _, _, run_ok fops valid flv F G n a b s t c rm tm mo, ?_⟩
    rw [lf_small h0 h1, tD_false, eqT_q]
    exact AllT.app (AllT.app (AllT.app (AllT.app (AllT.app (AllT.app (AllT.app (AllT.app (AllT.one rfl) hC) hF) hC) hF) (AllT.one rfl)) hC) (oE_ok hsh hsh h0 h1)) (AllT.one rfl)
theorem law_all0 (a b : Nat) {s : Int} (hs : -128 ≤ s ∧ s ≤ 127) (t : Int) (c rm tm : Nat) (mo : Int) : ∃ (h : Unit) (hl : List (Nat × Bool)) (ob : List Bool), run' fops valid flv hl (st0 a b s t c) [] rm tm mo = some (.c (.bool .t), ob) ∧ AllT ob := by
  have hsh : Shape ts W0 := shape_row _ _
  have hf := shape_flat hsh
  have hH : okH 0 0 s W0 = true := pB_iff.2 ⟨rfl, Int.le_refl _, by decide, hsh, hs, fun k i h0 h1 _ => by omega⟩
  have hF : AllT [flatR W0, okH 0 0 s W0] := AllT.cons hf (AllT.one hH)
  refine ⟨(), _, _, run0 fops valid flv a b s t c rm tm mo, ?_⟩
  rw [tD_false, eqT_q]
  exact AllT.app (AllT.app (AllT.app (AllT.app (AllT.app (AllT.app (AllT.app (AllT.one hf) hF) (AllT.one hf)) hF) (AllT.one rfl)) (AllT.one hf)) (oE_ok hsh hsh (Int.le_refl _) (by decide))) (AllT.one rfl)
/-! ### as the law's walk has it -/
def L3 (O : FOps) (vl : (Nat → Nat) → Bool) (_ : Unit) : List (Nat × CS) := L3' O vl flv
set_option maxRecDepth 100000 in
theorem okL3 (h : Unit) : AllOK Try.prog (L3 fops valid h) := okL3'
end
end Go.Proofs.Ytngdmcbjponlhaa.Stc
end

/- Many steps of a stove: what they come to. Nothing is assumed. -/
section
namespace Go.Proofs.Ytngdmcbjponlhaa.Fss
open Go SlWood Stv Sto Fir
noncomputable section
/-- A stove on its way, and what was given so far. -/
structure S9 where
  row : Int → List SC
  a : Nat
  s : Int
  t : Int
  c : Nat
  r : Nat
  u : Nat
  m : Nat
  q : Nat
section
variable (O : FOps) (vl : (Nat → Nat) → Bool) (fl : Nat → Nat) (n : Int) (b dr rm tm : Nat)
def ok9 (x : S9) : Bool := nOk O vl fl n x.row x.a b x.s x.t x.c dr rm tm
def nx9 (x : S9) : S9 := ⟨nRw O n x.row x.a b x.s dr tm, nBx O n x.row x.a b x.s dr rm tm, nSt O n x.row x.a b x.s dr rm tm, nAs O fl n x.row x.a b x.s x.t x.c dr tm, nDu O fl n x.row x.a b x.s x.c dr tm,
  O.bin .add .f32 x.r (gR O x.a rm tm), O.bin .add .f32 x.u (nUp O x.a b x.s dr rm tm), O.bin .add .f32 x.m (nSm O n x.row x.a tm), O.bin .add .f32 x.q (nFu O n x.row x.a b x.s dr tm)⟩
/-- All steps go well. -/
def all9 : Nat → S9 → Bool
  | 0, _ => true
  | k + 1, x => bif ok9 O vl fl n b dr rm tm x then all9 k (nx9 O fl n b dr rm tm x) else false
def it9 : Nat → S9 → S9
  | 0, x => x
  | k + 1, x => it9 k (nx9 O fl n b dr rm tm x)
end
def P9 (n : Int) (b dr rm tm : Nat) (x : S9) : Prop := FP n x.row x.a b x.s x.t x.c dr rm tm
theorem P9.next {n : Int} {b dr rm tm : Nat} {x : S9} (h : P9 n b dr rm tm x) (hok : ok9 fops valid flv n b dr rm tm x = true) : P9 n b dr rm tm (nx9 fops flv n b dr rm tm x) := FP.next h hok
/-- What is given stays small. -/
structure B9 (k : Nat) (x : S9) : Prop where
  r : Bd x.r (W 8192 k)
  u : Bd x.u (W 8192 k)
  m : x.m ≤ W 512 k
  q : x.q ≤ W 512 k
theorem B9.next {n : Int} {b dr rm tm : Nat} {x : S9} (h : P9 n b dr rm tm x) {k : Nat} (hk : k + 1 ≤ 400) (hb : B9 k x) : B9 (k + 1) (nx9 fops flv n b dr rm tm x) :=
  ⟨bd_addW tA hk hb.r (FP.room h), bd_addW tA hk hb.u (FP.up h), amt_addW tB hk hb.m (FP.steam h), amt_addW tB hk hb.q (FP.fuel h)⟩
theorem it9_ok {n : Int} {b dr rm tm : Nat} : ∀ (m : Nat) (k : Nat) (x : S9), k + m ≤ 400 → P9 n b dr rm tm x → B9 k x → all9 fops valid flv n b dr rm tm m x = true → P9 n b dr rm tm (it9 fops flv n b dr rm tm m x) ∧ B9 (k + m) (it9 fops flv n b dr rm tm m x)
  | 0, k, x, _, hP, hB, _ => ⟨hP, hB⟩
  | m + 1, k, x, hk, hP, hB, ha => by
    unfold all9 at ha
    cases hok : ok9 fops valid flv n b dr rm tm x with
    | false => rw [hok] at ha; cases ha
    | true =>
      rw [hok] at ha
      have := it9_ok m (k + 1) (nx9 fops flv n b dr rm tm x) (by omega) (hP.next hok) (hB.next hP (by omega)) ha
      rw [show k + (m + 1) = k + 1 + m by omega]
      exact this
theorem B9.fin {k : Nat} (hk : k ≤ 400) {x : S9} (h : B9 k x) : allB isNum [x.r, x.u, x.m, x.q] = true := by
  have h1 := h.r.num
  have h2 := h.u.num
  have h3 := word_num' (tbl_at tB k hk).2 h.m
  have h4 := word_num' (tbl_at tB k hk).2 h.q
  simp [allB, h1, h2, h3, h4]
theorem B9.zero (row : Int → List SC) (a : Nat) (s t : Int) (c : Nat) : B9 0 ⟨row, a, s, t, c, 0, 0, 0, 0⟩ := ⟨bd0 tA, bd0 tA, Nat.zero_le _, Nat.zero_le _⟩
end
end Go.Proofs.Ytngdmcbjponlhaa.Fss
end

/- Many steps of a stove: the rounds. Nothing is assumed. -/
section
namespace Go.Proofs.Ytngdmcbjponlhaa.Fss
open Go SlWood Stv Sto Fir
noncomputable section
noncomputable def zK' : List KC := [.slc 0 0 0 0 false, .flt .f32, .flt .f32, .intc .i8 0, .intc .i64 0, .flt .f32]
noncomputable def stKf (i : Nat) : List KC := [.sl i 0 18 true, .flt .f32, .flt .f32, .int .i8, .int .i64, .flt .f32]
noncomputable def fNI : Nat := Try.f48.ntmps
noncomputable def fNS : Nat := Try.f47.ntmps
noncomputable def fIk : Sk := ⟨[(1, .c (.flt .f32)), (2, .c (.flt .f32)), (3, .c (.flt .f32)), (5, .c (.ptr 2 0)), (10, .c (.ptr 3 0)), (11, .c (.ptr 4 0)), (14, .c (.ptr 68 0)), (39, .c (.int .i64)), (40, .c (.int .i64))],
  [(1, ⟨false, false, .rows 18⟩), (2, ⟨true, true, .cells (stKf 69)⟩), (3, ⟨true, true, .cells zK'⟩), (4, ⟨true, true, .cells gK⟩), (68, ⟨true, true, .cells gK⟩), (69, ⟨true, true, .rows 18⟩)], 70⟩
noncomputable def fIe : Sk := ⟨[(5, .c (.ptr 2 0)), (10, .c (.ptr 3 0)), (11, .c (.ptr 4 0)), (14, .c (.ptr 68 0))],
  [(1, ⟨false, false, .rows 18⟩), (2, ⟨true, true, .cells (stKf 69)⟩), (3, ⟨true, true, .cells zK'⟩), (4, ⟨true, true, .cells gK⟩), (68, ⟨true, true, .cells gK⟩), (69, ⟨true, true, .rows 18⟩)], 70⟩
noncomputable def fIr : Sk := ⟨[(10, .c (.ptr 3 0)), (11, .c (.ptr 4 0)), (12, .c (.intc .i64 4))], [(1, ⟨false, false, .rows 18⟩), (3, ⟨true, true, .cells zK'⟩), (4, ⟨true, true, .cells gK⟩)], 69⟩
noncomputable def fIE (M : Int) (w : Int → List SC) (n : Int) (b : Nat) (N : Int) (x : S9) : List LD := [.i M, .r w, .i n, .f x.a, .f b, .i x.s, .i x.t, .f x.c, .f 0, .f 0, .f 0, .f 0, .f 0, .f 0, .f 0, .f x.r, .f x.u, .f x.m, .f x.q, .i N, .r x.row]
noncomputable def fID (M : Int) (w : Int → List SC) (dr rm tm : Nat) (st k n : Int) (b : Nat) (N : Int) (x : S9) : List LD := [.f dr, .f rm, .f tm, .i st, .i k] ++ fIE M w n b N x
noncomputable def zD (M : Int) (w : Int → List SC) : List LD := [.i M, .r w, .f 0, .f 0, .f 0, .f 0, .f 0, .f 0, .f 0]
noncomputable def fSk : Sk := ⟨[(1, .c (.flt .f32)), (2, .c (.flt .f32)), (3, .c (.flt .f32)), (4, .c (.int .i64)), (10, .c (.ptr 3 0)), (11, .c (.ptr 4 0)), (14, .c (.ptr 62 0)), (15, .c (.ptr 67 0)), (16, .c (.int .i64))],
  [(1, ⟨false, false, .rows 18⟩), (3, ⟨true, true, .cells zK'⟩), (4, ⟨true, true, .cells gK⟩), (62, ⟨true, true, .cells gK⟩), (67, ⟨true, true, .cells (stKf 68)⟩), (68, ⟨true, true, .rows 18⟩)], 69⟩
noncomputable def fSe : Sk := ⟨[(10, .c (.ptr 3 0)), (11, .c (.ptr 4 0)), (14, .c (.ptr 62 0)), (15, .c (.ptr 67 0))],
  [(1, ⟨false, false, .rows 18⟩), (3, ⟨true, true, .cells zK'⟩), (4, ⟨true, true, .cells gK⟩), (62, ⟨true, true, .cells gK⟩), (67, ⟨true, true, .cells (stKf 68)⟩), (68, ⟨true, true, .rows 18⟩)], 69⟩
noncomputable def fSr : Sk := ⟨[(10, .c (.ptr 3 0)), (11, .c (.ptr 4 0)), (12, .c (.intc .i64 4))], [(1, ⟨false, false, .rows 18⟩), (3, ⟨true, true, .cells zK'⟩), (4, ⟨true, true, .cells gK⟩)], 68⟩
noncomputable def fSE (M : Int) (w : Int → List SC) (n : Int) (b : Nat) (N : Int) (x : S9) : List LD := [.i M, .r w, .f 0, .f 0, .f 0, .f 0, .f 0, .f 0, .f 0, .f x.r, .f x.u, .f x.m, .f x.q, .i n, .f x.a, .f b, .i x.s, .i x.t, .f x.c, .i N, .r x.row]
noncomputable def fSD (M : Int) (w : Int → List SC) (dr rm tm : Nat) (st k n : Int) (b : Nat) (N : Int) (x : S9) : List LD := [.f dr, .f rm, .f tm, .i st, .i k] ++ fSE M w n b N x
noncomputable def fIg (O : FOps) (nm : Nat → Bool) (vl : (Nat → Nat) → Bool) (fl : Nat → Nat) (nb : Nat → Bool) (h : List (Nat × Bool)) (ρ : List (Nat × Nat)) (sk : Sk) (M : Int) (w : Int → List SC) (dr rm tm : Nat) (st k n : Int) (b : Nat) (N : Int) (x : S9) : Option (Option XK × List LD × List Bool) :=
  goL (Stc.cxR O nm vl fl nb false) fNI ⟨Sto.hint h, fun _ => none⟩ (bodyOf Try.f48 9) 69 500 fIk ρ sk (fID M w dr rm tm st k n b N x)
noncomputable def fSg (O : FOps) (nm : Nat → Bool) (vl : (Nat → Nat) → Bool) (fl : Nat → Nat) (nb : Nat → Bool) (e : Bool) (h : List (Nat × Bool)) (ρ : List (Nat × Nat)) (sk : Sk) (M : Int) (w : Int → List SC) (dr rm tm : Nat) (st k n : Int) (b : Nat) (N : Int) (x : S9) : Option (Option XK × List LD × List Bool) :=
  goL (Stc.cxR O nm vl fl nb e) fNS ⟨Sto.hint h, fun _ => none⟩ (bodyOf Try.f47 9) 68 500 fSk ρ sk (fSD M w dr rm tm st k n b N x)
/-! ### the rounds -/
set_option maxRecDepth 100000 in
theorem iStep (O : FOps) (nm : Nat → Bool) (vl : (Nat → Nat) → Bool) (fl : Nat → Nat) (nb : Nat → Bool) (M : Int) (w : Int → List SC) (dr rm tm : Nat) (st k n : Int) (b : Nat) (N : Int) (x : S9) : fIg O nm vl fl nb [(41, true), (52, false)] [(76, 69)] fIk M w dr rm tm st k n b N x = some (none, fID M w dr rm tm st (IntKind.i64.wrap (k + 1)) n b n (nx9 O fl n b dr rm tm x), [decide (k < st), flatR x.row, flatR (nRw O n x.row x.a b x.s dr tm), okP n N x.row x.a b x.s x.t x.c dr rm tm, !!ok9 O vl fl n b dr rm tm x, flatR w, flatR (nRw O n x.row x.a b x.s dr tm)]) := by kernel_rfl
set_option maxRecDepth 100000 in
theorem iFail (O : FOps) (nm : Nat → Bool) (vl : (Nat → Nat) → Bool) (fl : Nat → Nat) (nb : Nat → Bool) (M : Int) (w : Int → List SC) (dr rm tm : Nat) (st k n : Int) (b : Nat) (N : Int) (x : S9) : fIg O nm vl fl nb [(41, true), (52, true)] [] fIr M w dr rm tm st k n b N x = some (some .ret, zD M w, [decide (k < st), flatR x.row, flatR (nRw O n x.row x.a b x.s dr tm), okP n N x.row x.a b x.s x.t x.c dr rm tm, !ok9 O vl fl n b dr rm tm x, flatR w]) := by kernel_rfl
set_option maxRecDepth 100000 in
theorem iDone (O : FOps) (nm : Nat → Bool) (vl : (Nat → Nat) → Bool) (fl : Nat → Nat) (nb : Nat → Bool) (M : Int) (w : Int → List SC) (dr rm tm : Nat) (st k n : Int) (b : Nat) (N : Int) (x : S9) : fIg O nm vl fl nb [(41, false)] [] fIe M w dr rm tm st k n b N x = some (some (.exit 0), fIE M w n b N x, [!decide (k < st), flatR w, flatR x.row]) := by kernel_rfl
set_option maxRecDepth 100000 in
theorem sStep (O : FOps) (nm : Nat → Bool) (vl : (Nat → Nat) → Bool) (fl : Nat → Nat) (nb : Nat → Bool) (M : Int) (w : Int → List SC) (dr rm tm : Nat) (st k n : Int) (b : Nat) (N : Int) (x : S9) : fSg O nm vl fl nb false [(40, true), (52, false)] [(74, 68)] fSk M w dr rm tm st k n b N x = some (none, fSD M w dr rm tm st (IntKind.i64.wrap (k + 1)) n b n (nx9 O fl n b dr rm tm x), [decide (k < st), flatR x.row, flatR (nRw O n x.row x.a b x.s dr tm), okP n N x.row x.a b x.s x.t x.c dr rm tm, ok9 O vl fl n b dr rm tm x, flatR w, flatR (nRw O n x.row x.a b x.s dr tm)]) := by kernel_rfl
set_option maxRecDepth 100000 in
theorem sFail (O : FOps) (nm : Nat → Bool) (vl : (Nat → Nat) → Bool) (fl : Nat → Nat) (nb : Nat → Bool) (M : Int) (w : Int → List SC) (dr rm tm : Nat) (st k n : Int) (b : Nat) (N : Int) (x : S9) : fSg O nm vl fl nb true [(40, true)] [] fSr M w dr rm tm st k n b N x = some (some .ret, zD M w, [decide (k < st), flatR x.row, okP n N x.row x.a b x.s x.t x.c dr rm tm, !ok9 O vl fl n b dr rm tm x, flatR w]) := by kernel_rfl
set_option maxRecDepth 100000 in
theorem sDone (O : FOps) (nm : Nat → Bool) (vl : (Nat → Nat) → Bool) (fl : Nat → Nat) (nb : Nat → Bool) (M : Int) (w : Int → List SC) (dr rm tm : Nat) (st k n : Int) (b : Nat) (N : Int) (x : S9) : fSg O nm vl fl nb false [(40, false)] [] fSe M w dr rm tm st k n b N x = some (some (.exit 0), fSE M w n b N x, [!decide (k < st), flatR w, flatR x.row]) := by kernel_rfl
theorem lpI {M : Int} {w : Int → List SC} (hw : flatR w = true) (dr rm tm : Nat) {st : Int} (hst : st ≤ 400) (n : Int) (b : Nat) : ∀ (m : Nat) (k : Int) (x : S9), 0 ≤ k → k + m = st → P9 n b dr rm tm x →
    (all9 fops valid flv n b dr rm tm m x = true → LoopsX Try.prog fNI (bodyOf Try.f48 9) 69 500 fIk (fID M w dr rm tm st k n b n x) (.exit 0) fIe (fIE M w n b n (it9 fops flv n b dr rm tm m x))) ∧
    (all9 fops valid flv n b dr rm tm m x = false → LoopsX Try.prog fNI (bodyOf Try.f48 9) 69 500 fIk (fID M w dr rm tm st k n b n x) .ret fIr (zD M w)) := by
  have hx : ∀ e ts, CodeOK Try.prog fNI (bodyOf Try.f48 9) (sx (Stc.cxR fops isNum valid flv (nanb .f64) e) fNI ⟨ts, fun _ => none⟩ (bodyOf Try.f48 9)) := fun e ts => body_ok (l := Stc.LF fops isNum valid flv (nanb .f64) e) (Stc.okLF e) mixed 8 _ ts
  intro m
  induction m with
  | zero =>
    intro k x hk hkm hP
    have hlt : decide (k < st) = false := decide_eq_false (by omega)
    have hf := shape_flat hP.sh
    refine ⟨fun _ => ?_, fun h => by cases h⟩
    exact .done (ρ := []) (hx false _) (iDone fops isNum valid flv (nanb .f64) M w dr rm tm st k n b n x) (AllT.cons (by rw [hlt]; rfl) (AllT.cons hw (AllT.one hf)))
  | succ m ih =>
    intro k x hk hkm hP
    have hlt : decide (k < st) = true := decide_eq_true (by omega)
    have hf := shape_flat hP.sh
    have hf2 : flatR (nRw fops n x.row x.a b x.s dr tm) = true := rowK_flat _ _ _
    have hP' : okP n n x.row x.a b x.s x.t x.c dr rm tm = true := pB_iff.2 ⟨rfl, hP⟩
    have hA : all9 fops valid flv n b dr rm tm (m + 1) x = bif ok9 fops valid flv n b dr rm tm x then all9 fops valid flv n b dr rm tm m (nx9 fops flv n b dr rm tm x) else false := rfl
    rw [hA]
    cases hok : ok9 fops valid flv n b dr rm tm x with
    | true =>
      have h1 := iStep fops isNum valid flv (nanb .f64) M w dr rm tm st k n b n x
      rw [wrap_succ hk (by omega)] at h1
      have ho := AllT.cons hlt (AllT.cons hf (AllT.cons hf2 (AllT.cons hP' (AllT.cons (nn hok) (AllT.cons hw (AllT.one hf2))))))
      obtain ⟨i1, i2⟩ := ih (k + 1) _ (by omega) (by omega) (hP.next hok)
      exact ⟨fun h => .step (hx false _) h1 ho (i1 h), fun h => .step (hx false _) h1 ho (i2 h)⟩
    | false =>
      have hno : (!ok9 fops valid flv n b dr rm tm x) = true := by rw [hok]; rfl
      refine ⟨fun h => (by cases h), fun _ => .done (ρ := []) (hx false _) (iFail fops isNum valid flv (nanb .f64) M w dr rm tm st k n b n x) (AllT.cons hlt (AllT.cons hf (AllT.cons hf2 (AllT.cons hP' (AllT.cons hno (AllT.one hw))))))⟩
noncomputable def QI (w : Int → List SC) (k st n N : Int) (z1 z2 z3 y1 y2 y3 y4 b dr rm tm : Nat) (x : S9) : Prop := flatR w = true ∧ k = 0 ∧ 0 ≤ st ∧ st ≤ 400 ∧ N = n ∧ (z1 = 0 ∧ z2 = 0 ∧ z3 = 0 ∧ y1 = 0 ∧ y2 = 0 ∧ y3 = 0 ∧ y4 = 0) ∧ P9 n b dr rm tm x
/-- The loop: 'e' says that all goes well. -/
noncomputable def FI (O : FOps) (vl : (Nat → Nat) → Bool) (fl : Nat → Nat) (e : Bool) : List LD → Option (XO × List Bool)
  | [.f dr, .f rm, .f tm, .i st, .i k, .i M, .r w, .i n, .f a, .f b, .i s, .i t, .f c, .f z1, .f z2, .f z3, .f y1, .f y2, .f y3, .f y4, .f r, .f u, .f m, .f q, .i N, .r row] => match e with
    | true => some ([(.t, .exit 0, fIe, fIE M w n b n (it9 O fl n b dr rm tm st.toNat ⟨row, a, s, t, c, r, u, m, q⟩))], [pB (QI w k st n N z1 z2 z3 y1 y2 y3 y4 b dr rm tm ⟨row, a, s, t, c, r, u, m, q⟩), all9 O vl fl n b dr rm tm st.toNat ⟨row, a, s, t, c, r, u, m, q⟩])
    | false => some ([(.t, .ret, fIr, zD M w)], [pB (QI w k st n N z1 z2 z3 y1 y2 y3 y4 b dr rm tm ⟨row, a, s, t, c, r, u, m, q⟩), !all9 O vl fl n b dr rm tm st.toNat ⟨row, a, s, t, c, r, u, m, q⟩])
  | _ => none
noncomputable def LI (O : FOps) (vl : (Nat → Nat) → Bool) (fl : Nat → Nat) (e : Bool) : List Ly → Top → Option Outs := loopL fNI 69 500 fIk [(67, 69)] (FI O vl fl e)
theorem okI (e : Bool) : CodeOK Try.prog fNI (.loop (bodyOf Try.f48 9)) (LI fops valid flv e) := loopX_ok fun p x hr hob => by
  unfold FI at hr
  split at hr <;> try (cases hr; done)
  rename_i dr rm tm st k M w n a b s t c z1 z2 z3 y1 y2 y3 y4 r u m q N row
  cases e with
  | true =>
    cases hr
    obtain ⟨hw, e1, h0, h1, e2, ⟨q1, q2, q3, q4, q5, q6, q7⟩, hP⟩ := pB_iff.1 (show pB _ = true from hob.head)
    rw [e1, e2, q1, q2, q3, q4, q5, q6, q7]
    exact ⟨_, _, _, rfl, (lpI hw dr rm tm h1 n b st.toNat 0 ⟨row, a, s, t, c, r, u, m, q⟩ (Int.le_refl _) (by omega) hP).1 hob.tail.head⟩
  | false =>
    cases hr
    obtain ⟨hw, e1, h0, h1, e2, ⟨q1, q2, q3, q4, q5, q6, q7⟩, hP⟩ := pB_iff.1 (show pB _ = true from hob.head)
    have hf : all9 fops valid flv n b dr rm tm st.toNat ⟨row, a, s, t, c, r, u, m, q⟩ = false := by simpa using hob.tail.head
    rw [e1, e2, q1, q2, q3, q4, q5, q6, q7]
    exact ⟨_, _, _, rfl, (lpI hw dr rm tm h1 n b st.toNat 0 ⟨row, a, s, t, c, r, u, m, q⟩ (Int.le_refl _) (by omega) hP).2 hf⟩
theorem lpS {M : Int} {w : Int → List SC} (hw : flatR w = true) (dr rm tm : Nat) {st : Int} (hst : st ≤ 400) (n : Int) (b : Nat) : ∀ (m : Nat) (k : Int) (x : S9), 0 ≤ k → k + m = st → P9 n b dr rm tm x →
    (all9 fops valid flv n b dr rm tm m x = true → LoopsX Try.prog fNS (bodyOf Try.f47 9) 68 500 fSk (fSD M w dr rm tm st k n b n x) (.exit 0) fSe (fSE M w n b n (it9 fops flv n b dr rm tm m x))) ∧
    (all9 fops valid flv n b dr rm tm m x = false → LoopsX Try.prog fNS (bodyOf Try.f47 9) 68 500 fSk (fSD M w dr rm tm st k n b n x) .ret fSr (zD M w)) := by
  have hx : ∀ e ts, CodeOK Try.prog fNS (bodyOf Try.f47 9) (sx (Stc.cxR fops isNum valid flv (nanb .f64) e) fNS ⟨ts, fun _ => none⟩ (bodyOf Try.f47 9)) := fun e ts => body_ok (l := Stc.LF fops isNum valid flv (nanb .f64) e) (Stc.okLF e) mixed 8 _ ts
  intro m
  induction m with
  | zero =>
    intro k x hk hkm hP
    have hlt : decide (k < st) = false := decide_eq_false (by omega)
    have hf := shape_flat hP.sh
    refine ⟨fun _ => ?_, fun h => by cases h⟩
    exact .done (ρ := []) (hx false _) (sDone fops isNum valid flv (nanb .f64) M w dr rm tm st k n b n x) (AllT.cons (by rw [hlt]; rfl) (AllT.cons hw (AllT.one hf)))
  | succ m ih =>
    intro k x hk hkm hP
    have hlt : decide (k < st) = true := decide_eq_true (by omega)
    have hf := shape_flat hP.sh
    have hf2 : flatR (nRw fops n x.row x.a b x.s dr tm) = true := rowK_flat _ _ _
    have hP' : okP n n x.row x.a b x.s x.t x.c dr rm tm = true := pB_iff.2 ⟨rfl, hP⟩
    have hA : all9 fops valid flv n b dr rm tm (m + 1) x = bif ok9 fops valid flv n b dr rm tm x then all9 fops valid flv n b dr rm tm m (nx9 fops flv n b dr rm tm x) else false := rfl
    rw [hA]
    cases hok : ok9 fops valid flv n b dr rm tm x with
    | true =>
      have h1 := sStep fops isNum valid flv (nanb .f64) M w dr rm tm st k n b n x
      rw [wrap_succ hk (by omega)] at h1
      have ho := AllT.cons hlt (AllT.cons hf (AllT.cons hf2 (AllT.cons hP' (AllT.cons hok (AllT.cons hw (AllT.one hf2))))))
      obtain ⟨i1, i2⟩ := ih (k + 1) _ (by omega) (by omega) (hP.next hok)
      exact ⟨fun h => .step (hx false _) h1 ho (i1 h), fun h => .step (hx false _) h1 ho (i2 h)⟩
    | false =>
      have hno : (!ok9 fops valid flv n b dr rm tm x) = true := by rw [hok]; rfl
      refine ⟨fun h => (by cases h), fun _ => .done (ρ := []) (hx true _) (sFail fops isNum valid flv (nanb .f64) M w dr rm tm st k n b n x) (AllT.cons hlt (AllT.cons hf (AllT.cons hP' (AllT.cons hno (AllT.one hw)))))⟩
noncomputable def QS (w : Int → List SC) (k st n N : Int) (z1 z2 z3 y1 y2 y3 y4 b dr rm tm : Nat) (x : S9) : Prop := flatR w = true ∧ k = 0 ∧ 0 ≤ st ∧ st ≤ 400 ∧ N = n ∧ (z1 = 0 ∧ z2 = 0 ∧ z3 = 0 ∧ y1 = 0 ∧ y2 = 0 ∧ y3 = 0 ∧ y4 = 0) ∧ P9 n b dr rm tm x
/-- The loop: 'e' says that all goes well. -/
noncomputable def FS (O : FOps) (vl : (Nat → Nat) → Bool) (fl : Nat → Nat) (e : Bool) : List LD → Option (XO × List Bool)
  | [.f dr, .f rm, .f tm, .i st, .i k, .i M, .r w, .f z1, .f z2, .f z3, .f y1, .f y2, .f y3, .f y4, .f r, .f u, .f m, .f q, .i n, .f a, .f b, .i s, .i t, .f c, .i N, .r row] => match e with
    | true => some ([(.t, .exit 0, fSe, fSE M w n b n (it9 O fl n b dr rm tm st.toNat ⟨row, a, s, t, c, r, u, m, q⟩))], [pB (QS w k st n N z1 z2 z3 y1 y2 y3 y4 b dr rm tm ⟨row, a, s, t, c, r, u, m, q⟩), all9 O vl fl n b dr rm tm st.toNat ⟨row, a, s, t, c, r, u, m, q⟩])
    | false => some ([(.t, .ret, fSr, zD M w)], [pB (QS w k st n N z1 z2 z3 y1 y2 y3 y4 b dr rm tm ⟨row, a, s, t, c, r, u, m, q⟩), !all9 O vl fl n b dr rm tm st.toNat ⟨row, a, s, t, c, r, u, m, q⟩])
  | _ => none
noncomputable def LS (O : FOps) (vl : (Nat → Nat) → Bool) (fl : Nat → Nat) (e : Bool) : List Ly → Top → Option Outs := loopL fNS 68 500 fSk [(66, 68)] (FS O vl fl e)
theorem okS (e : Bool) : CodeOK Try.prog fNS (.loop (bodyOf Try.f47 9)) (LS fops valid flv e) := loopX_ok fun p x hr hob => by
  unfold FS at hr
  split at hr <;> try (cases hr; done)
  rename_i dr rm tm st k M w z1 z2 z3 y1 y2 y3 y4 r u m q n a b s t c N row
  cases e with
  | true =>
    cases hr
    obtain ⟨hw, e1, h0, h1, e2, ⟨q1, q2, q3, q4, q5, q6, q7⟩, hP⟩ := pB_iff.1 (show pB _ = true from hob.head)
    rw [e1, e2, q1, q2, q3, q4, q5, q6, q7]
    exact ⟨_, _, _, rfl, (lpS hw dr rm tm h1 n b st.toNat 0 ⟨row, a, s, t, c, r, u, m, q⟩ (Int.le_refl _) (by omega) hP).1 hob.tail.head⟩
  | false =>
    cases hr
    obtain ⟨hw, e1, h0, h1, e2, ⟨q1, q2, q3, q4, q5, q6, q7⟩, hP⟩ := pB_iff.1 (show pB _ = true from hob.head)
    have hf : all9 fops valid flv n b dr rm tm st.toNat ⟨row, a, s, t, c, r, u, m, q⟩ = false := by simpa using hob.tail.head
    rw [e1, e2, q1, q2, q3, q4, q5, q6, q7]
    exact ⟨_, _, _, rfl, (lpS hw dr rm tm h1 n b st.toNat 0 ⟨row, a, s, t, c, r, u, m, q⟩ (Int.le_refl _) (by omega) hP).2 hf⟩
end
end Go.Proofs.Ytngdmcbjponlhaa.Fss
end

/- Many steps of a stove: both functions told. Nothing is assumed. -/
section
namespace Go.Proofs.Ytngdmcbjponlhaa.Fss
open Go SlWood Stv Sto Fir
noncomputable section
def LP3 (O : FOps) (nm : Nat → Bool) (vl : (Nat → Nat) → Bool) : List (Nat × CS) := (80, gQ [.s 1] (finG nm)) :: Stc.LP2 O vl
set_option maxRecDepth 100000 in
theorem okLP3 : AllOK Try.prog (LP3 fops isNum valid) := ⟨cFin, Stc.okLP2⟩
/-- The tests: all goes well; a code; too many steps; a step fails. -/
def hI : Nat → List (Nat × Bool)
  | 0 => [(24, false), (33, false), (91, false)]
  | 1 => [(24, true)]
  | 2 => [(24, false), (33, true)]
  | _ => [(24, false), (33, false)]
def hS : Nat → List (Nat × Bool)
  | 0 => [(30, false), (32, false)]
  | 1 => [(30, false), (32, true)]
  | 2 => [(30, true)]
  | _ => [(30, false), (32, false)]
def gI (O : FOps) (nm : Nat → Bool) (vl : (Nat → Nat) → Bool) (fl : Nat → Nat) (j : Nat) : CS := nwS (inl ⟨Try.prog, O, orcN Try.prog O (LP3 O nm vl) 8⟩ Try.f48 ⟨Sto.hint (hI j), lpOf [(9, LI O vl fl (Nat.beq j 0))]⟩)
def gS' (O : FOps) (nm : Nat → Bool) (vl : (Nat → Nat) → Bool) (fl : Nat → Nat) (j : Nat) : CS := nwS (inl ⟨Try.prog, O, orcN Try.prog O (LP3 O nm vl) 8⟩ Try.f47 ⟨Sto.hint (hS j), lpOf [(9, LS O vl fl (Nat.beq j 0))]⟩)
set_option maxRecDepth 100000 in
theorem cI0 (j : Nat) : CallOK Try.prog 48 (gI fops isNum valid flv j) := by
  have hb : Try.f48.body.isSome = true := by kernel_rfl
  obtain ⟨c, hc⟩ := Option.isSome_iff_exists.1 hb
  have h1 : (match Try.f48.body with | some c => onceB (loopsIn c) && (match loopAt 9 (loopsIn c) with | some _ => true | none => false) | none => false) = true := by kernel_rfl
  rw [hc] at h1
  simp only [Bool.and_eq_true] at h1
  exact (inlL_of (l := LP3 fops isNum valid) (ls := [(9, LI fops valid flv (Nat.beq j 0))]) okLP3 mixed 8 Try.func48 (by kernel_rfl) _ hc h1.1 ⟨⟨_, bodyOf_at hc h1.2, okI _⟩, trivial⟩).nw
set_option maxRecDepth 100000 in
theorem cS0 (j : Nat) : CallOK Try.prog 47 (gS' fops isNum valid flv j) := by
  have hb : Try.f47.body.isSome = true := by kernel_rfl
  obtain ⟨c, hc⟩ := Option.isSome_iff_exists.1 hb
  have h1 : (match Try.f47.body with | some c => onceB (loopsIn c) && (match loopAt 9 (loopsIn c) with | some _ => true | none => false) | none => false) = true := by kernel_rfl
  rw [hc] at h1
  simp only [Bool.and_eq_true] at h1
  exact (inlL_of (l := LP3 fops isNum valid) (ls := [(9, LS fops valid flv (Nat.beq j 0))]) okLP3 mixed 8 Try.func47 (by kernel_rfl) _ hc h1.1 ⟨⟨_, bodyOf_at hc h1.2, okS _⟩, trivial⟩).nw
def x0 (row : Int → List SC) (a : Nat) (s t : Int) (c : Nat) : S9 := ⟨row, a, s, t, c, 0, 0, 0, 0⟩
def Kd (O : FOps) (vl : (Nat → Nat) → Bool) (n : Int) (row : Int → List SC) (a b : Nat) (s t : Int) (c dr rm tm : Nat) : Int := cdI O (vR O vl n row a b s t c) dr rm tm
def inK (K st : Int) : Bool := bif decide (K = 0) then !(bif decide (0 ≤ st) then decide (st ≤ 400) else false) else false
def stF (i : Nat) (n : Int) (b : Nat) (x : S9) : List SC := [.sl i 0 18 (.s n) true, .flt .f32 x.a, .flt .f32 b, .int .i8 (.s x.s), .int .i64 (.s x.t), .flt .f32 x.c]
def gvF (x : S9) : List SC := [.flt .f32 x.r, .flt .f32 x.u, .flt .f32 x.m, .flt .f32 x.q]
set_option maxRecDepth 100000 in
theorem I_0 (O : FOps) (nm : Nat → Bool) (vl : (Nat → Nat) → Bool) (fl : Nat → Nat) (f w o : Bool) (n N : Int) (row : Int → List SC) (a b : Nat) (s t : Int) (c dr rm tm : Nat) (st : Int) : gI O nm vl fl 0 2 [.a (stL f n a b s t c), .c (.flt .f32 dr), .c (.flt .f32 rm), .c (.flt .f32 tm), .c (.int .i64 (.s st))] [(1, ⟨w, o, .rows 18 N row⟩)] = some ⟨.tup [.a (stF 69 n b (it9 O fl n b dr rm tm st.toNat (x0 row a s t c))), .a (gvF (it9 O fl n b dr rm tm st.toNat (x0 row a s t c))), .c (.int .i64 (.c 0))], [(69, some ⟨true, true, .rows 18 n (it9 O fl n b dr rm tm st.toNat (x0 row a s t c)).row⟩)], 501, [flatR row, okV n N s row, !!decide (Kd O vl n row a b s t c dr rm tm = 0), !Stc.rn st, decide (0 ≤ n ∧ n ≤ N ∧ n ≤ 1000000), flatR row, flatR row, pB (QI row 0 st n n 0 0 0 0 0 0 0 b dr rm tm (x0 row a s t c)), all9 O vl fl n b dr rm tm st.toNat (x0 row a s t c), !!allB nm [(it9 O fl n b dr rm tm st.toNat (x0 row a s t c)).r, (it9 O fl n b dr rm tm st.toNat (x0 row a s t c)).u, (it9 O fl n b dr rm tm st.toNat (x0 row a s t c)).m, (it9 O fl n b dr rm tm st.toNat (x0 row a s t c)).q]]⟩ := by kernel_rfl
set_option maxRecDepth 100000 in
theorem I_1 (O : FOps) (nm : Nat → Bool) (vl : (Nat → Nat) → Bool) (fl : Nat → Nat) (f w o : Bool) (n N : Int) (row : Int → List SC) (a b : Nat) (s t : Int) (c dr rm tm : Nat) (st : Int) : gI O nm vl fl 1 2 [.a (stL f n a b s t c), .c (.flt .f32 dr), .c (.flt .f32 rm), .c (.flt .f32 tm), .c (.int .i64 (.s st))] [(1, ⟨w, o, .rows 18 N row⟩)] = some ⟨.tup [.a zSt, .a zGv, .c (.int .i64 (.s (Kd O vl n row a b s t c dr rm tm)))], [], 64, [flatR row, okV n N s row, !decide (Kd O vl n row a b s t c dr rm tm = 0)]⟩ := by kernel_rfl
set_option maxRecDepth 100000 in
theorem I_2 (O : FOps) (nm : Nat → Bool) (vl : (Nat → Nat) → Bool) (fl : Nat → Nat) (f w o : Bool) (n N : Int) (row : Int → List SC) (a b : Nat) (s t : Int) (c dr rm tm : Nat) (st : Int) : gI O nm vl fl 2 2 [.a (stL f n a b s t c), .c (.flt .f32 dr), .c (.flt .f32 rm), .c (.flt .f32 tm), .c (.int .i64 (.s st))] [(1, ⟨w, o, .rows 18 N row⟩)] = some ⟨.tup [.a zSt, .a zGv, .c (.int .i64 (.c 2))], [], 64, [flatR row, okV n N s row, !!decide (Kd O vl n row a b s t c dr rm tm = 0), Stc.rn st]⟩ := by kernel_rfl
set_option maxRecDepth 100000 in
theorem I_3 (O : FOps) (nm : Nat → Bool) (vl : (Nat → Nat) → Bool) (fl : Nat → Nat) (f w o : Bool) (n N : Int) (row : Int → List SC) (a b : Nat) (s t : Int) (c dr rm tm : Nat) (st : Int) : gI O nm vl fl 3 2 [.a (stL f n a b s t c), .c (.flt .f32 dr), .c (.flt .f32 rm), .c (.flt .f32 tm), .c (.int .i64 (.s st))] [(1, ⟨w, o, .rows 18 N row⟩)] = some ⟨.tup [.a zSt, .a zGv, .c (.int .i64 (.c 4))], [], 500, [flatR row, okV n N s row, !!decide (Kd O vl n row a b s t c dr rm tm = 0), !Stc.rn st, decide (0 ≤ n ∧ n ≤ N ∧ n ≤ 1000000), flatR row, flatR row, pB (QI row 0 st n n 0 0 0 0 0 0 0 b dr rm tm (x0 row a s t c)), !all9 O vl fl n b dr rm tm st.toNat (x0 row a s t c)]⟩ := by kernel_rfl
set_option maxRecDepth 100000 in
theorem S_0 (O : FOps) (nm : Nat → Bool) (vl : (Nat → Nat) → Bool) (fl : Nat → Nat) (f w o : Bool) (n N : Int) (row : Int → List SC) (a b : Nat) (s t : Int) (c dr rm tm : Nat) (st : Int) : gS' O nm vl fl 0 2 [.a (stL f n a b s t c), .c (.flt .f32 dr), .c (.flt .f32 rm), .c (.flt .f32 tm), .c (.int .i64 (.s st))] [(1, ⟨w, o, .rows 18 N row⟩)] = some ⟨.tup [.a (stF 68 n b (it9 O fl n b dr rm tm st.toNat (x0 row a s t c))), .a (gvF (it9 O fl n b dr rm tm st.toNat (x0 row a s t c))), .c (.int .i64 (.c 0))], [(68, some ⟨true, true, .rows 18 n (it9 O fl n b dr rm tm st.toNat (x0 row a s t c)).row⟩)], 500, [flatR row, okV n N s row, !inK (Kd O vl n row a b s t c dr rm tm) st, !!decide (Kd O vl n row a b s t c dr rm tm = 0), decide (0 ≤ n ∧ n ≤ N ∧ n ≤ 1000000), flatR row, flatR row, pB (QS row 0 st n n 0 0 0 0 0 0 0 b dr rm tm (x0 row a s t c)), all9 O vl fl n b dr rm tm st.toNat (x0 row a s t c)]⟩ := by kernel_rfl
set_option maxRecDepth 100000 in
theorem S_1 (O : FOps) (nm : Nat → Bool) (vl : (Nat → Nat) → Bool) (fl : Nat → Nat) (f w o : Bool) (n N : Int) (row : Int → List SC) (a b : Nat) (s t : Int) (c dr rm tm : Nat) (st : Int) : gS' O nm vl fl 1 2 [.a (stL f n a b s t c), .c (.flt .f32 dr), .c (.flt .f32 rm), .c (.flt .f32 tm), .c (.int .i64 (.s st))] [(1, ⟨w, o, .rows 18 N row⟩)] = some ⟨.tup [.a zSt, .a zGv, .c (.int .i64 (.s (Kd O vl n row a b s t c dr rm tm)))], [], 62, [flatR row, okV n N s row, !inK (Kd O vl n row a b s t c dr rm tm) st, !decide (Kd O vl n row a b s t c dr rm tm = 0)]⟩ := by kernel_rfl
set_option maxRecDepth 100000 in
theorem S_2 (O : FOps) (nm : Nat → Bool) (vl : (Nat → Nat) → Bool) (fl : Nat → Nat) (f w o : Bool) (n N : Int) (row : Int → List SC) (a b : Nat) (s t : Int) (c dr rm tm : Nat) (st : Int) : gS' O nm vl fl 2 2 [.a (stL f n a b s t c), .c (.flt .f32 dr), .c (.flt .f32 rm), .c (.flt .f32 tm), .c (.int .i64 (.s st))] [(1, ⟨w, o, .rows 18 N row⟩)] = some ⟨.tup [.a zSt, .a zGv, .c (.int .i64 (.c 2))], [], 62, [flatR row, okV n N s row, inK (Kd O vl n row a b s t c dr rm tm) st]⟩ := by kernel_rfl
set_option maxRecDepth 100000 in
theorem S_3 (O : FOps) (nm : Nat → Bool) (vl : (Nat → Nat) → Bool) (fl : Nat → Nat) (f w o : Bool) (n N : Int) (row : Int → List SC) (a b : Nat) (s t : Int) (c dr rm tm : Nat) (st : Int) : gS' O nm vl fl 3 2 [.a (stL f n a b s t c), .c (.flt .f32 dr), .c (.flt .f32 rm), .c (.flt .f32 tm), .c (.int .i64 (.s st))] [(1, ⟨w, o, .rows 18 N row⟩)] = some ⟨.tup [.a zSt, .a zGv, .c (.int .i64 (.c 4))], [], 500, [flatR row, okV n N s row, !inK (Kd O vl n row a b s t c dr rm tm) st, !!decide (Kd O vl n row a b s t c dr rm tm = 0), decide (0 ≤ n ∧ n ≤ N ∧ n ≤ 1000000), flatR row, flatR row, pB (QS row 0 st n n 0 0 0 0 0 0 0 b dr rm tm (x0 row a s t c)), !all9 O vl fl n b dr rm tm st.toNat (x0 row a s t c)]⟩ := by kernel_rfl
/-! ### told by hand -/
theorem alt {P : Program} {f : FuncId} {ι : Type} {S : ι → CS} {H : CS} (h : ∀ i, CallOK P f (S i)) (hH : ∀ b args rd e, H b args rd = some e → AllT e.obs → ∃ i e0, S i b args rd = some e0 ∧ AllT e0.obs ∧ (∀ E v, RelV E e0.ret v → RelV E e.ret v) ∧ e0.ws = e.ws ∧ b ≤ e0.next ∧ e0.next ≤ e.next) : CallOK P f H := by
  intro E base args vals rd w e hs hob hargs hb1 hbe hfr hmem
  obtain ⟨i, e0, h1, h2, h3, h4, h5, h6⟩ := hH base args rd e hs hob
  refine (h i E base args vals rd w e0 h1 h2 hargs hb1 h5 (fun i hi1 hi2 => hfr i hi1 (Nat.lt_of_lt_of_le hi2 h6)) hmem).mono fun v w' hp => ?_
  obtain ⟨E', k1, k2, k3, k4⟩ := hp
  exact ⟨E', k1, fun i hi => (k2 i hi).imp (fun h => h) fun h => ⟨h.1, Nat.lt_of_lt_of_le h.2 h6⟩, h3 E' v k3, by rw [← h4]; exact k4⟩
theorem inK_eq (K st : Int) : inK K st = bif decide (K = 0) then Stc.rn st else false := by
  unfold inK
  rw [← Stc.rn_eq]
  cases (bif decide (0 ≤ st) then decide (st ≤ 400) else false) <;> rfl
def yF (K st : Int) : Int := bif !decide (K = 0) then K else bif Stc.rn st then 2 else 4
def bF (K st : Int) (A : Bool) : Bool := bif !decide (K = 0) then true else bif Stc.rn st then true else !A
def okF (n N : Int) (row : Int → List SC) (a b : Nat) (s t : Int) (c dr rm tm : Nat) (st : Int) : Bool := pB (N = n ∧ 0 ≤ st ∧ st ≤ 400 ∧ FP n row a b s t c dr rm tm ∧ Kd fops valid n row a b s t c dr rm tm = 0)
def fsH (O : FOps) (vl : (Nat → Nat) → Bool) (fl : Nat → Nat) (k : Nat) (e : Bool) : CS := fun base args rd => match args with
  | [.a [.sl i o es (.s n) _, .flt .f32 a, .flt .f32 b, .int .i8 (.s s), .int .i64 (.s t), .flt .f32 c], .c (.flt .f32 dr), .c (.flt .f32 rm), .c (.flt .f32 tm), .c (.int .i64 (.s st))] => match rd with
    | [(j, ⟨_, _, .rows sz N row⟩)] => match Nat.beq base 2 && (Nat.beq i 1 && (Nat.beq o 0 && (Nat.beq es 18 && (Nat.beq j 1 && Nat.beq sz 18)))) with
      | true => match e with
        | true => some ⟨.tup [.a (stF k n b (it9 O fl n b dr rm tm st.toNat (x0 row a s t c))), .a (gvF (it9 O fl n b dr rm tm st.toNat (x0 row a s t c))), .c (.int .i64 (.c 0))], [(k, some ⟨true, true, .rows 18 n (it9 O fl n b dr rm tm st.toNat (x0 row a s t c)).row⟩)], 501, [okF n N row a b s t c dr rm tm st, all9 O vl fl n b dr rm tm st.toNat (x0 row a s t c)]⟩
        | false => some ⟨.tup [.a zSt, .a zGv, .c (.int .i64 (.s (yF (Kd O vl n row a b s t c dr rm tm) st)))], [], 501, [Stc.okH n N s row, bF (Kd O vl n row a b s t c dr rm tm) st (all9 O vl fl n b dr rm tm st.toNat (x0 row a s t c))]⟩
      | false => none
    | _ => none
  | _ => none
theorem rn0 {st : Int} (h0 : 0 ≤ st) (h1 : st ≤ 400) : Stc.rn st = false := by
  unfold Stc.rn
  rw [decide_eq_false (show ¬ st < 0 by omega), decide_eq_false (show ¬ 400 < st by omega)]; rfl
section
variable {n N : Int} {row : Int → List SC} {a b : Nat} {s t : Int} {c dr rm tm : Nat} {st : Int} (hN : N = n) (h0 : 0 ≤ st) (h1 : st ≤ 400) (h : FP n row a b s t c dr rm tm) (hK : Kd fops valid n row a b s t c dr rm tm = 0)
include hN h0 h1 h hK
theorem obI_ok {l : List Bool} (hl : AllT l) : AllT ([flatR row, okV n N s row, !!decide (Kd fops valid n row a b s t c dr rm tm = 0), !Stc.rn st, decide (0 ≤ n ∧ n ≤ N ∧ n ≤ 1000000), flatR row, flatR row, pB (QI row 0 st n n 0 0 0 0 0 0 0 b dr rm tm (x0 row a s t c))] ++ l) := by
  have hf := shape_flat h.sh
  have h6 := h.vp.six
  have hn := h.n0
  have hs0 := h.vp.s0
  have hs1 := h.vp.s1
  refine AllT.app (AllT.cons hf (AllT.cons (pB_iff.2 ⟨hN, hn, by omega, h.sh, by omega, by omega⟩) (AllT.cons (by rw [hK]; rfl) (AllT.cons (by rw [rn0 h0 h1]; rfl) (AllT.cons (by rw [hN]; simp; omega) (AllT.cons hf (AllT.cons hf (AllT.one (pB_iff.2 ⟨hf, rfl, h0, h1, rfl, ⟨rfl, rfl, rfl, rfl, rfl, rfl, rfl⟩, h⟩)))))))) ) hl
theorem obS_ok {l : List Bool} (hl : AllT l) : AllT ([flatR row, okV n N s row, !inK (Kd fops valid n row a b s t c dr rm tm) st, !!decide (Kd fops valid n row a b s t c dr rm tm = 0), decide (0 ≤ n ∧ n ≤ N ∧ n ≤ 1000000), flatR row, flatR row, pB (QS row 0 st n n 0 0 0 0 0 0 0 b dr rm tm (x0 row a s t c))] ++ l) := by
  have hf := shape_flat h.sh
  have h6 := h.vp.six
  have hn := h.n0
  have hs0 := h.vp.s0
  have hs1 := h.vp.s1
  refine AllT.app (AllT.cons hf (AllT.cons (pB_iff.2 ⟨hN, hn, by omega, h.sh, by omega, by omega⟩) (AllT.cons (by rw [inK_eq, rn0 h0 h1, hK]; rfl) (AllT.cons (by rw [hK]; rfl) (AllT.cons (by rw [hN]; simp; omega) (AllT.cons hf (AllT.cons hf (AllT.one (pB_iff.2 ⟨hf, rfl, h0, h1, rfl, ⟨rfl, rfl, rfl, rfl, rfl, rfl, rfl⟩, h⟩)))))))) ) hl
end
theorem fin_ok {n : Int} {row : Int → List SC} {a b : Nat} {s t : Int} {c dr rm tm : Nat} {st : Int} (h0 : 0 ≤ st) (h1 : st ≤ 400) (h : FP n row a b s t c dr rm tm) (hall : all9 fops valid flv n b dr rm tm st.toNat (x0 row a s t c) = true) : P9 n b dr rm tm (it9 fops flv n b dr rm tm st.toNat (x0 row a s t c)) ∧ allB isNum [(it9 fops flv n b dr rm tm st.toNat (x0 row a s t c)).r, (it9 fops flv n b dr rm tm st.toNat (x0 row a s t c)).u, (it9 fops flv n b dr rm tm st.toNat (x0 row a s t c)).m, (it9 fops flv n b dr rm tm st.toNat (x0 row a s t c)).q] = true := by
  have := it9_ok st.toNat 0 (x0 row a s t c) (by omega) h (B9.zero row a s t c) hall
  exact ⟨this.1, this.2.fin (by omega)⟩
theorem zRel (c : Int) (E : EM) (v : Value) (h : RelV E (.tup [.a zSt, .a zGv, .c (.int .i64 (.c c))]) v) : RelV E (.tup [.a zSt, .a zGv, .c (.int .i64 (.s c))]) v := by
  obtain ⟨vs, e, h⟩ := h
  have h' : RelEs E ([SE.a zSt, SE.a zGv] ++ [.c (.int .i64 (.c c))]) vs.toList := h
  exact ⟨vs, e, relEs_last (l := [SE.a zSt, SE.a zGv]) (x := .c (.int .i64 (.c c))) (y := .c (.int .i64 (.s c))) (fun v h => h) h'⟩
theorem bF_cases {K st : Int} {A : Bool} (h : bF K st A = true) : K ≠ 0 ∨ (K = 0 ∧ Stc.rn st = true) ∨ (K = 0 ∧ Stc.rn st = false ∧ A = false) := by
  unfold bF at h
  by_cases hK : K = 0
  · cases hr : Stc.rn st with
    | true => exact .inr (.inl ⟨hK, rfl⟩)
    | false =>
      rw [decide_eq_true hK, hr] at h
      exact .inr (.inr ⟨hK, rfl, by simpa using h⟩)
  · exact .inl hK
set_option maxRecDepth 100000 in
theorem cI (e : Bool) : CallOK Try.prog 48 (canS (fsH fops valid flv 69 e)) := CallOK.can (alt (S := gI fops isNum valid flv) cI0 fun bs args rd r hh hob => by
  unfold fsH at hh
  split at hh <;> try (cases hh; done)
  rename_i i o es n f xa xb s t xc dr rm tm st
  split at hh <;> try (cases hh; done)
  rename_i j w p sz N row
  split at hh <;> try (cases hh; done)
  rename_i hc
  simp only [Bool.and_eq_true, beqN] at hc
  obtain ⟨rfl, rfl, rfl, rfl, rfl, rfl⟩ := hc
  cases e with
  | true =>
    cases hh
    obtain ⟨hN, h0, h1, hP, hK⟩ := pB_iff.1 (show pB _ = true from hob.head)
    have hall := hob.tail.head
    have hfin := (fin_ok h0 h1 hP hall).2
    exact ⟨0, _, I_0 fops isNum valid flv f w p n N row xa xb s t xc dr rm tm st, obI_ok hN h0 h1 hP hK (AllT.cons hall (AllT.one (nn hfin))), fun _ _ h => h, rfl, by simp, Nat.le_refl _⟩
  | false =>
    cases hh
    have hH := hob.head
    obtain ⟨g1, g2⟩ := Stc.okV_of hH
    rcases bF_cases hob.tail.head with hK | ⟨hK, hr⟩ | ⟨hK, hr, hA⟩
    · have hd : (!decide (Kd fops valid n row xa xb s t xc dr rm tm = 0)) = true := by simpa using hK
      refine ⟨1, _, I_1 fops isNum valid flv f w p n N row xa xb s t xc dr rm tm st, AllT.cons g1 (AllT.cons g2 (AllT.one hd)), ?_, rfl, by simp, by simp⟩
      unfold yF
      rw [hd]
      exact fun _ _ h => h
    · refine ⟨2, _, I_2 fops isNum valid flv f w p n N row xa xb s t xc dr rm tm st, AllT.cons g1 (AllT.cons g2 (AllT.cons (by rw [hK]; rfl) (AllT.one hr))), ?_, rfl, by simp, by simp⟩
      rw [show yF (Kd fops valid n row xa xb s t xc dr rm tm) st = 2 by unfold yF; rw [hK, hr]; simp]
      exact zRel 2
    · obtain ⟨r1, r2⟩ := Stc.rn_false hr
      have hP : FP n row xa xb s t xc dr rm tm := Fst.fp_of (pB_iff.1 hH).2.1 (pB_iff.1 hH).2.2.2.1 (pB_iff.1 hH).2.2.2.2.2 hK
      refine ⟨3, _, I_3 fops isNum valid flv f w p n N row xa xb s t xc dr rm tm st, obI_ok (pB_iff.1 hH).1 r1 r2 hP hK (AllT.one (by rw [hA]; rfl)), ?_, rfl, by simp, by simp⟩
      rw [show yF (Kd fops valid n row xa xb s t xc dr rm tm) st = 4 by unfold yF; rw [hK, hr]; simp]
      exact zRel 4)
set_option maxRecDepth 100000 in
theorem cS (e : Bool) : CallOK Try.prog 47 (canS (fsH fops valid flv 68 e)) := CallOK.can (alt (S := gS' fops isNum valid flv) cS0 fun bs args rd r hh hob => by
  unfold fsH at hh
  split at hh <;> try (cases hh; done)
  rename_i i o es n f xa xb s t xc dr rm tm st
  split at hh <;> try (cases hh; done)
  rename_i j w p sz N row
  split at hh <;> try (cases hh; done)
  rename_i hc
  simp only [Bool.and_eq_true, beqN] at hc
  obtain ⟨rfl, rfl, rfl, rfl, rfl, rfl⟩ := hc
  cases e with
  | true =>
    cases hh
    obtain ⟨hN, h0, h1, hP, hK⟩ := pB_iff.1 (show pB _ = true from hob.head)
    have hall := hob.tail.head
    exact ⟨0, _, S_0 fops isNum valid flv f w p n N row xa xb s t xc dr rm tm st, obS_ok hN h0 h1 hP hK (AllT.one hall), fun _ _ h => h, rfl, by simp, by simp⟩
  | false =>
    cases hh
    have hH := hob.head
    obtain ⟨g1, g2⟩ := Stc.okV_of hH
    rcases bF_cases hob.tail.head with hK | ⟨hK, hr⟩ | ⟨hK, hr, hA⟩
    · have hd : (!decide (Kd fops valid n row xa xb s t xc dr rm tm = 0)) = true := by simpa using hK
      refine ⟨1, _, S_1 fops isNum valid flv f w p n N row xa xb s t xc dr rm tm st, AllT.cons g1 (AllT.cons g2 (AllT.cons (by rw [inK_eq, decide_eq_false hK]; rfl) (AllT.one hd))), ?_, rfl, by simp, by simp⟩
      unfold yF
      rw [hd]
      exact fun _ _ h => h
    · refine ⟨2, _, S_2 fops isNum valid flv f w p n N row xa xb s t xc dr rm tm st, AllT.cons g1 (AllT.cons g2 (AllT.one (by rw [inK_eq, hK]; exact hr))), ?_, rfl, by simp, by simp⟩
      rw [show yF (Kd fops valid n row xa xb s t xc dr rm tm) st = 2 by unfold yF; rw [hK, hr]; simp]
      exact zRel 2
    · obtain ⟨r1, r2⟩ := Stc.rn_false hr
      have hP : FP n row xa xb s t xc dr rm tm := Fst.fp_of (pB_iff.1 hH).2.1 (pB_iff.1 hH).2.2.2.1 (pB_iff.1 hH).2.2.2.2.2 hK
      refine ⟨3, _, S_3 fops isNum valid flv f w p n N row xa xb s t xc dr rm tm st, obS_ok (pB_iff.1 hH).1 r1 r2 hP hK (AllT.one (by rw [hA]; rfl)), ?_, rfl, by simp, by simp⟩
      rw [show yF (Kd fops valid n row xa xb s t xc dr rm tm) st = 4 by unfold yF; rw [hK, hr]; simp]
      exact zRel 4)
end
end Go.Proofs.Ytngdmcbjponlhaa.Fss
end

/- The law of FireSteps: what its text computes, with any number of logs. Nothing is assumed. -/
section
namespace Go.Proofs.Ytngdmcbjponlhaa.Fsl
open Go SlWood Stv Sto Fir Fss
noncomputable section
def L3' (O : FOps) (vl : (Nat → Nat) → Bool) (fl : Nat → Nat) (e : Bool) : List (Nat × CS) := (48, canS (fsH O vl fl 69 e)) :: (47, canS (fsH O vl fl 68 e)) :: (53, toNC O) :: Sto.LW O vl
set_option maxRecDepth 100000 in
theorem okL3' (e : Bool) : AllOK Try.prog (L3' fops valid flv e) := ⟨cI e, cS e, cToNC, okLW⟩
def run' (O : FOps) (vl : (Nat → Nat) → Bool) (fl : Nat → Nat) (e : Bool) (hl : List (Nat × Bool)) (v : SV) (rd : List (Nat × Seg)) (dr rm tm : Nat) (st : Int) : Option (SV × List Bool) :=
  rE 2 (inl ⟨Try.prog, O, orcN Try.prog O (L3' O vl fl e) 8⟩ Try.f14 ⟨Sto.hint hl, fun _ => none⟩ 2 [v, .c (.flt .f32 dr), .c (.flt .f32 rm), .c (.flt .f32 tm), .c (.int .i64 (.s st))] rd)
def hLaw : List (Nat × Bool) := [(29, false), (67, false), (72, false), (94, false), (102, false), (105, false), (131, false), (136, false), (139, false)]
def fin (O : FOps) (fl : Nat → Nat) (n : Int) (row : Int → List SC) (a b : Nat) (s t : Int) (c dr rm tm : Nat) (st : Int) : S9 := it9 O fl n b dr rm tm st.toNat (x0 row a s t c)
def al (O : FOps) (vl : (Nat → Nat) → Bool) (fl : Nat → Nat) (n : Int) (row : Int → List SC) (a b : Nat) (s t : Int) (c dr rm tm : Nat) (st : Int) : Bool := all9 O vl fl n b dr rm tm st.toNat (x0 row a s t c)
def yy (O : FOps) (vl : (Nat → Nat) → Bool)  (n : Int) (row : Int → List SC) (a b : Nat) (s t : Int) (c dr rm tm : Nat) (st : Int) : Int := yF (Kd O vl n row a b s t c dr rm tm) st
def sOK (O : FOps) (vl : (Nat → Nat) → Bool) (fl : Nat → Nat) (n : Int) (row : Int → List SC) (a b : Nat) (s t : Int) (c dr rm tm : Nat) (st : Int) : List Bool := [flatR row, flatR (fin O fl n row a b s t c dr rm tm st).row, Fss.okF n n row a b s t c dr rm tm st, al O vl fl n row a b s t c dr rm tm st]
def sER (O : FOps) (vl : (Nat → Nat) → Bool) (fl : Nat → Nat) (n : Int) (row : Int → List SC) (a b : Nat) (s t : Int) (c dr rm tm : Nat) (st : Int) : List Bool := [flatR row, Stc.okH n n s row, bF (Kd O vl n row a b s t c dr rm tm) st (al O vl fl n row a b s t c dr rm tm st)]
def tT (O : FOps) (n : Int) (b : Nat) (x : S9) : Bool := Fst.tOK (eqT O (eqR O n n x.row x.row) x.a b x.s x.t x.c) (Fst.eq4 O x.r x.u x.m x.q)
def obN (O : FOps) (C : List Bool) (R : Int → List SC) (n : Int) (Ss Si : List Bool) (n2 : Int) (Ri Rs : Int → List SC) (T E : Bool) : List Bool :=
  (C ++ Ss) ++ (C ++ Si) ++ oE n2 Ri Rs ++ [!T] ++ C ++ oE n R R ++ [!!E] ++ oM O n R ++ gdB (ng n) (oE n2 Ri Rs) ++ [!(bif ng n then true else T)] ++
  oM O n2 Ri ++ oH O n2 Ri ++ oQ n2 ++ (C ++ Si) ++ oE n2 Ri Rs ++ [!T] ++ oH O n2 Ri ++ oQ n2
def obNe (O : FOps) (C : List Bool) (R : Int → List SC) (n : Int) (Ss Si : List Bool) (T E : Bool) : List Bool :=
  (C ++ Ss) ++ (C ++ Si) ++ [!T] ++ C ++ oE n R R ++ [!!E] ++ oM O n R ++ [!(bif ng n then true else T)] ++ (C ++ Si) ++ [!T]
set_option maxRecDepth 100000 in
theorem run_big (O : FOps) (vl : (Nat → Nat) → Bool) (fl : Nat → Nat) (F : Nat → Int → Nat) (G : Nat → Int → Int) (n : Int) (a b : Nat) (s t : Int) (c dr rm tm : Nat) (st : Int) :
    run' O vl fl true [(29, true)] (stA n a b s t c) [(1, ⟨false, false, .rows 18 n (Row F G)⟩)] dr rm tm st = some (.c (.bool .t), [decide (lf n < 0)]) := by kernel_rfl
set_option maxRecDepth 100000 in
theorem run_ok (O : FOps) (vl : (Nat → Nat) → Bool) (fl : Nat → Nat) (F : Nat → Int → Nat) (G : Nat → Int → Int) (n : Int) (a b : Nat) (s t : Int) (c dr rm tm : Nat) (st : Int) :
    run' O vl fl true hLaw (stA n a b s t c) [(1, ⟨false, false, .rows 18 n (Row F G)⟩)] dr rm tm st = some (.c (.bool .t), [!decide (lf n < 0)] ++ obN O (oC F G n) (R1 F G n) n (sOK O vl fl n (R1 F G n) a b s t c dr rm tm st) (sOK O vl fl n (R1 F G n) a b s t c dr rm tm st) n (fin O fl n (R1 F G n) a b s t c dr rm tm st).row (fin O fl n (R1 F G n) a b s t c dr rm tm st).row (tT O n b (fin O fl n (R1 F G n) a b s t c dr rm tm st)) (eqT O (eqR O n n (R1 F G n) (R1 F G n)) a b s t c)) := by kernel_rfl
set_option maxRecDepth 100000 in
theorem run_er (O : FOps) (vl : (Nat → Nat) → Bool) (fl : Nat → Nat) (F : Nat → Int → Nat) (G : Nat → Int → Int) (n : Int) (a b : Nat) (s t : Int) (c dr rm tm : Nat) (st : Int) :
    run' O vl fl false hLaw (stA n a b s t c) [(1, ⟨false, false, .rows 18 n (Row F G)⟩)] dr rm tm st = some (.c (.bool .t), [!decide (lf n < 0)] ++ obNe O (oC F G n) (R1 F G n) n (sER O vl fl n (R1 F G n) a b s t c dr rm tm st) (sER O vl fl n (R1 F G n) a b s t c dr rm tm st) (Fst.tER O (yy O vl n (R1 F G n) a b s t c dr rm tm st)) (eqT O (eqR O n n (R1 F G n) (R1 F G n)) a b s t c)) := by kernel_rfl
set_option maxRecDepth 100000 in
theorem run0_ok (O : FOps) (vl : (Nat → Nat) → Bool) (fl : Nat → Nat) (a b : Nat) (s t : Int) (c dr rm tm : Nat) (st : Int) :
    run' O vl fl true hLaw (st0 a b s t c) [] dr rm tm st = some (.c (.bool .t), obN O [flatR W0] W0 0 (sOK O vl fl 0 W0 a b s t c dr rm tm st) (sOK O vl fl 0 W0 a b s t c dr rm tm st) 0 (fin O fl 0 W0 a b s t c dr rm tm st).row (fin O fl 0 W0 a b s t c dr rm tm st).row (tT O 0 b (fin O fl 0 W0 a b s t c dr rm tm st)) (eqT O (eqR O 0 0 W0 W0) a b s t c)) := by kernel_rfl
set_option maxRecDepth 100000 in
theorem run0_er (O : FOps) (vl : (Nat → Nat) → Bool) (fl : Nat → Nat) (a b : Nat) (s t : Int) (c dr rm tm : Nat) (st : Int) :
    run' O vl fl false hLaw (st0 a b s t c) [] dr rm tm st = some (.c (.bool .t), obNe O [flatR W0] W0 0 (sER O vl fl 0 W0 a b s t c dr rm tm st) (sER O vl fl 0 W0 a b s t c dr rm tm st) (Fst.tER O (yy O vl 0 W0 a b s t c dr rm tm st)) (eqT O (eqR O 0 0 W0 W0) a b s t c)) := by kernel_rfl
theorem obN_ok {C : List Bool} (hC : AllT C) {R : Int → List SC} (hR : Shape ts R) {n : Int} (h0 : 0 ≤ n) (h1 : n ≤ 1048576) {S : List Bool} (hS : AllT S) {Ri : Int → List SC} (hri : Shape ts Ri) {T E : Bool} (hT : T = false) (hE : E = true) : AllT (obN fops C R n S S n Ri Ri T E) := by
  have e := oE_ok hri hri h0 h1
  have x := oE_ok hR hR h0 h1
  have m := oM_ok hR h0 h1
  have m2 := oM_ok hri h0 h1
  have y := oH_ok Ri h0 h1
  have z := oQ_ok h0
  unfold obN
  rw [hT, hE, ng_false h0]
  simp only [AllT.iff_app]
  exact ⟨⟨⟨⟨⟨⟨⟨⟨⟨⟨⟨⟨⟨⟨⟨⟨⟨⟨hC, hS⟩, hC, hS⟩, e⟩, AllT.one rfl⟩, hC⟩, x⟩, AllT.one rfl⟩, m⟩, gdB_ok' e⟩, AllT.one rfl⟩, m2⟩, y⟩, z⟩, hC, hS⟩, e⟩, AllT.one rfl⟩, y⟩, z⟩
theorem obNe_ok {C : List Bool} (hC : AllT C) {R : Int → List SC} (hR : Shape ts R) {n : Int} (h0 : 0 ≤ n) (h1 : n ≤ 1048576) {S : List Bool} (hS : AllT S) {T E : Bool} (hT : T = false) (hE : E = true) : AllT (obNe fops C R n S S T E) := by
  have x := oE_ok hR hR h0 h1
  have m := oM_ok hR h0 h1
  unfold obNe
  rw [hT, hE, ng_false h0]
  simp only [AllT.iff_app]
  exact ⟨⟨⟨⟨⟨⟨⟨⟨⟨⟨hC, hS⟩, hC, hS⟩, AllT.one rfl⟩, hC⟩, x⟩, AllT.one rfl⟩, m⟩, AllT.one rfl⟩, hC, hS⟩, AllT.one rfl⟩
theorem tT_false (n : Int) (b : Nat) (x : S9) : tT fops n b x = false := by
  unfold tT Fst.tOK
  rw [eqT_q, Fst.eq4_true]; rfl
/-- The one or the other. -/
theorem ways {n : Int} {row : Int → List SC} {a b : Nat} {s t : Int} {c dr rm tm : Nat} {st : Int} (h0 : 0 ≤ n) (h1 : n ≤ 1048576) (hsh : Shape ts row) (hs : -128 ≤ s ∧ s ≤ 127) (hd : ∀ (k : Int) (i : Nat), 0 ≤ k → k < n → i < 18 → Cn .f32 (wk (datF row) k i)) :
    (AllT (sOK fops valid flv n row a b s t c dr rm tm st) ∧ Shape ts (fin fops flv n row a b s t c dr rm tm st).row) ∨ AllT (sER fops valid flv n row a b s t c dr rm tm st) := by
  have hf := shape_flat hsh
  have hH : Stc.okH n n s row = true := pB_iff.2 ⟨rfl, h0, h1, hsh, hs, hd⟩
  have er : bF (Kd fops valid n row a b s t c dr rm tm) st (al fops valid flv n row a b s t c dr rm tm st) = true → AllT (sER fops valid flv n row a b s t c dr rm tm st) := fun h => AllT.cons hf (AllT.cons hH (AllT.one h))
  by_cases hK : Kd fops valid n row a b s t c dr rm tm = 0
  · cases hr : Stc.rn st with
    | true => exact .inr (er (by unfold bF; rw [hK, hr]; simp))
    | false =>
      obtain ⟨r1, r2⟩ := Stc.rn_false hr
      have hP : FP n row a b s t c dr rm tm := Fst.fp_of h0 hsh hd hK
      cases hA : al fops valid flv n row a b s t c dr rm tm st with
      | true =>
        have hfin := (fin_ok r1 r2 hP hA).1.sh
        exact .inl ⟨AllT.cons hf (AllT.cons (shape_flat hfin) (AllT.cons (pB_iff.2 ⟨rfl, r1, r2, hP, hK⟩) (AllT.one hA))), hfin⟩
      | false => exact .inr (er (by unfold bF; rw [hK, hr, hA]; simp))
  · exact .inr (er (by unfold bF; simp [hK]))
theorem law_all (F : Nat → Int → Nat) (G : Nat → Int → Int) {n : Int} (h0 : 0 ≤ n) (hmax : n ≤ 9223372036854775807) (a b : Nat) {s : Int} (hs : -128 ≤ s ∧ s ≤ 127) (t : Int) (c dr rm tm : Nat) (st : Int) (hd : ∀ (k : Int) (i : Nat), 0 ≤ k → k < n → i < 18 → Cn .f32 (F i k)) :
    ∃ (h : Bool) (hl : List (Nat × Bool)) (ob : List Bool), run' fops valid flv h hl (stA n a b s t c) [(1, ⟨false, false, .rows 18 n (Row F G)⟩)] dr rm tm st = some (.c (.bool .t), ob) ∧ AllT ob := by
  by_cases hbig : 1048576 < n
  · exact ⟨_, _, _, run_big fops valid flv F G n a b s t c dr rm tm st, AllT.one (lf_big hbig hmax)⟩
  · have h1 : n ≤ 1048576 := by omega
    have hC := oC_ok F G h0 h1
    have hsh := r1_shape F G n
    have hl : AllT [!decide (lf n < 0)] := by rw [lf_small h0 h1]; exact AllT.one rfl
    rcases ways (a := a) (b := b) (t := t) (c := c) (dr := dr) (rm := rm) (tm := tm) (st := st) h0 h1 hsh hs (Fst.cn_R1 hd) with ⟨hS, hfin⟩ | hS
    · exact ⟨_, _, _, run_ok fops valid flv F G n a b s t c dr rm tm st, AllT.app hl (obN_ok hC hsh h0 h1 hS hfin (tT_false _ _ _) (eqT_q _ _ _ _ _ _ _))⟩
    · exact ⟨_, _, _, run_er fops valid flv F G n a b s t c dr rm tm st, AllT.app hl (obNe_ok hC hsh h0 h1 hS (Fst.tE0_false rfl) (eqT_q _ _ _ _ _ _ _))⟩
theorem law_all0 (a b : Nat) {s : Int} (hs : -128 ≤ s ∧ s ≤ 127) (t : Int) (c dr rm tm : Nat) (st : Int) : ∃ (h : Bool) (hl : List (Nat × Bool)) (ob : List Bool), run' fops valid flv h hl (st0 a b s t c) [] dr rm tm st = some (.c (.bool .t), ob) ∧ AllT ob := by
  have hsh : Shape ts W0 := shape_row _ _
  have hC : AllT [flatR W0] := AllT.one (shape_flat hsh)
  rcases ways (a := a) (b := b) (t := t) (c := c) (dr := dr) (rm := rm) (tm := tm) (st := st) (Int.le_refl 0) (by decide) hsh hs (fun k i h0 h1 _ => by omega) with ⟨hS, hfin⟩ | hS
  · exact ⟨_, _, _, run0_ok fops valid flv a b s t c dr rm tm st, obN_ok hC hsh (Int.le_refl 0) (by decide) hS hfin (tT_false _ _ _) (eqT_q _ _ _ _ _ _ _)⟩
  · exact ⟨_, _, _, run0_er fops valid flv a b s t c dr rm tm st, obNe_ok hC hsh (Int.le_refl 0) (by decide) hS (Fst.tE0_false rfl) (eqT_q _ _ _ _ _ _ _)⟩
/-! ### as the law's walk has it -/
def L3 (O : FOps) (vl : (Nat → Nat) → Bool) (h : Bool) : List (Nat × CS) := L3' O vl flv h
set_option maxRecDepth 100000 in
theorem okL3 (h : Bool) : AllOK Try.prog (L3 fops valid h) := okL3' h
end
end Go.Proofs.Ytngdmcbjponlhaa.Fsl
end
