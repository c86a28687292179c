/- The text of a chimney. Nothing is assumed. -/
import Derived.Test.YtaodbpejeglmlaaDoorCtx0
import Derived.Test.YtaodbpejeglmlaaDoorChl
namespace Go.Proofs.YtaodbpejeglmlaaDoor.Ctx
open Go SlFlue Jn Fm Chy Chl
noncomputable section

/-! ### the lines are the same -/
theorem dT_size {n : Int} (h0 : 0 ≤ n) (h1 : n < 10) : (decT n).size = 1 := by
  rw [← dN_eq h0 h1]; rfl
/-- A flue's place: none, or a small one. -/
def Pl (m : Int) : Prop := m = -1 ∨ (0 ≤ m ∧ m < 6)
theorem sd_eq {m : Int} (h : Pl m) : sdI m = sdS m := by
  unfold sdI sdS
  rcases h with rfl | ⟨h0, h1⟩
  · rfl
  · rw [decide_eq_false (by omega), decide_eq_true h0]; rfl
theorem sd_size {m : Int} (h : Pl m) : (sdS m).size = 1 := by
  unfold sdS
  rcases h with rfl | ⟨h0, h1⟩
  · rfl
  · rw [decide_eq_true h0]; exact dT_size h0 (by omega)
theorem p7_size (F : Nat → Int → Nat) (k : Int) : (p7 F k).size = 36 := by
  unfold p7
  simp only [size_app, size_hex]
  rfl
theorem nl_size : nlT.size = 1 := rfl
theorem lnS_size {F : Nat → Int → Nat} {G : Nat → Int → Int} {k : Int} (h : Pl (G 4 k)) : (lnS F G k).size = 38 := by
  unfold lnS
  rw [size_app, size_app, p7_size, sd_size h, nl_size]
theorem jn_eq {F : Nat → Int → Nat} {G : Nat → Int → Int} {k : Int} (h : Pl (G 4 k)) : Jn.joinT (lnL F G k) spT = p7 F k ++ sdS (G 4 k) := by
  refine ba_ext ?_
  rw [joinT_data]
  unfold lnL p7
  rw [sd_eq h]
  simp only [data_app, List.map_cons, List.map_nil, Go.Lib.join, List.intercalate, List.intersperse, List.flatten_cons, List.flatten_nil, List.append_nil, List.append_assoc]
theorem ln_eq {F : Nat → Int → Nat} {G : Nat → Int → Int} {k : Int} (h : Pl (G 4 k)) : lnI F G k = lnS F G k := by
  unfold lnI lnS
  rw [jn_eq h]
theorem jnOk {F : Nat → Int → Nat} {G : Nat → Int → Int} {k : Int} (h : Pl (G 4 k)) : Jn.joinOk (lnL F G k) spT = true := by
  refine decide_eq_true ⟨by simp [lnL], ?_⟩
  have e : (Go.Lib.join ((lnL F G k).map (·.data.toList)) spT.data.toList) = (p7 F k ++ sdS (G 4 k)).data.toList := by
    rw [← jn_eq h, ← joinT_data]
  rw [e]
  have : (p7 F k ++ sdS (G 4 k)).data.toList.length = (p7 F k ++ sdS (G 4 k)).size := rfl
  rw [this, size_app, p7_size, sd_size h]
  decide
/-- The text of the flues before the place 'i'. -/
def txt (F : Nat → Int → Nat) (G : Nat → Int → Int) : Nat → ByteArray
  | 0 => eT
  | i + 1 => txt F G i ++ lnS F G i
theorem txt_size {F : Nat → Int → Nat} {G : Nat → Int → Int} : ∀ {i : Nat}, (∀ k : Int, 0 ≤ k → k < i → Pl (G 4 k)) → (txt F G i).size = 38 * i
  | 0, _ => rfl
  | i + 1, h => by
    show (txt F G i ++ lnS F G i).size = _
    rw [size_app, txt_size (fun k h0 h1 => h k h0 (by omega)), lnS_size (h i (by omega) (by omega))]; omega
/-! ### the loops -/
def Al (G : Nat → Int → Int) (n : Int) : Prop := n ≤ 6 ∧ ∀ k, 0 ≤ k → k < n → Pl (G 4 k)
theorem loI (F : Nat → Int → Nat) (G : Nat → Int → Int) {n : Int} (ha : Al G n) : ∀ (m : Nat) (k : Nat), (k : Int) + m = n →
    Loops (cxC fops) NI (fun _ => none) (bodyOf Tryd.f19 3) 2 60 Ik (ID F G n k (txt F G k)) (.exit 0) Ie [.s (txt F G n.toNat)] := by
  intro m
  induction m with
  | zero =>
    intro k hkn
    have e : n = k := by omega
    subst e
    exact .done (ρ := []) (Ib fops F G k k (txt F G k)) (AllT.one' (by simp))
  | succ m ih =>
    intro k hkn
    have hp := ha.2 k (by omega) (by omega)
    have i1 := ih (k + 1) (by omega)
    have hA := Ia fops F G n k (txt F G k)
    rw [wrap_succ (by omega) (by have := ha.1; omega), ln_eq hp] at hA
    have hs := txt_size (F := F) (i := k) (fun j h0 h1 => ha.2 j h0 (by omega))
    have h6 := ha.1
    have b1 : inb n k = true := decide_eq_true (by omega)
    have hob : AllT (obI F G n k (txt F G k)) := by
      unfold obI
      rw [jnOk hp, jn_eq hp, ln_eq hp]
      refine AllT.cons (decide_eq_true (by omega)) (AllT.cons b1 (AllT.cons b1 (AllT.cons ?_ (AllT.cons rfl (AllT.cons (sm_ok ?_) (AllT.cons (sm_ok ?_) (AllT.one' (rowK_flat _ _ _))))))))
      · rcases hp with h | ⟨h1, h2⟩
        · rw [h]; rfl
        · rw [decide_eq_true (show 0 ≤ G 4 k ∧ G 4 k < 100 by omega), Bool.or_true]
      · rw [size_app, p7_size, sd_size hp, nl_size]; omega
      · rw [hs, lnS_size hp]; omega
    exact .step (ρ := []) hA hob i1
theorem loS (F : Nat → Int → Nat) (G : Nat → Int → Int) {n : Int} (ha : Al G n) : ∀ (m : Nat) (k : Nat), (k : Int) + m = n →
    Loops (cxC fops) NS (fun _ => none) (bodyOf Tryd.f16 3) 2 60 Sk' (SD F G n k (txt F G k)) (.exit 0) Ie [.s (txt F G n.toNat)] := by
  intro m
  induction m with
  | zero =>
    intro k hkn
    have e : n = k := by omega
    subst e
    exact .done (ρ := []) (Sb fops F G k k (txt F G k)) (AllT.one' (by simp))
  | succ m ih =>
    intro k hkn
    have hp := ha.2 k (by omega) (by omega)
    have i1 := ih (k + 1) (by omega)
    have hA := Sa fops F G n k (txt F G k)
    rw [wrap_succ (by omega) (by have := ha.1; omega)] at hA
    have hs := txt_size (F := F) (i := k) (fun j h0 h1 => ha.2 j h0 (by omega))
    have h6 := ha.1
    have b1 : inb n k = true := decide_eq_true (by omega)
    have hob : AllT (obS F G n k (txt F G k)) := by
      have e1 : (!decide (0 ≤ G 4 k) || decide (0 ≤ G 4 k ∧ G 4 k < 10)) = true := by
        rcases hp with h | ⟨h1, h2⟩
        · rw [h]; rfl
        · rw [decide_eq_true (show 0 ≤ G 4 k ∧ G 4 k < 10 by omega), Bool.or_true]
      have e2 : sm (p7 F k) (sdS (G 4 k)) = true := sm_ok (by rw [p7_size, sd_size hp]; omega)
      have e3 : sm (p7 F k ++ sdS (G 4 k)) nlT = true := sm_ok (by rw [size_app, p7_size, sd_size hp, nl_size]; omega)
      have e4 : sm (txt F G k) (lnS F G k) = true := sm_ok (by rw [hs, lnS_size hp]; omega)
      unfold obS
      rw [e1, e2, e3, e4, b1, Bool.or_true, rowK_flat, decide_eq_true (show (k : Int) < n by omega)]
      intro b hb
      simp at hb
      exact hb
    exact .step (ρ := []) hA hob i1
def txtR (n : Int) (row : Int → List SC) : ByteArray := txt (datF row) (datG row) n.toNat
def IP (s : ByteArray) (l n k N : Int) (row : Int → List SC) : Prop := s = eT ∧ l = n ∧ k = 0 ∧ N = n ∧ 0 ≤ n ∧ Shape ts row ∧ Al (datG row) n
noncomputable def IF : List LD → Option (XO × List Bool)
  | [.s s, .i n, .i l, .i k, .i N, .r row] => some ([(.t, .exit 0, Ie, [.s (txtR n row)])], [pB (IP s l n k N row)])
  | _ => none
noncomputable def IL (O : FOps) : List Ly → Top → Option Outs := orIter (cxC O) NI (bodyOf Tryd.f19 3) (loopL NI 2 60 Ik [] IF)
theorem IL_ok : CodeOK Tryd.prog NI (.loop (bodyOf Tryd.f19 3)) (IL fops) := by
  refine orIter_ok (l := Lc) okLc mixed 8 (loopL_ok (cx := cxC fops) (lp := fun _ => none) (fun ts => body_ok (l := Lc) okLc mixed 8 _ ts) fun p r hr hob => ?_)
  unfold IF at hr
  split at hr <;> cases hr
  rename_i s n l k N row
  obtain ⟨rfl, rfl, rfl, rfl, h0, hs, ha⟩ := pB_iff.1 hob.head
  have hs1 : Row (datF row) (datG row) = row := hs.symm
  have h := loI (datF row) (datG row) ha N.toNat 0 (by omega)
  unfold ID at h
  rw [hs1] at h
  exact ⟨.exit 0, Ie, _, rfl, h⟩
noncomputable def SF : List LD → Option (XO × List Bool)
  | [.i n, .s s, .i k, .i N, .r row] => some ([(.t, .exit 0, Ie, [.s (txtR n row)])], [pB (IP s n n k N row)])
  | _ => none
noncomputable def SL (O : FOps) : List Ly → Top → Option Outs := orIter (cxC O) NS (bodyOf Tryd.f16 3) (loopL NS 2 60 Sk' [] SF)
theorem SL_ok : CodeOK Tryd.prog NS (.loop (bodyOf Tryd.f16 3)) (SL fops) := by
  refine orIter_ok (l := Lc) okLc mixed 8 (loopL_ok (cx := cxC fops) (lp := fun _ => none) (fun ts => body_ok (l := Lc) okLc mixed 8 _ ts) fun p r hr hob => ?_)
  unfold SF at hr
  split at hr <;> cases hr
  rename_i n s k N row
  obtain ⟨rfl, _, rfl, rfl, h0, hs, ha⟩ := pB_iff.1 hob.head
  have hs1 : Row (datF row) (datG row) = row := hs.symm
  have h := loS (datF row) (datG row) ha N.toNat 0 (by omega)
  unfold SD at h
  rw [hs1] at h
  exact ⟨.exit 0, Ie, _, rfl, h⟩
theorem cI0 : CallOK Tryd.prog 19 (inl (cxC fops) Tryd.f19 ⟨fun _ => none, lpOf [(3, IL fops)]⟩) := by
  have hb : Tryd.f19.body.isSome = true := by kernel_rfl
  obtain ⟨c, hc⟩ := Option.isSome_iff_exists.1 hb
  have h1 : (match Tryd.f19.body with | some c => onceB (loopsIn c) && (match loopAt 3 (loopsIn c) with | some _ => true | none => false) | none => false) = true := by kernel_rfl
  rw [hc] at h1
  simp only [Bool.and_eq_true] at h1
  exact inlL_of (l := Lc) (ls := [(3, IL fops)]) okLc mixed 8 Tryd.func19 (by kernel_rfl) (fun _ => none) hc h1.1 ⟨⟨_, bodyOf_at hc h1.2, IL_ok⟩, trivial⟩
theorem cS0 : CallOK Tryd.prog 16 (inl (cxC fops) Tryd.f16 ⟨fun _ => none, lpOf [(3, SL fops)]⟩) := by
  have hb : Tryd.f16.body.isSome = true := by kernel_rfl
  obtain ⟨c, hc⟩ := Option.isSome_iff_exists.1 hb
  have h1 : (match Tryd.f16.body with | some c => onceB (loopsIn c) && (match loopAt 3 (loopsIn c) with | some _ => true | none => false) | none => false) = true := by kernel_rfl
  rw [hc] at h1
  simp only [Bool.and_eq_true] at h1
  exact inlL_of (l := Lc) (ls := [(3, SL fops)]) okLc mixed 8 Tryd.func16 (by kernel_rfl) (fun _ => none) hc h1.1 ⟨⟨_, bodyOf_at hc h1.2, SL_ok⟩, trivial⟩
set_option maxRecDepth 100000 in
theorem I_run (O : FOps) (f w o : Bool) (n N : Int) (row : Int → List SC) : roS (inl (cxC O) Tryd.f19 ⟨fun _ => none, lpOf [(3, IL O)]⟩) 2 [.c (.sl 1 0 5 (.s n) f)] [(1, ⟨w, o, .rows 5 N row⟩)] =
    some ⟨.c (.str (txtR n row)), [], 60, [flatR row, pB (IP eT n n 0 N row)]⟩ := by kernel_rfl
set_option maxRecDepth 100000 in
theorem S_run (O : FOps) (f w o : Bool) (n N : Int) (row : Int → List SC) : roS (inl (cxC O) Tryd.f16 ⟨fun _ => none, lpOf [(3, SL O)]⟩) 2 [.c (.sl 1 0 5 (.s n) f)] [(1, ⟨w, o, .rows 5 N row⟩)] =
    some ⟨.c (.str (txtR n row)), [], 60, [flatR row, pB (IP eT n n 0 N row)]⟩ := by kernel_rfl
def okA (n N : Int) (row : Int → List SC) : Bool := pB (N = n ∧ 0 ≤ n ∧ Shape ts row ∧ Al (datG row) n)
noncomputable def tH : CS := fun base args rd => match args with
  | [.c (.sl i o es (.s n) _)] => match rd with
    | [(j, ⟨_, _, .rows st N row⟩)] => match Nat.beq base 2 && (Nat.beq i 1 && (Nat.beq o 0 && (Nat.beq es 5 && (Nat.beq j 1 && Nat.beq st 5)))) with
      | true => some ⟨.c (.str (txtR n row)), [], 60, [okA n N row]⟩
      | false => none
    | _ => none
  | _ => none
noncomputable def tC : CS := canS tH
set_option maxRecDepth 100000 in
theorem cTI : CallOK Tryd.prog 19 tC :=
  (CallOK.hand (H := tH) cI0.ro fun b args rd e h hob => by
    unfold tH at h
    split at h <;> try (cases h; done)
    rename_i i o es n f
    split at h <;> try (cases h; done)
    rename_i j w p st N row
    split at h <;> cases h
    rename_i hc
    simp only [Bool.and_eq_true, beqN] at hc
    obtain ⟨rfl, rfl, rfl, rfl, rfl, rfl⟩ := hc
    obtain ⟨rfl, h0, hs, ha⟩ := pB_iff.1 hob.head
    exact ⟨_, I_run fops f w p N N row, AllT.cons (shape_flat hs) (AllT.one (pB_iff.2 ⟨rfl, rfl, rfl, rfl, h0, hs, ha⟩))⟩).can
set_option maxRecDepth 100000 in
theorem cTS : CallOK Tryd.prog 16 tC :=
  (CallOK.hand (H := tH) cS0.ro fun b args rd e h hob => by
    unfold tH at h
    split at h <;> try (cases h; done)
    rename_i i o es n f
    split at h <;> try (cases h; done)
    rename_i j w p st N row
    split at h <;> cases h
    rename_i hc
    simp only [Bool.and_eq_true, beqN] at hc
    obtain ⟨rfl, rfl, rfl, rfl, rfl, rfl⟩ := hc
    obtain ⟨rfl, h0, hs, ha⟩ := pB_iff.1 hob.head
    exact ⟨_, S_run fops f w p N N row, AllT.cons (shape_flat hs) (AllT.one (pB_iff.2 ⟨rfl, rfl, rfl, rfl, h0, hs, ha⟩))⟩).can
/-! ### the law -/
/-- What a valid chimney's flues lead into. -/
theorem al_of {n : Int} {row : Int → List SC} (h : vC fops n row = true) : Al (datG row) n := by
  obtain ⟨h1, h6⟩ := vC_six h
  refine ⟨h6, fun k k0 k1 => ?_⟩
  unfold vC vC' at h
  cases hr : rgI n with
  | true => rw [hr] at h; cases h
  | false =>
    rw [hr] at h
    have he : eqFrom (qC fops n (datF row) (datG row)) 0 n.toNat = true := by
      cases hq : eqFrom (qC fops n (datF row) (datG row)) 0 n.toNat with
      | true => rfl
      | false => rw [hq] at h; cases h
    have hk := eqFrom_at he k k0 (by omega)
    unfold qC at hk
    cases hf : fk fops (datF row) k with
    | false => rw [hf] at hk; cases hk
    | true =>
      rw [hf] at hk
      by_cases hm : datG row 4 k = -1
      · exact .inl hm
      · right
        rw [decide_eq_false hm] at hk
        simp only [cond_true, cond_false, Bool.not_eq_true'] at hk
        unfold bI at hk
        by_cases g0 : datG row 4 k < 0
        · rw [decide_eq_true g0] at hk; cases hk
        · by_cases g1 : n ≤ datG row 4 k
          · rw [decide_eq_false g0, decide_eq_true g1] at hk; cases hk
          · exact ⟨by omega, by omega⟩
noncomputable def LX (O : FOps) : List (Nat × CS) := [(46, amtS), (38, amtS), (7, toC O), (9, eqC O), (18, vIC O), (15, vSC O), (19, tC), (16, tC)]
set_option maxRecDepth 100000 in
theorem okLX : AllOK Tryd.prog (LX fops) := ⟨cAmtI, cAmtL, cToC, cEqC, cVI, cVS, cTI, cTS, trivial⟩
noncomputable def cxX (O : FOps) : Cx := ⟨Tryd.prog, O, orcN Tryd.prog O (LX O) 8⟩
noncomputable def hX : List (Nat × Bool) := [(11, false), (21, false), (26, false)]
noncomputable def runX (O : FOps) (hl : List (Nat × Bool)) (v : SV) (rd : List (Nat × Seg)) : Option (SV × List Bool) := rE 2 (inl (cxX O) Tryd.f3 ⟨hints hl, fun _ => none⟩ 2 [v] rd)
def oT (n : Int) (row : Int → List SC) (v : Bool) : List Bool := [flatR row, okN n n row] ++ gdB (!v) [flatR row, okA n n row]
def X (n : Int) (row : Int → List SC) (v : Bool) : List UInt8 := (bif !v then eT else txtR n row).toList
def obX (O : FOps) (F : Nat → Int → Nat) (G : Nat → Int → Int) (n : Int) (v : Bool) : List Bool :=
  [!decide (lf n < 0)] ++ (oC F G n ++ oT n (R1 F G n) v) ++ (oC F G n ++ oT n (R1 F G n) v) ++ [!!(X n (R1 F G n) v == X n (R1 F G n) v)] ++ oC F G n ++ oE n (R1 F G n) (R1 F G n) ++ [!!eqR O n n (R1 F G n) (R1 F G n)]
set_option maxRecDepth 100000 in
theorem runX_ok (O : FOps) (F : Nat → Int → Nat) (G : Nat → Int → Int) (n : Int) : runX O hX (chA 1 n) [(1, ⟨false, false, .rows 5 n (Row F G)⟩)] = some (.c (.bool .t), obX O F G n (vC O n (R1 F G n))) := by kernel_rfl
set_option maxRecDepth 100000 in
theorem runX_big (O : FOps) (F : Nat → Int → Nat) (G : Nat → Int → Int) (n : Int) : runX O [(11, true)] (chA 1 n) [(1, ⟨false, false, .rows 5 n (Row F G)⟩)] = some (.c (.bool .t), [decide (lf n < 0)]) := by kernel_rfl
set_option maxRecDepth 100000 in
theorem runX0 (O : FOps) : runX O hX (ch0 1) [] = some (.c (.bool .t), [true]) := by kernel_rfl
theorem allX (F : Nat → Int → Nat) (G : Nat → Int → Int) {n : Int} (h0 : 0 ≤ n) (hmax : n ≤ 9223372036854775807) : ∃ hl ob, runX fops hl (chA 1 n) [(1, ⟨false, false, .rows 5 n (Row F G)⟩)] = some (.c (.bool .t), ob) ∧ AllT ob := by
  by_cases hbig : 1048576 < n
  · exact ⟨_, _, runX_big fops F G n, AllT.one (lf_big hbig hmax)⟩
  · have h1 : n ≤ 1048576 := by omega
    have c := oC_ok F G h0 h1
    have sh := r1_shape F G n
    have v : AllT (oT n (R1 F G n) (vC fops n (R1 F G n))) := by
      unfold oT
      refine AllT.app (AllT.cons (shape_flat sh) (AllT.one (pB_iff.2 ⟨rfl, h0, h1, sh⟩))) (gdB_ok fun hv => ?_)
      have hv' : vC fops n (R1 F G n) = true := by simpa using hv
      exact AllT.cons (shape_flat sh) (AllT.one (pB_iff.2 ⟨rfl, h0, sh, al_of hv'⟩))
    have e := oE_ok (r1_shape F G n) (r1_shape F G n) h0 h1
    refine ⟨_, _, runX_ok fops F G n, ?_⟩
    unfold obX
    rw [lf_small h0 h1, eqR_self]
    simp only [AllT.iff_app]
    exact ⟨⟨⟨⟨⟨⟨AllT.one rfl, c, v⟩, c, v⟩, AllT.one (by simp)⟩, c⟩, e⟩, AllT.one rfl⟩
end
end Go.Proofs.YtaodbpejeglmlaaDoor.Ctx
