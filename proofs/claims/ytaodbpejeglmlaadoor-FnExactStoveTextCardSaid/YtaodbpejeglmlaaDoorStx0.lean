/- The text of a stove: its parts, and the rounds. Nothing is assumed. -/
import Derived.Test.YtaodbpejeglmlaaDoorSto
import Derived.Test.YtaodbpejeglmlaaDoorVlg
import Derived.Test.YtaodbpejeglmlaaDoorJc
import Derived.Test.YtaodbpejeglmlaaDoorFm
import Derived.Test.YtaodbpejeglmlaaDoorGl
namespace Go.Proofs.YtaodbpejeglmlaaDoor.Stx
open Go SlWood Stv Sto Jn Fm Wt
noncomputable section

/-! ### Decimal -/
def gSo (G : List SV → Option (SV × List Bool)) : CS := fun base args rd => match rd with
  | [] => match G args with
    | some r => some ⟨r.1, [], base, r.2⟩
    | none => none
  | _ :: _ => none
theorem gSo_ok {P : Program} {f : FuncId} {G0 : List SV → Option SV} (h : CallOK P f (gS G0)) {G : List SV → Option (SV × List Bool)} (hG : ∀ args r, G args = some r → AllT r.2 → G0 args = some r.1) : CallOK P f (gSo G) :=
  CallOK.hand h fun b args rd e he hob => by
    unfold gSo at he
    split at he <;> try (cases he; done)
    split at he <;> cases he
    rename_i r hr
    refine ⟨[], ?_, AllT.nil⟩
    unfold gS
    simp only [hG args r hr hob]
def dG (M : Int) : List SV → Option (SV × List Bool)
  | [.c (.int .i64 (.s n))] => some (.c (.str (decT n)), [decide (0 ≤ n ∧ n < M)])
  | _ => none
def dG0 (M : Int) : List SV → Option SV
  | [.c (.int .i64 (.s n))] => if 0 ≤ n ∧ n < M then some (.c (.str (decT n))) else none
  | _ => none
def dN (n : Int) : ByteArray := bytesL [IntKind.u8.wrap (IntKind.i64.wrap (48 + n))]
def dQ (n : Int) : Int := IntKind.i64.wrap (n.tdiv 10)
def LDc (M : Int) : List (Nat × CS) := [(31, gSo (dG M))]
def dO (n M : Int) : List Bool := gdB (!decide (10 ≤ n)) [true, decide (0 ≤ dQ n ∧ dQ n < M), true, sm (decT (dQ n)) (dN (n.tmod 10))]
set_option maxRecDepth 100000 in
theorem dec_run (O : FOps) (M n : Int) : rE 1 (inl ⟨Tryd.prog, O, orcN Tryd.prog O (LDc M) 8⟩ Tryd.f31 ⟨fun _ => none, fun _ => none⟩ 1 [.c (.int .i64 (.s n))] []) =
    some (.c (.str (bif decide (10 ≤ n) then decT (dQ n) ++ dN (n.tmod 10) else dN n)), dO n M) := by kernel_rfl
/-! ### StateName -/
def snT (n : Int) : ByteArray := bif decide (n = 0) then ⟨#[99, 111, 108, 100]⟩ else bif decide (n = 1) then ⟨#[107, 105, 110, 100, 108, 101, 100]⟩ else bif decide (n = 2) then ⟨#[98, 117, 114, 110, 105, 110, 103]⟩ else ⟨#[101, 109, 98, 101, 114, 115]⟩
def in4 (n : Int) : Bool := decide (0 ≤ n ∧ n < 4)
def W64 (n : Int) : Int := IntKind.i64.wrap n
set_option maxRecDepth 100000 in
theorem snI_run (O : FOps) (n : Int) : rE 1 (inl ⟨Tryd.prog, O, orcN Tryd.prog O [] 8⟩ Tryd.f47 ⟨hints [(11, false)], fun _ => none⟩ 1 [.c (.int .i8 (.s n))] []) =
    some (.c (.str (snT n)), [!(bif decide (n < 0) then true else decide (4 ≤ W64 n)), in4 n]) := by kernel_rfl
set_option maxRecDepth 100000 in
theorem snS_run (O : FOps) (n : Int) : rE 1 (inl ⟨Tryd.prog, O, orcN Tryd.prog O [] 8⟩ Tryd.f40 ⟨hints [(6, false)], fun _ => none⟩ 1 [.c (.int .i8 (.s n))] []) =
    some (.c (.str (snT n)), [!!(bif decide (0 ≤ W64 n) then decide (W64 n ≤ 3) else false), in4 n]) := by kernel_rfl
/-! ### a log's text -/
def Lw0 : List (Nat × CS) := [(35, gS hexG), (32, gS hexG), (34, Jn.joinS)]
set_option maxRecDepth 100000 in
theorem okLw0 : AllOK Tryd.prog Lw0 := ⟨cHexI, cHexS, Jn.cJoin, trivial⟩
def logT : ByteArray := ⟨#[108, 111, 103]⟩
def wtL (w : Nat → Nat) : List ByteArray := [logT, hexT (w 0), hexT (w 6), hexT (w 12), hexT (w 1), hexT (w 7), hexT (w 13), hexT (w 2), hexT (w 8), hexT (w 14), hexT (w 3), hexT (w 9), hexT (w 15), hexT (w 4), hexT (w 10), hexT (w 16), hexT (w 5), hexT (w 11), hexT (w 17)]
def wtI (w : Nat → Nat) : ByteArray := Jn.joinT (wtL w) spT
/-- Three numbers, each behind a blank. -/
def cat3 (a b c : ByteArray) : ByteArray := ((((spT ++ a) ++ spT) ++ b) ++ spT) ++ c
/-- The text with the layers before 'i'. -/
def wtU (w : Nat → Nat) : Nat → ByteArray
  | 0 => logT
  | i + 1 => wtU w i ++ cat3 (hexT (w i)) (hexT (w (i + 6))) (hexT (w (i + 12)))
def wtO (w : Nat → Nat) (i : Nat) : List Bool :=
  [sm spT (hexT (w i)), sm (spT ++ hexT (w i)) spT, sm ((spT ++ hexT (w i)) ++ spT) (hexT (w (i + 6))), sm (((spT ++ hexT (w i)) ++ spT) ++ hexT (w (i + 6))) spT,
   sm ((((spT ++ hexT (w i)) ++ spT) ++ hexT (w (i + 6))) ++ spT) (hexT (w (i + 12))), sm (wtU w i) (cat3 (hexT (w i)) (hexT (w (i + 6))) (hexT (w (i + 12))))]
def wtOs (w : Nat → Nat) : List Bool := wtO w 0 ++ (wtO w 1 ++ (wtO w 2 ++ (wtO w 3 ++ (wtO w 4 ++ wtO w 5))))
set_option maxRecDepth 100000 in
theorem wI_run (O : FOps) (w : Nat → Nat) : rE 1 (inl ⟨Tryd.prog, O, orcN Tryd.prog O Lw0 8⟩ Tryd.f49 ⟨fun _ => none, fun _ => none⟩ 1 [wd w] []) =
    some (.c (.str (wtI w)), [Jn.joinOk (wtL w) spT]) := by kernel_rfl
set_option maxRecDepth 100000 in
theorem wS_run (O : FOps) (w : Nat → Nat) : rE 2 (inl ⟨Tryd.prog, O, orcN Tryd.prog O Lw0 8⟩ Tryd.f41 ⟨fun _ => none, fun _ => none⟩ 2 [.c (.ptr 1 0)] [(1, ⟨false, false, .cells (wdL w)⟩)]) =
    some (.c (.str (wtU w 6)), wtOs w) := by kernel_rfl
theorem size_cat (a b c : Nat) : (cat3 (hexT a) (hexT b) (hexT c)).size = 27 := by
  unfold cat3
  simp only [size_app, size_hex]
  rfl
theorem size_U (w : Nat → Nat) : ∀ i, (wtU w i).size = 3 + 27 * i
  | 0 => rfl
  | i + 1 => by
    show (wtU w i ++ cat3 _ _ _).size = _
    rw [size_app, size_U w i, size_cat]; omega
theorem wtO_ok (w : Nat → Nat) {i : Nat} (hi : i < 6) : AllT (wtO w i) := by
  have h1 : spT.size = 1 := rfl
  refine AllT.cons (sm_ok ?_) (AllT.cons (sm_ok ?_) (AllT.cons (sm_ok ?_) (AllT.cons (sm_ok ?_) (AllT.cons (sm_ok ?_) (AllT.cons (sm_ok ?_) AllT.nil)))))
  all_goals simp only [size_app, size_hex, size_cat, size_U, h1]
  all_goals omega
theorem wtOs_ok (w : Nat → Nat) : AllT (wtOs w) :=
  AllT.app (wtO_ok w (by decide)) (AllT.app (wtO_ok w (by decide)) (AllT.app (wtO_ok w (by decide)) (AllT.app (wtO_ok w (by decide)) (AllT.app (wtO_ok w (by decide)) (wtO_ok w (by decide))))))
theorem wt_eq (w : Nat → Nat) : wtI w = wtU w 6 := by
  refine ba_ext ?_
  unfold wtI
  rw [joinT_data]
  simp only [wtU, cat3, data_app, wtL, List.map_cons, List.map_nil, Go.Lib.join, List.intercalate, List.intersperse, List.flatten_cons, List.flatten_nil, List.append_nil, List.append_assoc]
theorem joinOk_ok (w : Nat → Nat) : Jn.joinOk (wtL w) spT = true := by
  refine decide_eq_true ⟨by simp [wtL], ?_⟩
  have h : (Go.Lib.join ((wtL w).map (·.data.toList)) spT.data.toList) = (wtU w 6).data.toList := by
    rw [← wt_eq, ← joinT_data]; rfl
  rw [h]
  have : (wtU w 6).data.toList.length = (wtU w 6).size := rfl
  rw [this, size_U]; omega
def wG : List SV → Option SV
  | [v] => match wdOf v with
    | some w => some (.c (.str (wtU w 6)))
    | none => none
  | _ => none
set_option maxRecDepth 100000 in
theorem cWI : CallOK Tryd.prog 49 (gS wG) :=
  gS_of2 (inlN_of (l := Lw0) okLw0 mixed 8 Tryd.func49 (by kernel_rfl) (fun _ => none)) fun args r E vals hG hr => by
    unfold wG at hG
    split at hG <;> try (cases hG; done)
    split at hG <;> cases hG
    rename_i w hw
    rw [wdOf_ok hw]
    refine ⟨rfl, _, _, wI_run fops w, rfl, AllT.one' (joinOk_ok w), ?_⟩
    rw [wt_eq]; exact fun E v hv => hv
set_option maxRecDepth 100000 in
theorem cWS : CallOK Tryd.prog 41 (gQ [.p 18] wG) :=
  gQ_of2 (inlN_of (l := Lw0) okLw0 mixed 8 Tryd.func41 (by kernel_rfl) (fun _ => none)) fun dl r E hG hv => by
    unfold wG at hG
    split at hG <;> try (cases hG; done)
    split at hG <;> cases hG
    rename_i w hw
    rw [wdOf_ok hw]
    exact ⟨_, _, wS_run fops w, rfl, wtOs_ok w, fun _ _ h => h⟩
/-! ### the laws of Decimal and StateName -/
theorem dN_data {d : Nat} (h : d < 10) : (dN (d : Int)).data.toList = [UInt8.ofNat (48 + d)] := by
  match d, h with
  | 0, _ | 1, _ | 2, _ | 3, _ | 4, _ | 5, _ | 6, _ | 7, _ | 8, _ | 9, _ => decide +kernel
theorem dQ_eq {u : Nat} (h : u < 1000000000) : dQ (u : Int) = ((u / 10 : Nat) : Int) := by
  unfold dQ
  rw [show (u : Int).tdiv 10 = ((u / 10 : Nat) : Int) from (Int.ofNat_tdiv u 10).symm]
  exact Sto.wrap_in (by omega) (by omega)
theorem dec_eq {u : Nat} (h : u < 1000000000) : (bif decide (10 ≤ (u : Int)) then decT (dQ u) ++ dN ((u : Int).tmod 10) else dN u) = decT u := by
  refine ba_ext ?_
  have hd : (decT (u : Int)).data.toList = Go.Lib.decDigits u := by simp [decT]
  rw [hd]
  by_cases h10 : u < 10
  · rw [decide_eq_false (by omega)]
    show (dN (u : Int)).data.toList = _
    rw [dN_data h10, Go.Lib.decDigits, dif_pos h10]
  · rw [decide_eq_true (by omega)]
    show (decT (dQ u) ++ dN ((u : Int).tmod 10)).data.toList = _
    rw [data_app, dQ_eq h, show (u : Int).tmod 10 = ((u % 10 : Nat) : Int) from (Int.ofNat_tmod u 10).symm, dN_data (Nat.mod_lt _ (by decide))]
    have hq : (decT ((u / 10 : Nat) : Int)).data.toList = Go.Lib.decDigits (u / 10) := by
      show (Go.Lib.decDigits (((u / 10 : Nat) : Int)).toNat).toArray.toList = _
      rw [Int.toNat_natCast]
    rw [hq]
    conv => rhs; rw [Go.Lib.decDigits, dif_neg h10]
theorem nD_le : ∀ (k : Nat) {u : Nat}, u < 10 ^ (k + 1) → Go.Lib.nDigits u ≤ k + 1
  | 0, u, h => by rw [Go.Lib.nDigits_small (by simpa using h)]; omega
  | k + 1, u, h => by
    by_cases h10 : u < 10
    · rw [Go.Lib.nDigits_small h10]; omega
    · rw [Go.Lib.nDigits_big h10]
      have := nD_le k (u := u / 10) (by rw [Nat.pow_succ] at h; omega)
      omega
theorem decT_size {n : Int} (h0 : 0 ≤ n) (h1 : n < 10000000) : (decT n).size ≤ 7 := by
  have e : (decT n).size = (Go.Lib.decDigits n.toNat).length := by simp [decT, ByteArray.size]
  rw [e, Go.Lib.decDigits_length]
  exact nD_le 6 (by omega)
theorem dN_size (n : Int) : (dN n).size = 1 := rfl
theorem dO_ok {u : Nat} {M : Int} (h : u < 1000000000) (hM : 10 ≤ u → ((u / 10 : Nat) : Int) < M) : AllT (dO (u : Int) M) := by
  refine gdB_ok fun hg => ?_
  have h10 : 10 ≤ (u : Int) := by simpa using hg
  rw [dQ_eq h]
  have hs : sm (decT ((u / 10 : Nat) : Int)) (dN ((u : Int).tmod 10)) = true := by
    refine decide_eq_true ?_
    have e : (decT ((u / 10 : Nat) : Int)).size = Go.Lib.nDigits (u / 10) := by
      rw [← Go.Lib.decDigits_length]
      show (Go.Lib.decDigits (((u / 10 : Nat) : Int)).toNat).toArray.size = _
      rw [Int.toNat_natCast]; simp
    have := nD_le 8 (u := u / 10) (by omega)
    rw [e, dN_size]; omega
  exact AllT.cons rfl (AllT.cons (decide_eq_true ⟨by omega, hM (by omega)⟩) (AllT.cons rfl (AllT.one' hs)))
theorem dec_of {P : Prop} (l : List (Nat × CS)) (M0 M : Int) (hl : l = LDc M0) (hok : AllOK Tryd.prog l) (hM : M ≤ 1000000000) (hM0 : ∀ u : Nat, (u : Int) < M → 10 ≤ u → ((u / 10 : Nat) : Int) < M0) : CallOK Tryd.prog 31 (gSo (dG M)) := by
  subst hl
  refine gSo_ok (G0 := dG0 M) (gS_of2 (inlN_of (l := LDc M0) hok mixed 8 Tryd.func31 (by kernel_rfl) (fun _ => none)) fun args r E vals hG hr => ?_) fun args r hr hob => ?_
  · unfold dG0 at hG
    split at hG <;> try (cases hG; done)
    rename_i n
    split at hG <;> cases hG
    rename_i hn
    obtain ⟨u, rfl⟩ := Int.eq_ofNat_of_zero_le hn.1
    refine ⟨rfl, _, _, dec_run fops M0 u, rfl, dO_ok (by omega) (hM0 u hn.2), ?_⟩
    rw [dec_eq (by omega)]
    exact fun E v hv => hv
  · unfold dG at hr
    split at hr <;> cases hr
    unfold dG0
    exact if_pos (of_decide_eq_true hob.head)
/-- No number is small enough. -/
theorem cDec0 : CallOK Tryd.prog 31 (gSo (dG 0)) :=
  gSo_ok (G0 := fun _ => none) (gS_of2 (inlN_of (l := []) trivial mixed 8 Tryd.func31 (by kernel_rfl) (fun _ => none)) fun args r E vals hG hr => by cases hG) fun args r hr hob => by
    unfold dG at hr
    split at hr <;> cases hr
    have := of_decide_eq_true hob.head
    omega
theorem cDecK : ∀ k : Nat, k ≤ 8 → CallOK Tryd.prog 31 (gSo (dG ((10 : Int) ^ (k + 1))))
  | 0, _ => dec_of (P := True) (LDc 0) 0 10 rfl ⟨cDec0, trivial⟩ (by decide) (fun u h1 h2 => by omega)
  | k + 1, hk => by
    have hp : ((10 : Int) ^ (k + 1 + 1)) = 10 * 10 ^ (k + 1) := by rw [Int.pow_succ]; omega
    have hle : ((10 : Int) ^ (k + 1 + 1)) ≤ 1000000000 := by
      have h1 : (10 : Nat) ^ (k + 1 + 1) ≤ 10 ^ 9 := Nat.pow_le_pow_right (by decide) (by omega)
      have h2 : ((10 : Int) ^ (k + 1 + 1)) = (((10 : Nat) ^ (k + 1 + 1) : Nat) : Int) := by simp
      rw [h2]; omega
    exact dec_of (P := True) (LDc ((10 : Int) ^ (k + 1))) _ _ rfl ⟨cDecK k (by omega), trivial⟩ hle (fun u h1 h2 => by rw [hp] at h1; generalize (10 : Int) ^ (k + 1) = X at h1 ⊢; omega)
theorem cDec : CallOK Tryd.prog 31 (gSo (dG 10000000)) := cDecK 6 (by decide)
def nG : List SV → Option (SV × List Bool)
  | [.c (.int .i8 (.s n))] => some (.c (.str (snT n)), [in4 n])
  | _ => none
def nG0 : List SV → Option SV
  | [.c (.int .i8 (.s n))] => if 0 ≤ n ∧ n < 4 then some (.c (.str (snT n))) else none
  | _ => none
theorem nG_of {args : List SV} {r : SV × List Bool} (hr : nG args = some r) (hob : AllT r.2) : nG0 args = some r.1 := by
  unfold nG at hr
  split at hr <;> cases hr
  unfold nG0
  exact if_pos (of_decide_eq_true hob.head)
theorem cNI : CallOK Tryd.prog 47 (gSo nG) :=
  gSo_ok (G0 := nG0) (gS_of2 (inlN_of (l := []) trivial mixed 8 Tryd.func47 (by kernel_rfl) (hints [(11, false)])) fun args r E vals hG hr => by
    unfold nG0 at hG
    split at hG <;> try (cases hG; done)
    rename_i n
    split at hG <;> cases hG
    rename_i hn
    refine ⟨rfl, _, _, snI_run fops n, rfl, ?_, fun E v hv => hv⟩
    have : n = 0 ∨ n = 1 ∨ n = 2 ∨ n = 3 := by omega
    rcases this with rfl | rfl | rfl | rfl <;> exact AllT.cons (by decide +kernel) (AllT.one' (by decide +kernel))) fun args r hr hob => nG_of hr hob
theorem cNS : CallOK Tryd.prog 40 (gSo nG) :=
  gSo_ok (G0 := nG0) (gS_of2 (inlN_of (l := []) trivial mixed 8 Tryd.func40 (by kernel_rfl) (hints [(6, false)])) fun args r E vals hG hr => by
    unfold nG0 at hG
    split at hG <;> try (cases hG; done)
    rename_i n
    split at hG <;> cases hG
    rename_i hn
    refine ⟨rfl, _, _, snS_run fops n, rfl, ?_, fun E v hv => hv⟩
    have : n = 0 ∨ n = 1 ∨ n = 2 ∨ n = 3 := by omega
    rcases this with rfl | rfl | rfl | rfl <;> exact AllT.cons (by decide +kernel) (AllT.one' (by decide +kernel))) fun args r hr hob => nG_of hr hob
end
end Go.Proofs.YtaodbpejeglmlaaDoor.Stx
