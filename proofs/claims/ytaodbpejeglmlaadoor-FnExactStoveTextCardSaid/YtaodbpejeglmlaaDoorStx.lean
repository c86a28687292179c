/- The text of a stove. Nothing is assumed. -/
import Derived.Test.YtaodbpejeglmlaaDoorStx1
namespace Go.Proofs.YtaodbpejeglmlaaDoor.Stx
open Go SlWood Stv Sto Jn Fm Wt
noncomputable section
/-- The text behind 'o' with the lines of the logs before the place 'i'. -/
def txt (o : ByteArray) (F : Nat → Int → Nat) : Nat → ByteArray
  | 0 => o
  | i + 1 => txt o F i ++ ln F i
theorem nl_size : nlT.size = 1 := rfl
theorem ln_size (F : Nat → Int → Nat) (k : Int) : (ln F k).size = 166 := by
  unfold ln
  rw [size_app, size_U, nl_size]
theorem txt_size (o : ByteArray) (F : Nat → Int → Nat) : ∀ i, (txt o F i).size = o.size + 166 * i
  | 0 => rfl
  | i + 1 => by
    show (txt o F i ++ ln F i).size = _
    rw [size_app, txt_size o F i, ln_size]; omega
def Al (o : ByteArray) (n : Int) : Prop := n ≤ 6 ∧ o.size ≤ 1000
theorem loI (F : Nat → Int → Nat) (G : Nat → Int → Int) {n : Int} {o : ByteArray} (ha : Al o n) : ∀ (m : Nat) (k : Nat), (k : Int) + m = n →
    Loops (cxS fops) NX (fun _ => none) (bodyOf Tryd.f26 3) 4 60 Ik (ID F G n k (txt o F k)) (.exit 0) Ie [.s (txt o F n.toNat)] := by
  intro m
  induction m with
  | zero =>
    intro k hkn
    have e : n = k := by omega
    subst e
    exact .done (ρ := []) (Ib fops F G k k (txt o F k)) (AllT.one' (by simp))
  | succ m ih =>
    intro k hkn
    have i1 := ih (k + 1) (by omega)
    obtain ⟨h6, h7⟩ := ha
    have hA := Ia fops F G n k (txt o F k)
    rw [wrap_succ (by omega) (by omega)] at hA
    have b1 : inb n k = true := decide_eq_true (by omega)
    have b2 : sm (txt o F k) (ln F k) = true := sm_ok (by rw [txt_size, ln_size]; omega)
    have hob : AllT (obI F G n k (txt o F k)) := by
      unfold obI
      rw [b1, b2]
      exact AllT.cons (decide_eq_true (by omega)) (AllT.cons rfl (AllT.cons rfl (AllT.cons rfl (AllT.cons rfl (AllT.one' (rowK_flat _ _ _))))))
    exact .step (ρ := []) hA hob i1
theorem loS (F : Nat → Int → Nat) (G : Nat → Int → Int) {n : Int} {o : ByteArray} (ha : Al o n) (a b : Nat) (s t : Int) (c : Nat) : ∀ (m : Nat) (k : Nat), (k : Int) + m = n →
    Loops (cxS fops) NY (fun _ => none) (bodyOf Tryd.f23 3) 3 60 Sk' (SD F G n k (txt o F k) a b s t c) (.exit 0) Ie [.s (txt o F n.toNat)] := by
  intro m
  induction m with
  | zero =>
    intro k hkn
    have e : n = k := by omega
    subst e
    exact .done (ρ := []) (Sb fops F G k k (txt o F k) a b s t c) (AllT.one' (by simp))
  | succ m ih =>
    intro k hkn
    have i1 := ih (k + 1) (by omega)
    obtain ⟨h6, h7⟩ := ha
    have hA := Sa fops F G n k (txt o F k) a b s t c
    rw [wrap_succ (by omega) (by omega)] at hA
    have b1 : inb n k = true := decide_eq_true (by omega)
    have b2 : sm (txt o F k) (ln F k) = true := sm_ok (by rw [txt_size, ln_size]; omega)
    have hob : AllT (obS F G n k (txt o F k)) := by
      unfold obS
      rw [b1, b2]
      exact AllT.cons (decide_eq_true (by omega)) (AllT.cons rfl (AllT.cons rfl (AllT.cons rfl (AllT.cons rfl (AllT.one' (rowK_flat _ _ _))))))
    exact .step (ρ := []) hA hob i1
def IP (o : ByteArray) (l n k N : Int) (row : Int → List SC) : Prop := l = n ∧ k = 0 ∧ N = n ∧ 0 ≤ n ∧ Shape ts row ∧ Al o n
noncomputable def IF : List LD → Option (XO × List Bool)
  | [.s o, .i n, .i l, .i k, .i N, .r row] => some ([(.t, .exit 0, Ie, [.s (txt o (datF row) n.toNat)])], [pB (IP o l n k N row)])
  | _ => none
noncomputable def IL (O : FOps) : List Ly → Top → Option Outs := orIter (cxS O) NX (bodyOf Tryd.f26 3) (loopL NX 4 60 Ik [] IF)
theorem IL_ok : CodeOK Tryd.prog NX (.loop (bodyOf Tryd.f26 3)) (IL fops) := by
  refine orIter_ok (l := Ls) okLs mixed 8 (loopL_ok (cx := cxS fops) (lp := fun _ => none) (fun ts => body_ok (l := Ls) okLs mixed 8 _ ts) fun p r hr hob => ?_)
  unfold IF at hr
  split at hr <;> cases hr
  rename_i o n l k N row
  obtain ⟨rfl, rfl, rfl, h0, hs, ha⟩ := pB_iff.1 hob.head
  have hs1 : Row (datF row) (datG row) = row := hs.symm
  have h := loI (datF row) (datG row) ha N.toNat 0 (by omega)
  unfold ID at h
  rw [hs1] at h
  exact ⟨.exit 0, Ie, _, rfl, h⟩
noncomputable def SF : List LD → Option (XO × List Bool)
  | [.s o, .i k, .i N, .r row, .i n, .f a, .f b, .i s, .i t, .f c] => some ([(.t, .exit 0, Ie, [.s (txt o (datF row) n.toNat)])], [pB (IP o n n k N row)])
  | _ => none
noncomputable def SL (O : FOps) : List Ly → Top → Option Outs := orIter (cxS O) NY (bodyOf Tryd.f23 3) (loopL NY 3 60 Sk' [] SF)
theorem SL_ok : CodeOK Tryd.prog NY (.loop (bodyOf Tryd.f23 3)) (SL fops) := by
  refine orIter_ok (l := Ls) okLs mixed 8 (loopL_ok (cx := cxS fops) (lp := fun _ => none) (fun ts => body_ok (l := Ls) okLs mixed 8 _ ts) fun p r hr hob => ?_)
  unfold SF at hr
  split at hr <;> cases hr
  rename_i o k N row n a b s t c
  obtain ⟨_, rfl, rfl, h0, hs, ha⟩ := pB_iff.1 hob.head
  have hs1 : Row (datF row) (datG row) = row := hs.symm
  have h := loS (datF row) (datG row) ha a b s t c N.toNat 0 (by omega)
  unfold SD at h
  rw [hs1] at h
  exact ⟨.exit 0, Ie, _, rfl, h⟩
theorem cI0 : CallOK Tryd.prog 26 (inl (cxS fops) Tryd.f26 ⟨fun _ => none, lpOf [(3, IL fops)]⟩) := by
  have hb : Tryd.f26.body.isSome = true := by kernel_rfl
  obtain ⟨c, hc⟩ := Option.isSome_iff_exists.1 hb
  have h1 : (match Tryd.f26.body with | some c => onceB (loopsIn c) && (match loopAt 3 (loopsIn c) with | some _ => true | none => false) | none => false) = true := by kernel_rfl
  rw [hc] at h1
  simp only [Bool.and_eq_true] at h1
  exact inlL_of (l := Ls) (ls := [(3, IL fops)]) okLs mixed 8 Tryd.func26 (by kernel_rfl) (fun _ => none) hc h1.1 ⟨⟨_, bodyOf_at hc h1.2, IL_ok⟩, trivial⟩
theorem cS0 : CallOK Tryd.prog 23 (inl (cxS fops) Tryd.f23 ⟨fun _ => none, lpOf [(3, SL fops)]⟩) := by
  have hb : Tryd.f23.body.isSome = true := by kernel_rfl
  obtain ⟨c, hc⟩ := Option.isSome_iff_exists.1 hb
  have h1 : (match Tryd.f23.body with | some c => onceB (loopsIn c) && (match loopAt 3 (loopsIn c) with | some _ => true | none => false) | none => false) = true := by kernel_rfl
  rw [hc] at h1
  simp only [Bool.and_eq_true] at h1
  exact inlL_of (l := Ls) (ls := [(3, SL fops)]) okLs mixed 8 Tryd.func23 (by kernel_rfl) (fun _ => none) hc h1.1 ⟨⟨_, bodyOf_at hc h1.2, SL_ok⟩, trivial⟩
/-! ### the first line -/
def hdL (a b : Nat) (s t : Int) (c : Nat) : List ByteArray := [stT, hexT a, hexT b, hexT c, snT s, decT t]
def hdI (a b : Nat) (s t : Int) (c : Nat) : ByteArray := Jn.joinT (hdL a b s t c) spT ++ nlT
def h6 (a b c : Nat) : ByteArray := (((((stbT ++ hexT a) ++ spT) ++ hexT b) ++ spT) ++ hexT c) ++ spT
def h8 (a b : Nat) (s : Int) (c : Nat) : ByteArray := (h6 a b c ++ snT s) ++ spT
def hdS (a b : Nat) (s t : Int) (c : Nat) : ByteArray := (h8 a b s c ++ decT t) ++ nlT
set_option maxRecDepth 100000 in
theorem I_run (O : FOps) (f w o : Bool) (n N : Int) (row : Int → List SC) (a b : Nat) (s t : Int) (c : Nat) : roS (inl (cxS O) Tryd.f26 ⟨fun _ => none, lpOf [(3, IL O)]⟩) 2 [.a (stL f n a b s t c)] [(1, ⟨w, o, .rows 18 N row⟩)] =
    some ⟨.c (.str (txt (hdI a b s t c) (datF row) n.toNat)), [], 60, [in4 s, okF t, Jn.joinOk (hdL a b s t c) spT, sm (Jn.joinT (hdL a b s t c) spT) nlT, flatR row, pB (IP (hdI a b s t c) n n 0 N row)]⟩ := by kernel_rfl
def obH (a b : Nat) (s t : Int) (c : Nat) : List Bool := [true, true, true, true, true, true, in4 s, sm (h6 a b c) (snT s), sm (h6 a b c ++ snT s) spT, decide (0 ≤ t ∧ t < 10000000), sm (h8 a b s c) (decT t), sm (h8 a b s c ++ decT t) nlT]
set_option maxRecDepth 100000 in
theorem S_run (O : FOps) (f w o w' o' : Bool) (n N : Int) (row : Int → List SC) (a b : Nat) (s t : Int) (c : Nat) : roS (inl (cxS O) Tryd.f23 ⟨fun _ => none, lpOf [(3, SL O)]⟩) 3 [.c (.ptr 2 0)] [(1, ⟨w, o, .rows 18 N row⟩), (2, ⟨w', o', .cells (stL f n a b s t c)⟩)] =
    some ⟨.c (.str (txt (hdS a b s t c) (datF row) n.toNat)), [], 60, obH a b s t c ++ [flatR row, pB (IP (hdS a b s t c) n n 0 N row)]⟩ := by kernel_rfl
end
end Go.Proofs.YtaodbpejeglmlaaDoor.Stx
