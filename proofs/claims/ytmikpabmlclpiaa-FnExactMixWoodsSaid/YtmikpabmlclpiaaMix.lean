/- Logs mixed: impl.MixWoods, spec.MixWoods, with any number of logs. Nothing is assumed. -/
import Derived.Test.YtmikpabmlclpiaaSlWoodm
import Derived.Test.YtmikpabmlclpiaaStp
import Derived.Test.YtmikpabmlclpiaaLw
import Derived.Test.YtmikpabmlclpiaaHp
namespace Go.Proofs.Ytmikpabmlclpiaa.Mix
open Go SlWood
noncomputable section
noncomputable def hint (l : List (Nat × Bool)) (t : Nat) : Option Bool := List.rec (motive := fun _ => Option Bool) none (fun p _ ih => bif Nat.beq t p.1 then some p.2 else ih) l
theorem AllT.one {b : Bool} (h : b = true) : AllT [b] := AllT.cons h AllT.nil
theorem AllT.iff_app {l m : List Bool} : AllT (l ++ m) ↔ AllT l ∧ AllT m := ⟨fun h => h.append, fun h => AllT.app h.1 h.2⟩
noncomputable def bnd (n k : Int) : Bool := decide (0 ≤ k ∧ k < n)
theorem bnd_ok {n k : Int} (h0 : 0 ≤ k) (h1 : k < n) : bnd n k = true := by unfold bnd; simp; omega
theorem wrap_in {x : Int} (h0 : -9223372036854775808 ≤ x) (h1 : x < 9223372036854775808) : IntKind.i64.wrap x = x := by
  unfold IntKind.wrap
  have hb : IntKind.bits IntKind.i64 = 64 := rfl
  have hs : IntKind.signed IntKind.i64 = true := rfl
  rw [hb, hs]
  by_cases hx : 0 ≤ x
  · have e : x % 2 ^ 64 = x := Int.emod_eq_of_lt hx (by omega)
    rw [e]
    simp; omega
  · have e : x % 2 ^ 64 = x + 18446744073709551616 := by omega
    rw [e]
    simp; omega
noncomputable def C18 : List KC := [.flt .f32, .flt .f32, .flt .f32, .flt .f32, .flt .f32, .flt .f32, .flt .f32, .flt .f32, .flt .f32, .flt .f32, .flt .f32, .flt .f32, .flt .f32, .flt .f32, .flt .f32, .flt .f32, .flt .f32, .flt .f32]
noncomputable def w18 (w : Nat → Nat) : List LD := [.f (w 0), .f (w 1), .f (w 2), .f (w 3), .f (w 4), .f (w 5), .f (w 6), .f (w 7), .f (w 8), .f (w 9), .f (w 10), .f (w 11), .f (w 12), .f (w 13), .f (w 14), .f (w 15), .f (w 16), .f (w 17)]
noncomputable def tk18 : List LD → Option ((Nat → Nat) × List LD)
  | .f a0 :: .f a1 :: .f a2 :: .f a3 :: .f a4 :: .f a5 :: .f a6 :: .f a7 :: .f a8 :: .f a9 :: .f a10 :: .f a11 :: .f a12 :: .f a13 :: .f a14 :: .f a15 :: .f a16 :: .f a17 :: p => some (fun i => [a0, a1, a2, a3, a4, a5, a6, a7, a8, a9, a10, a11, a12, a13, a14, a15, a16, a17].getD i 0, p)
  | _ => none
theorem tk18_ok {p q : List LD} {w : Nat → Nat} (h : tk18 p = some (w, q)) : p = w18 w ++ q ∧ back w = w := by
  unfold tk18 at h
  split at h <;> cases h
  exact ⟨rfl, rfl⟩
noncomputable def at18 (F : Nat → Int → Nat) (k : Int) (i : Nat) : Nat := [F 0 k, F 1 k, F 2 k, F 3 k, F 4 k, F 5 k, F 6 k, F 7 k, F 8 k, F 9 k, F 10 k, F 11 k, F 12 k, F 13 k, F 14 k, F 15 k, F 16 k, F 17 k].getD i 0
noncomputable def qV (vl : (Nat → Nat) → Bool) (F : Nat → Int → Nat) (k : Int) : Bool := vl fun i => at18 F k i
noncomputable def Z18 : Nat → Nat := fun _ => 0
noncomputable def LV (vl : (Nat → Nat) → Bool) : List (Nat × CS) := [(19, gS (validG vl)), (51, gQ [.p 18] (validG vl))]
set_option maxRecDepth 100000 in
theorem okLV : AllOK Try.prog (LV valid) := ⟨cValI, cValS, trivial⟩
noncomputable def cxV (O : FOps) (vl : (Nat → Nat) → Bool) : Cx := ⟨Try.prog, O, orcN Try.prog O (LV vl) 8⟩
/-- The sums of the rows from 'i' on. -/
noncomputable def su (O : FOps) (F : Nat → Int → Nat) : Nat → Int → (Nat → Nat) → Nat → Nat
  | 0, _, acc => acc
  | m + 1, i, acc => su O F m (i + 1) (fun c => O.bin .add .f32 (back acc c) (F c i))
noncomputable def hd3 (n k : Int) : List Bool := [decide (k < n), bnd n k, bnd n k]
theorem hd3_ok {n k : Int} (h0 : 0 ≤ k) (h1 : k < n) : AllT (hd3 n k) := AllT.cons (by simpa using h1) (AllT.cons (bnd_ok h0 h1) (AllT.one (bnd_ok h0 h1)))
noncomputable def sgA : List (Nat × KS) := [(1, ⟨false, false, .rows 18⟩), (2, ⟨true, true, .cells C18⟩)]
noncomputable def sgB : List (Nat × KS) := [(1, ⟨false, false, .rows 18⟩), (2, ⟨true, true, .cells C18⟩), (60, ⟨true, true, .cells C18⟩)]
noncomputable def skR : Sk := ⟨[(2, .c (.ptr 2 0)), (3, .c (.intc .i64 1))], [(2, ⟨true, true, .cells C18⟩)], 3⟩
noncomputable def skE : Sk := ⟨[(0, .c (.sl 1 0 18 false)), (2, .c (.ptr 2 0))], sgA, 3⟩
noncomputable def obI (n k : Int) : List Bool := [decide (k < n - 1), bnd (n - 1) k, bnd n (k + 1)]
noncomputable def obS (n k : Int) : List Bool := [decide (k < n)] ++ List.replicate 36 (bnd n k)
theorem obI_ok {n k : Int} (h0 : 0 ≤ k) (h1 : k < n - 1) : AllT (obI n k) := AllT.cons (by simp; omega) (AllT.cons (bnd_ok h0 h1) (AllT.one (bnd_ok (by omega) (by omega))))
theorem obS_ok {n k : Int} (h0 : 1 ≤ k) (h1 : k < n) : AllT (obS n k) := AllT.app (AllT.one (by simpa using h1)) (AllT.rep (bnd_ok (by omega) h1) _)
/-! ### impl.MixWoods: all logs are valid -/
noncomputable def NI : Nat := Try.f36.ntmps
noncomputable def skVI : Sk := ⟨[(0, .c (.sl 1 0 18 false)), (2, .c (.ptr 2 0)), (12, .c (.sl 1 0 18 false)), (13, .c (.int .i64)), (14, .c (.int .i64))], sgA, 3⟩
noncomputable def goVI (O : FOps) (vl : (Nat → Nat) → Bool) (h : List (Nat × Bool)) (s : Sk) (F : Nat → Int → Nat) (G : Nat → Int → Int) (n k : Int) (z : Nat → Nat) : Option (Option XK × List LD × List Bool) :=
  goL (cxV O vl) NI ⟨hint h, fun _ => none⟩ (bodyOf Try.f36 2) 3 60 skVI [] s ([.i n, .i n, .i n, .i k] ++ ([.i n, .r (Row F G)] ++ w18 z))
noncomputable def hVaI : List (Nat × Bool) := [(15, true), (20, false)]
noncomputable def hVbI : List (Nat × Bool) := [(15, true), (20, true)]
noncomputable def hVeI : List (Nat × Bool) := [(15, false)]
set_option maxRecDepth 100000 in
theorem vaI (O : FOps) (vl : (Nat → Nat) → Bool) (F : Nat → Int → Nat) (G : Nat → Int → Int) (n k : Int) (z : Nat → Nat) : goVI O vl hVaI skVI F G n k z = some (none, ([.i n, .i n, .i n, .i (IntKind.i64.wrap (k + 1))] ++ ([.i n, .r (Row F G)] ++ w18 z)), hd3 n k ++ [!!qV vl F k, flatR (Row F G)]) := by kernel_rfl
set_option maxRecDepth 100000 in
theorem vbI (O : FOps) (vl : (Nat → Nat) → Bool) (F : Nat → Int → Nat) (G : Nat → Int → Int) (n k : Int) (z : Nat → Nat) : goVI O vl hVbI skR F G n k z = some (some .ret, w18 Z18, hd3 n k ++ [!qV vl F k]) := by kernel_rfl
set_option maxRecDepth 100000 in
theorem veI (O : FOps) (vl : (Nat → Nat) → Bool) (F : Nat → Int → Nat) (G : Nat → Int → Int) (n k : Int) (z : Nat → Nat) : goVI O vl hVeI skE F G n k z = some (some (.exit 0), ([.i n, .i n, .r (Row F G)] ++ w18 z), [!decide (k < n), flatR (Row F G)]) := by kernel_rfl
theorem vloI (F : Nat → Int → Nat) (G : Nat → Int → Int) (n : Int) (hn : n ≤ 1048576) (z : Nat → Nat) : ∀ (m : Nat) (k : Int), 0 ≤ k → k + m = n →
    (eqFrom (qV valid F) k m = true → Loops (cxV fops valid) NI (fun _ => none) (bodyOf Try.f36 2) 3 60 skVI ([.i n, .i n, .i n, .i k] ++ ([.i n, .r (Row F G)] ++ w18 z)) (.exit 0) skE ([.i n, .i n, .r (Row F G)] ++ w18 z)) ∧
    (eqFrom (qV valid F) k m = false → Loops (cxV fops valid) NI (fun _ => none) (bodyOf Try.f36 2) 3 60 skVI ([.i n, .i n, .i n, .i k] ++ ([.i n, .r (Row F G)] ++ w18 z)) .ret skR (w18 Z18)) := by
  have fl : flatR (Row F G) = true := rowK_flat _ _ _
  intro m
  induction m with
  | zero =>
    intro k hk hkn
    have e : k = n := by omega
    subst e
    refine ⟨fun _ => .done (ts := hint hVeI) (ρ := []) (veI fops valid F G k k z) (AllT.cons (by simp) (AllT.one fl)), fun h => by cases h⟩
  | succ m ih =>
    intro k hk hkn
    have hlt : k < n := by omega
    obtain ⟨i1, i2⟩ := ih (k + 1) (by omega) (by omega)
    have hE : eqFrom (qV valid F) k (m + 1) = bif qV valid F k then eqFrom (qV valid F) (k + 1) m else false := rfl
    have hh := hd3_ok hk hlt
    rw [hE]
    cases hq : qV valid F k with
    | true =>
      have h1 := vaI fops valid F G n k z
      rw [wrap_succ hk (by omega)] at h1
      have ho : AllT (hd3 n k ++ [!!qV valid F k, flatR (Row F G)]) := AllT.app hh (AllT.cons (by rw [hq]; rfl) (AllT.one fl))
      exact ⟨fun h => .step (ts := hint hVaI) (ρ := []) h1 ho (i1 h), fun h => .step (ts := hint hVaI) (ρ := []) h1 ho (i2 h)⟩
    | false =>
      refine ⟨fun h => (by cases h), fun _ => .done (ts := hint hVbI) (ρ := []) (vbI fops valid F G n k z) (AllT.app hh (AllT.one (by rw [hq]; rfl)))⟩
def PVI (n n1 n2 k N : Int) (row : Int → List SC) : Prop := n1 = n ∧ n2 = n ∧ k = 0 ∧ N = n ∧ 0 ≤ n ∧ n ≤ 1048576 ∧ Shape ts row
noncomputable def FVI (vl : (Nat → Nat) → Bool) : List LD → Option (XO × List Bool)
  | .i n :: .i n1 :: .i n2 :: .i k :: .i N :: .r row :: p => bindO (tk18 p) fun q => match q.2 with
    | [] => some ([(.s (!eqFrom (qV vl (datF row)) 0 n.toNat), .ret, skR, w18 Z18), (.t, .exit 0, skE, [.i n, .i n, .r row] ++ w18 q.1)], [pB (PVI n n1 n2 k N row)])
    | _ :: _ => none
  | _ => none
noncomputable def LVI (O : FOps) (vl : (Nat → Nat) → Bool) : List Ly → Top → Option Outs := orIter (cxV O vl) NI (bodyOf Try.f36 2) (loopL NI 3 60 skVI [] (FVI vl))
set_option maxRecDepth 100000 in
theorem okVI : CodeOK Try.prog NI (.loop (bodyOf Try.f36 2)) (LVI fops valid) := by
  refine orIter_ok (l := LV valid) okLV mixed 8 (loopL_ok (cx := cxV fops valid) (lp := fun _ => none) (fun ts => body_ok (l := LV valid) okLV mixed 8 _ ts) fun p r hr hob => ?_)
  unfold FVI at hr
  split at hr <;> try (cases hr; done)
  rename_i n n1 n2 k N row p
  obtain ⟨⟨z, p1⟩, hq, hr2⟩ := bindO_some hr
  clear hr
  obtain ⟨rfl, hz⟩ := tk18_ok hq
  clear hq
  split at hr2 <;> try (cases hr2; done)
  have hnil : p1 = [] := by assumption
  subst hnil
  cases hr2
  obtain ⟨g0, g1, e1, e2, h0, hm, hs⟩ := pB_iff.1 hob.head
  obtain ⟨h1, h2⟩ := vloI (datF row) (datG row) n hm z n.toNat 0 (Int.le_refl _) (by omega)
  have hs1 : Row (datF row) (datG row) = row := hs.symm
  rw [hs1] at h1 h2
  rw [e1, e2, g0, g1, List.append_nil]
  cases hq : eqFrom (qV valid (datF row)) 0 n.toNat with
  | true => exact ⟨.exit 0, skE, LD.i n :: LD.i n :: LD.r row :: w18 z, by simp [pickX, SB.val], h1 hq⟩
  | false => exact ⟨.ret, skR, w18 Z18, by simp [pickX, SB.val], h2 hq⟩
/-! ### impl.MixWoods: the sums -/
noncomputable def skTI : Sk := ⟨[(0, .c (.sl 1 0 18 false)), (2, .c (.ptr 2 0)), (6, .c (.ptr 60 0))], sgB, 61⟩
noncomputable def skUI : Sk := ⟨[(0, .c (.sl 1 0 18 false)), (2, .c (.ptr 2 0)), (6, .c (.ptr 60 0)), (36, .c (.sl 1 18 18 false)), (37, .c (.int .i64)), (38, .c (.int .i64))], sgB, 61⟩
noncomputable def goUI (O : FOps) (vl : (Nat → Nat) → Bool) (h : List (Nat × Bool)) (s : Sk) (F : Nat → Int → Nat) (G : Nat → Int → Int) (n k : Int) (z acc : Nat → Nat) : Option (Option XK × List LD × List Bool) :=
  goL (cxV O vl) NI ⟨hint h, fun _ => none⟩ (bodyOf Try.f36 11) 61 120 skUI [] s ([.i n, .i (n - 1), .i (n - 1), .i k] ++ ([.i n, .r (Row F G)] ++ (w18 z ++ w18 acc)))
set_option maxRecDepth 100000 in
theorem uaI (O : FOps) (vl : (Nat → Nat) → Bool) (F : Nat → Int → Nat) (G : Nat → Int → Int) (n k : Int) (z acc : Nat → Nat) : goUI O vl [(39, true)] skUI F G n k z acc = some (none, ([.i n, .i (n - 1), .i (n - 1), .i (IntKind.i64.wrap (k + 1))] ++ ([.i n, .r (Row F G)] ++ (w18 z ++ w18 (fun c => O.bin .add .f32 (back acc c) (F c (k + 1)))))), obI n k ++ [flatR (Row F G)]) := by kernel_rfl
set_option maxRecDepth 100000 in
theorem ueI (O : FOps) (vl : (Nat → Nat) → Bool) (F : Nat → Int → Nat) (G : Nat → Int → Int) (n k : Int) (z acc : Nat → Nat) : goUI O vl [(39, false)] skTI F G n k z acc = some (some (.exit 2), ([.i n, .i n, .r (Row F G)] ++ (w18 z ++ w18 acc)), [!decide (k < n - 1), flatR (Row F G)]) := by kernel_rfl
theorem uloI (F : Nat → Int → Nat) (G : Nat → Int → Int) (n : Int) (hn : n ≤ 1048576) (z : Nat → Nat) : ∀ (m : Nat) (k : Int) (acc : Nat → Nat), 0 ≤ k → k + m = n - 1 →
    Loops (cxV fops valid) NI (fun _ => none) (bodyOf Try.f36 11) 61 120 skUI ([.i n, .i (n - 1), .i (n - 1), .i k] ++ ([.i n, .r (Row F G)] ++ (w18 z ++ w18 acc))) (.exit 2) skTI ([.i n, .i n, .r (Row F G)] ++ (w18 z ++ w18 (su fops F m (k + 1) acc))) := by
  have fl : flatR (Row F G) = true := rowK_flat _ _ _
  intro m
  induction m with
  | zero =>
    intro k acc hk hkn
    have e : k = n - 1 := by omega
    exact .done (ts := hint [(39, false)]) (ρ := []) (ueI fops valid F G n k z acc) (AllT.cons (by simp; omega) (AllT.one fl))
  | succ m ih =>
    intro k acc hk hkn
    have h1 := uaI fops valid F G n k z acc
    rw [wrap_succ (by omega) (by omega)] at h1
    exact .step (ts := hint [(39, true)]) (ρ := []) h1 (AllT.app (obI_ok hk (by omega)) (AllT.one fl)) (ih (k + 1) _ (by omega) (by omega))
def PUI (n n1 n2 k N : Int) (row : Int → List SC) : Prop := n1 = n - 1 ∧ n2 = n - 1 ∧ k = 0 ∧ N = n ∧ 1 ≤ n ∧ n ≤ 1048576 ∧ Shape ts row
noncomputable def FUI (O : FOps) : List LD → Option (XO × List Bool)
  | .i n :: .i n1 :: .i n2 :: .i k :: .i N :: .r row :: p => bindO (tk18 p) fun q => bindO (tk18 q.2) fun q' => match q'.2 with
    | [] => some ([(.t, .exit 2, skTI, [.i n, .i n, .r row] ++ (w18 q.1 ++ w18 (su O (datF row) (n - 1).toNat 1 q'.1)))], [pB (PUI n n1 n2 k N row)])
    | _ :: _ => none
  | _ => none
noncomputable def LUI (O : FOps) (vl : (Nat → Nat) → Bool) : List Ly → Top → Option Outs := orIter (cxV O vl) NI (bodyOf Try.f36 11) (loopL NI 61 120 skUI [] (FUI O))
set_option maxRecDepth 100000 in
theorem okUI : CodeOK Try.prog NI (.loop (bodyOf Try.f36 11)) (LUI fops valid) := by
  refine orIter_ok (l := LV valid) okLV mixed 8 (loopL_ok (cx := cxV fops valid) (lp := fun _ => none) (fun ts => body_ok (l := LV valid) okLV mixed 8 _ ts) fun p r hr hob => ?_)
  unfold FUI at hr
  split at hr <;> try (cases hr; done)
  rename_i n n1 n2 k N row p
  obtain ⟨⟨z, p1⟩, hq, hr2⟩ := bindO_some hr
  clear hr
  obtain ⟨⟨acc, p2⟩, hq', hr3⟩ := bindO_some hr2
  clear hr2
  obtain ⟨rfl, hz⟩ := tk18_ok hq
  clear hq
  replace hq' : tk18 p1 = some (acc, p2) := hq'
  obtain ⟨rfl, ha⟩ := tk18_ok hq'
  clear hq'
  split at hr3 <;> try (cases hr3; done)
  have hnil : p2 = [] := by assumption
  subst hnil
  cases hr3
  obtain ⟨g0, g1, e1, e2, h0, hm, hs⟩ := pB_iff.1 hob.head
  have h1 := uloI (datF row) (datG row) n hm z (n - 1).toNat 0 acc (Int.le_refl _) (by omega)
  have hs1 : Row (datF row) (datG row) = row := hs.symm
  rw [hs1] at h1
  rw [e1, e2, g0, g1, List.append_nil]
  rw [Int.zero_add] at h1
  exact ⟨.exit 2, skTI, LD.i n :: LD.i n :: LD.r row :: (w18 z ++ w18 (su fops (datF row) (n - 1).toNat 1 acc)), rfl, h1⟩
set_option maxRecDepth 100000 in
theorem cI0 : CallOK Try.prog 36 (inl (cxV fops valid) Try.f36 ⟨fun _ => none, lpOf [(2, LVI fops valid), (11, LUI fops valid)]⟩) := by
  have hb : Try.f36.body.isSome = true := by kernel_rfl
  obtain ⟨c, hc⟩ := Option.isSome_iff_exists.1 hb
  have h1 : (match Try.f36.body with | some c => onceB (loopsIn c) && ((match loopAt 2 (loopsIn c) with | some _ => true | none => false) && (match loopAt 11 (loopsIn c) with | some _ => true | none => false)) | none => false) = true := by kernel_rfl
  rw [hc] at h1
  simp only [Bool.and_eq_true] at h1
  exact inlL_of (l := LV valid) (ls := [(2, LVI fops valid), (11, LUI fops valid)]) okLV mixed 8 Try.func36 (by kernel_rfl) (fun _ => none) hc h1.1 ⟨⟨_, bodyOf_at hc h1.2.1, okVI⟩, ⟨_, bodyOf_at hc h1.2.2, okUI⟩, trivial⟩
/-! ### spec.MixWoods: all logs are valid -/
noncomputable def NS : Nat := Try.f34.ntmps
noncomputable def skVS : Sk := ⟨[(0, .c (.sl 1 0 18 false)), (2, .c (.ptr 2 0)), (4, .c (.int .i64))], sgA, 3⟩
noncomputable def goVS (O : FOps) (vl : (Nat → Nat) → Bool) (h : List (Nat × Bool)) (s : Sk) (F : Nat → Int → Nat) (G : Nat → Int → Int) (n k : Int) (z : Nat → Nat) : Option (Option XK × List LD × List Bool) :=
  goL (cxV O vl) NS ⟨hint h, fun _ => none⟩ (bodyOf Try.f34 2) 3 60 skVS [] s ([.i n, .i k] ++ ([.i n, .r (Row F G)] ++ w18 z))
noncomputable def hVaS : List (Nat × Bool) := [(13, true), (20, false)]
noncomputable def hVbS : List (Nat × Bool) := [(13, true), (20, true)]
noncomputable def hVeS : List (Nat × Bool) := [(13, false)]
set_option maxRecDepth 100000 in
theorem vaS (O : FOps) (vl : (Nat → Nat) → Bool) (F : Nat → Int → Nat) (G : Nat → Int → Int) (n k : Int) (z : Nat → Nat) : goVS O vl hVaS skVS F G n k z = some (none, ([.i n, .i (IntKind.i64.wrap (k + 1))] ++ ([.i n, .r (Row F G)] ++ w18 z)), hd3 n k ++ [!!qV vl F k, flatR (Row F G)]) := by kernel_rfl
set_option maxRecDepth 100000 in
theorem vbS (O : FOps) (vl : (Nat → Nat) → Bool) (F : Nat → Int → Nat) (G : Nat → Int → Int) (n k : Int) (z : Nat → Nat) : goVS O vl hVbS skR F G n k z = some (some .ret, w18 Z18, hd3 n k ++ [!qV vl F k]) := by kernel_rfl
set_option maxRecDepth 100000 in
theorem veS (O : FOps) (vl : (Nat → Nat) → Bool) (F : Nat → Int → Nat) (G : Nat → Int → Int) (n k : Int) (z : Nat → Nat) : goVS O vl hVeS skE F G n k z = some (some (.exit 0), ([.i n, .i n, .r (Row F G)] ++ w18 z), [!decide (k < n), flatR (Row F G)]) := by kernel_rfl
theorem vloS (F : Nat → Int → Nat) (G : Nat → Int → Int) (n : Int) (hn : n ≤ 1048576) (z : Nat → Nat) : ∀ (m : Nat) (k : Int), 0 ≤ k → k + m = n →
    (eqFrom (qV valid F) k m = true → Loops (cxV fops valid) NS (fun _ => none) (bodyOf Try.f34 2) 3 60 skVS ([.i n, .i k] ++ ([.i n, .r (Row F G)] ++ w18 z)) (.exit 0) skE ([.i n, .i n, .r (Row F G)] ++ w18 z)) ∧
    (eqFrom (qV valid F) k m = false → Loops (cxV fops valid) NS (fun _ => none) (bodyOf Try.f34 2) 3 60 skVS ([.i n, .i k] ++ ([.i n, .r (Row F G)] ++ w18 z)) .ret skR (w18 Z18)) := by
  have fl : flatR (Row F G) = true := rowK_flat _ _ _
  intro m
  induction m with
  | zero =>
    intro k hk hkn
    have e : k = n := by omega
    subst e
    refine ⟨fun _ => .done (ts := hint hVeS) (ρ := []) (veS fops valid F G k k z) (AllT.cons (by simp) (AllT.one fl)), fun h => by cases h⟩
  | succ m ih =>
    intro k hk hkn
    have hlt : k < n := by omega
    obtain ⟨i1, i2⟩ := ih (k + 1) (by omega) (by omega)
    have hE : eqFrom (qV valid F) k (m + 1) = bif qV valid F k then eqFrom (qV valid F) (k + 1) m else false := rfl
    have hh := hd3_ok hk hlt
    rw [hE]
    cases hq : qV valid F k with
    | true =>
      have h1 := vaS fops valid F G n k z
      rw [wrap_succ hk (by omega)] at h1
      have ho : AllT (hd3 n k ++ [!!qV valid F k, flatR (Row F G)]) := AllT.app hh (AllT.cons (by rw [hq]; rfl) (AllT.one fl))
      exact ⟨fun h => .step (ts := hint hVaS) (ρ := []) h1 ho (i1 h), fun h => .step (ts := hint hVaS) (ρ := []) h1 ho (i2 h)⟩
    | false =>
      refine ⟨fun h => (by cases h), fun _ => .done (ts := hint hVbS) (ρ := []) (vbS fops valid F G n k z) (AllT.app hh (AllT.one (by rw [hq]; rfl)))⟩
def PVS (n k N : Int) (row : Int → List SC) : Prop := k = 0 ∧ N = n ∧ 0 ≤ n ∧ n ≤ 1048576 ∧ Shape ts row
noncomputable def FVS (vl : (Nat → Nat) → Bool) : List LD → Option (XO × List Bool)
  | .i n :: .i k :: .i N :: .r row :: p => bindO (tk18 p) fun q => match q.2 with
    | [] => some ([(.s (!eqFrom (qV vl (datF row)) 0 n.toNat), .ret, skR, w18 Z18), (.t, .exit 0, skE, [.i n, .i n, .r row] ++ w18 q.1)], [pB (PVS n k N row)])
    | _ :: _ => none
  | _ => none
noncomputable def LVS (O : FOps) (vl : (Nat → Nat) → Bool) : List Ly → Top → Option Outs := orIter (cxV O vl) NS (bodyOf Try.f34 2) (loopL NS 3 60 skVS [] (FVS vl))
set_option maxRecDepth 100000 in
theorem okVS : CodeOK Try.prog NS (.loop (bodyOf Try.f34 2)) (LVS fops valid) := by
  refine orIter_ok (l := LV valid) okLV mixed 8 (loopL_ok (cx := cxV fops valid) (lp := fun _ => none) (fun ts => body_ok (l := LV valid) okLV mixed 8 _ ts) fun p r hr hob => ?_)
  unfold FVS at hr
  split at hr <;> try (cases hr; done)
  rename_i n k N row p
  obtain ⟨⟨z, p1⟩, hq, hr2⟩ := bindO_some hr
  clear hr
  obtain ⟨rfl, hz⟩ := tk18_ok hq
  clear hq
  split at hr2 <;> try (cases hr2; done)
  have hnil : p1 = [] := by assumption
  subst hnil
  cases hr2
  obtain ⟨e1, e2, h0, hm, hs⟩ := pB_iff.1 hob.head
  obtain ⟨h1, h2⟩ := vloS (datF row) (datG row) n hm z n.toNat 0 (Int.le_refl _) (by omega)
  have hs1 : Row (datF row) (datG row) = row := hs.symm
  rw [hs1] at h1 h2
  rw [e1, e2, List.append_nil]
  cases hq : eqFrom (qV valid (datF row)) 0 n.toNat with
  | true => exact ⟨.exit 0, skE, LD.i n :: LD.i n :: LD.r row :: w18 z, by simp [pickX, SB.val], h1 hq⟩
  | false => exact ⟨.ret, skR, w18 Z18, by simp [pickX, SB.val], h2 hq⟩
/-! ### spec.MixWoods: the sums -/
noncomputable def skTS : Sk := ⟨[(0, .c (.sl 1 0 18 false)), (2, .c (.ptr 2 0)), (5, .c (.ptr 60 0))], sgB, 61⟩
noncomputable def skUS : Sk := ⟨[(0, .c (.sl 1 0 18 false)), (2, .c (.ptr 2 0)), (5, .c (.ptr 60 0)), (6, .c (.int .i64))], sgB, 61⟩
noncomputable def goUS (O : FOps) (vl : (Nat → Nat) → Bool) (h : List (Nat × Bool)) (s : Sk) (F : Nat → Int → Nat) (G : Nat → Int → Int) (n k : Int) (z acc : Nat → Nat) : Option (Option XK × List LD × List Bool) :=
  goL (cxV O vl) NS ⟨hint h, fun _ => none⟩ (bodyOf Try.f34 10) 61 120 skUS [] s ([.i n, .i k] ++ ([.i n, .r (Row F G)] ++ (w18 z ++ w18 acc)))
set_option maxRecDepth 100000 in
theorem uaS (O : FOps) (vl : (Nat → Nat) → Bool) (F : Nat → Int → Nat) (G : Nat → Int → Int) (n k : Int) (z acc : Nat → Nat) : goUS O vl [(33, true)] skUS F G n k z acc = some (none, ([.i n, .i (IntKind.i64.wrap (k + 1))] ++ ([.i n, .r (Row F G)] ++ (w18 z ++ w18 (fun c => O.bin .add .f32 (back acc c) (F c (k)))))), obS n k ++ [flatR (Row F G)]) := by kernel_rfl
set_option maxRecDepth 100000 in
theorem ueS (O : FOps) (vl : (Nat → Nat) → Bool) (F : Nat → Int → Nat) (G : Nat → Int → Int) (n k : Int) (z acc : Nat → Nat) : goUS O vl [(33, false)] skTS F G n k z acc = some (some (.exit 2), ([.i n, .i n, .r (Row F G)] ++ (w18 z ++ w18 acc)), [!decide (k < n), flatR (Row F G)]) := by kernel_rfl
theorem uloS (F : Nat → Int → Nat) (G : Nat → Int → Int) (n : Int) (hn : n ≤ 1048576) (z : Nat → Nat) : ∀ (m : Nat) (k : Int) (acc : Nat → Nat), 1 ≤ k → k + m = n →
    Loops (cxV fops valid) NS (fun _ => none) (bodyOf Try.f34 10) 61 120 skUS ([.i n, .i k] ++ ([.i n, .r (Row F G)] ++ (w18 z ++ w18 acc))) (.exit 2) skTS ([.i n, .i n, .r (Row F G)] ++ (w18 z ++ w18 (su fops F m k acc))) := by
  have fl : flatR (Row F G) = true := rowK_flat _ _ _
  intro m
  induction m with
  | zero =>
    intro k acc hk hkn
    have e : k = n := by omega
    exact .done (ts := hint [(33, false)]) (ρ := []) (ueS fops valid F G n k z acc) (AllT.cons (by simp; omega) (AllT.one fl))
  | succ m ih =>
    intro k acc hk hkn
    have h1 := uaS fops valid F G n k z acc
    rw [wrap_succ (by omega) (by omega)] at h1
    exact .step (ts := hint [(33, true)]) (ρ := []) h1 (AllT.app (obS_ok hk (by omega)) (AllT.one fl)) (ih (k + 1) _ (by omega) (by omega))
def PUS (n k N : Int) (row : Int → List SC) : Prop := k = 1 ∧ N = n ∧ 1 ≤ n ∧ n ≤ 1048576 ∧ Shape ts row
noncomputable def FUS (O : FOps) : List LD → Option (XO × List Bool)
  | .i n :: .i k :: .i N :: .r row :: p => bindO (tk18 p) fun q => bindO (tk18 q.2) fun q' => match q'.2 with
    | [] => some ([(.t, .exit 2, skTS, [.i n, .i n, .r row] ++ (w18 q.1 ++ w18 (su O (datF row) (n - 1).toNat 1 q'.1)))], [pB (PUS n k N row)])
    | _ :: _ => none
  | _ => none
noncomputable def LUS (O : FOps) (vl : (Nat → Nat) → Bool) : List Ly → Top → Option Outs := orIter (cxV O vl) NS (bodyOf Try.f34 10) (loopL NS 61 120 skUS [] (FUS O))
set_option maxRecDepth 100000 in
theorem okUS : CodeOK Try.prog NS (.loop (bodyOf Try.f34 10)) (LUS fops valid) := by
  refine orIter_ok (l := LV valid) okLV mixed 8 (loopL_ok (cx := cxV fops valid) (lp := fun _ => none) (fun ts => body_ok (l := LV valid) okLV mixed 8 _ ts) fun p r hr hob => ?_)
  unfold FUS at hr
  split at hr <;> try (cases hr; done)
  rename_i n k N row p
  obtain ⟨⟨z, p1⟩, hq, hr2⟩ := bindO_some hr
  clear hr
  obtain ⟨⟨acc, p2⟩, hq', hr3⟩ := bindO_some hr2
  clear hr2
  obtain ⟨rfl, hz⟩ := tk18_ok hq
  clear hq
  replace hq' : tk18 p1 = some (acc, p2) := hq'
  obtain ⟨rfl, ha⟩ := tk18_ok hq'
  clear hq'
  split at hr3 <;> try (cases hr3; done)
  have hnil : p2 = [] := by assumption
  subst hnil
  cases hr3
  obtain ⟨e1, e2, h0, hm, hs⟩ := pB_iff.1 hob.head
  have h1 := uloS (datF row) (datG row) n hm z (n - 1).toNat 1 acc (Int.le_refl _) (by omega)
  have hs1 : Row (datF row) (datG row) = row := hs.symm
  rw [hs1] at h1
  rw [e1, e2, List.append_nil]
  exact ⟨.exit 2, skTS, LD.i n :: LD.i n :: LD.r row :: (w18 z ++ w18 (su fops (datF row) (n - 1).toNat 1 acc)), rfl, h1⟩
set_option maxRecDepth 100000 in
theorem cS0 : CallOK Try.prog 34 (inl (cxV fops valid) Try.f34 ⟨fun _ => none, lpOf [(2, LVS fops valid), (10, LUS fops valid)]⟩) := by
  have hb : Try.f34.body.isSome = true := by kernel_rfl
  obtain ⟨c, hc⟩ := Option.isSome_iff_exists.1 hb
  have h1 : (match Try.f34.body with | some c => onceB (loopsIn c) && ((match loopAt 2 (loopsIn c) with | some _ => true | none => false) && (match loopAt 10 (loopsIn c) with | some _ => true | none => false)) | none => false) = true := by kernel_rfl
  rw [hc] at h1
  simp only [Bool.and_eq_true] at h1
  exact inlL_of (l := LV valid) (ls := [(2, LVS fops valid), (10, LUS fops valid)]) okLV mixed 8 Try.func34 (by kernel_rfl) (fun _ => none) hc h1.1 ⟨⟨_, bodyOf_at hc h1.2.1, okVS⟩, ⟨_, bodyOf_at hc h1.2.2, okUS⟩, trivial⟩
/-! ### told by hand -/
noncomputable def rgI (n : Int) : Bool := bif decide (n < 1) then true else decide (8 < n)
noncomputable def rgS (n : Int) : Bool := !(bif decide (1 ≤ n) then decide (n ≤ 8) else false)
theorem rg_eq (n : Int) : rgS n = rgI n := by
  unfold rgS rgI
  by_cases h : n < 1
  · rw [decide_eq_true h, decide_eq_false (by omega : ¬ 1 ≤ n)]; rfl
  · rw [decide_eq_false h, decide_eq_true (by omega : 1 ≤ n)]
    by_cases h2 : 8 < n
    · rw [decide_eq_true h2, decide_eq_false (by omega : ¬ n ≤ 8)]; rfl
    · rw [decide_eq_false h2, decide_eq_true (by omega : n ≤ 8)]; rfl
theorem rg_false {n : Int} (h : rgI n = false) : 1 ≤ n ∧ n ≤ 8 := by
  unfold rgI at h
  cases h1 : decide (n < 1) with
  | true => rw [h1] at h; cases h
  | false =>
    rw [h1] at h
    have h2 : decide (8 < n) = false := h
    have := of_decide_eq_false h1
    have := of_decide_eq_false h2
    omega
noncomputable def mxF (O : FOps) (V g : Bool) (n : Int) (row : Int → List SC) (c : Nat) : Nat := bif !V then 0 else bif g then 0 else O.bin .quo .f32 (back (su O (datF row) (n - 1).toNat 1 (at18 (datF row) 0)) c) (O.ofInt .f32 n)
noncomputable def mxC (V g : Bool) : Int := bif !V then 1 else bif g then 2 else 0
noncomputable def mxV (O : FOps) (V g : Bool) (n : Int) (row : Int → List SC) : SV := .tup [.a (wdL (mxF O V g n row)), .c (.int .i64 (.s (mxC V g)))]
noncomputable def alV (vl : (Nat → Nat) → Bool) (n : Int) (row : Int → List SC) : Bool := eqFrom (qV vl (datF row)) 0 n.toNat
set_option maxRecDepth 100000 in
theorem I_run (O : FOps) (vl : (Nat → Nat) → Bool) (f w o : Bool) (n N : Int) (F : Nat → Int → Nat) (G : Nat → Int → Int) : roS (inl (cxV O vl) Try.f36 ⟨fun _ => none, lpOf [(2, LVI O vl), (11, LUI O vl)]⟩) 2 [.c (.sl 1 0 18 (.s n) f)] [(1, ⟨w, o, .rows 18 N (Row F G)⟩)] =
    some ⟨mxV O (alV vl n (Row F G)) (rgI n) n (Row F G), [], 120, [flatR (Row F G), pB (PVI n n n 0 N (Row F G))] ++ gdB (!alV vl n (Row F G)) (gdB (rgI n) ([bnd n 0, bnd n 0, decide (((1 : Nat) : Int) ≤ n), flatR (Row F G), pB (PUI n (n - 1) (n - 1) 0 n (Row F G))]))⟩ := by kernel_rfl
set_option maxRecDepth 100000 in
theorem S_run (O : FOps) (vl : (Nat → Nat) → Bool) (f w o : Bool) (n N : Int) (F : Nat → Int → Nat) (G : Nat → Int → Int) : roS (inl (cxV O vl) Try.f34 ⟨fun _ => none, lpOf [(2, LVS O vl), (10, LUS O vl)]⟩) 2 [.c (.sl 1 0 18 (.s n) f)] [(1, ⟨w, o, .rows 18 N (Row F G)⟩)] =
    some ⟨mxV O (alV vl n (Row F G)) (rgS n) n (Row F G), [], 120, [flatR (Row F G), pB (PVS n 0 N (Row F G))] ++ gdB (!alV vl n (Row F G)) (gdB (rgS n) ([bnd n 0, bnd n 0, flatR (Row F G), pB (PUS n 1 n (Row F G))]))⟩ := by kernel_rfl
noncomputable def mH (O : FOps) (vl : (Nat → Nat) → Bool) : CS := fun base args rd => match args with
  | [.c (.sl i o es (.s n) _)] => match rd with
    | [(j, ⟨_, _, .rows st N row⟩)] => match Nat.beq base 2 && (Nat.beq i 1 && (Nat.beq o 0 && (Nat.beq es 18 && (Nat.beq j 1 && Nat.beq st 18)))) with
      | true => some ⟨mxV O (alV vl n row) (rgI n) n row, [], 120, [okN n N row]⟩
      | false => none
    | _ => none
  | _ => none
noncomputable def mI (O : FOps) (vl : (Nat → Nat) → Bool) : CS := orS (canS (mH O vl)) (inl (cxV O vl) Try.f36 noH)
noncomputable def mS (O : FOps) (vl : (Nat → Nat) → Bool) : CS := orS (canS (mH O vl)) (inl (cxV O vl) Try.f34 noH)
set_option maxRecDepth 100000 in
theorem cMI : CallOK Try.prog 36 (mI fops valid) :=
  (CallOK.hand (H := mH fops valid) cI0.ro fun b args rd e h hob => by
    unfold mH at h
    split at h <;> try (cases h; done)
    rename_i i o es n f
    split at h <;> try (cases h; done)
    rename_i j w p st N row
    split at h <;> cases h
    rename_i hc
    simp only [Bool.and_eq_true, beqN] at hc
    obtain ⟨rfl, rfl, rfl, rfl, rfl, rfl⟩ := hc
    obtain ⟨rfl, h0, hm, hs⟩ := pB_iff.1 hob.head
    have e := I_run fops valid f w p N N (datF row) (datG row)
    rw [show Row (datF row) (datG row) = row from hs.symm] at e
    refine ⟨_, e, AllT.app (AllT.cons (shape_flat hs) (AllT.one (pB_iff.2 ⟨rfl, rfl, rfl, rfl, h0, hm, hs⟩))) (gdB_ok fun _ => gdB_ok fun hg => ?_)⟩
    have h1 := (rg_false hg).1
    have hb := bnd_ok (n := N) (k := 0) (Int.le_refl _) (by omega)
    exact AllT.cons hb (AllT.cons hb (AllT.cons (by simp; omega) (AllT.cons (shape_flat hs) (AllT.one (pB_iff.2 ⟨rfl, rfl, rfl, rfl, h1, hm, hs⟩)))))).can.or
    (inlN_of (l := LV valid) okLV mixed 8 Try.func36 (by kernel_rfl) (fun _ => none))
set_option maxRecDepth 100000 in
theorem cMS : CallOK Try.prog 34 (mS fops valid) :=
  (CallOK.hand (H := mH fops valid) cS0.ro fun b args rd e h hob => by
    unfold mH at h
    split at h <;> try (cases h; done)
    rename_i i o es n f
    split at h <;> try (cases h; done)
    rename_i j w p st N row
    split at h <;> cases h
    rename_i hc
    simp only [Bool.and_eq_true, beqN] at hc
    obtain ⟨rfl, rfl, rfl, rfl, rfl, rfl⟩ := hc
    obtain ⟨rfl, h0, hm, hs⟩ := pB_iff.1 hob.head
    have e := S_run fops valid f w p N N (datF row) (datG row)
    rw [show Row (datF row) (datG row) = row from hs.symm, rg_eq] at e
    refine ⟨_, e, AllT.app (AllT.cons (shape_flat hs) (AllT.one (pB_iff.2 ⟨rfl, rfl, h0, hm, hs⟩))) (gdB_ok fun _ => gdB_ok fun hg => ?_)⟩
    have h1 := (rg_false hg).1
    have hb := bnd_ok (n := N) (k := 0) (Int.le_refl _) (by omega)
    exact AllT.cons hb (AllT.cons hb (AllT.cons (shape_flat hs) (AllT.one (pB_iff.2 ⟨rfl, rfl, h1, hm, hs⟩))))).can.or
    (inlN_of (l := LV valid) okLV mixed 8 Try.func34 (by kernel_rfl) (fun _ => none))
/-! ### the law -/
noncomputable def L3 (O : FOps) (vl : (Nat → Nat) → Bool) : List (Nat × CS) := [(36, mI O vl), (34, mS O vl), (35, toC O), (37, eqC O), (22, gS (eqG O))]
set_option maxRecDepth 100000 in
theorem okL3 : AllOK Try.prog (L3 fops valid) := ⟨cMI, cMS, cToC, cEqC, cEq, trivial⟩
noncomputable def run (O : FOps) (vl : (Nat → Nat) → Bool) (hl : List (Nat × Bool)) (v : SV) (rd : List (Nat × Seg)) : Option (SV × List Bool) := rE 2 (inl ⟨Try.prog, O, orcN Try.prog O (L3 O vl) 8⟩ Try.f9 ⟨hint hl, fun _ => none⟩ 2 [v] rd)
noncomputable def hLaw : List (Nat × Bool) := [(13, false), (35, false), (40, false)]
noncomputable def chA (i : Nat) (n : Int) : SV := .c (.sl i 0 18 (.s n) false)
noncomputable def ch0 (i : Nat) : SV := .c (.sl i 0 18 (.c 0) false)
noncomputable def lf (n : Int) : Int := bif decide (IntKind.i64.wrap (1048576 - n) < 0) then -1 else IntKind.i64.wrap (1048576 - n)
theorem lf_small {n : Int} (h0 : 0 ≤ n) (h1 : n ≤ 1048576) : decide (lf n < 0) = false := by
  unfold lf
  rw [wrap_in (by omega) (by omega)]
  have e : decide (1048576 - n < 0) = false := by simp; omega
  rw [e]
  simp [e]
theorem lf_big {n : Int} (h0 : 1048576 < n) (h1 : n ≤ 9223372036854775807) : decide (lf n < 0) = true := by
  unfold lf
  rw [wrap_in (by omega) (by omega)]
  have e : decide (1048576 - n < 0) = true := by simp; omega
  rw [e]
  simp
noncomputable def R1 (F : Nat → Int → Nat) (G : Nat → Int → Int) (n : Int) : Int → List SC := cpR n (Row F G)
theorem r1_shape (F : Nat → Int → Nat) (G : Nat → Int → Int) (n : Int) : Shape ts (R1 F G n) := shape_row _ _
noncomputable def oC (F : Nat → Int → Nat) (G : Nat → Int → Int) (n : Int) : List Bool := [flatR (Row F G), flatR (R1 F G n), okN n n (Row F G)]
noncomputable def oV (n : Int) (row : Int → List SC) : List Bool := [flatR row, okN n n row]
noncomputable def oE (n : Int) (row : Int → List SC) : List Bool := [flatR row, flatR row, okE' n n row n n row]
noncomputable def T (O : FOps) (w : Nat → Nat) (c : Int) : Bool := bif !eqW O (back w) (back w) then true else !decide (c = c)
noncomputable def ob (O : FOps) (vl : (Nat → Nat) → Bool) (F : Nat → Int → Nat) (G : Nat → Int → Int) (n : Int) : List Bool :=
  [!decide (lf n < 0)] ++ oC F G n ++ oV n (R1 F G n) ++ oC F G n ++ oV n (R1 F G n) ++ [!T O (mxF O (alV vl n (R1 F G n)) (rgI n) n (R1 F G n)) (mxC (alV vl n (R1 F G n)) (rgI n))] ++ oC F G n ++ oE n (R1 F G n) ++ [!!eqR O n n (R1 F G n) (R1 F G n)]
set_option maxRecDepth 100000 in
theorem run_ok (O : FOps) (vl : (Nat → Nat) → Bool) (F : Nat → Int → Nat) (G : Nat → Int → Int) (n : Int) : run O vl hLaw (chA 1 n) [(1, ⟨false, false, .rows 18 n (Row F G)⟩)] = some (.c (.bool .t), ob O vl F G n) := by kernel_rfl
set_option maxRecDepth 100000 in
theorem run_big (O : FOps) (vl : (Nat → Nat) → Bool) (F : Nat → Int → Nat) (G : Nat → Int → Int) (n : Int) : run O vl [(13, true)] (chA 1 n) [(1, ⟨false, false, .rows 18 n (Row F G)⟩)] = some (.c (.bool .t), [decide (lf n < 0)]) := by kernel_rfl
set_option maxRecDepth 100000 in
theorem run0 (O : FOps) (vl : (Nat → Nat) → Bool) : run O vl hLaw (ch0 1) [] = some (.c (.bool .t), [!(bif !eqW O (back Z18) (back Z18) then true else false)]) := by kernel_rfl
theorem all (F : Nat → Int → Nat) (G : Nat → Int → Int) {n : Int} (h0 : 0 ≤ n) (hmax : n ≤ 9223372036854775807) : ∃ hl o, run fops valid hl (chA 1 n) [(1, ⟨false, false, .rows 18 n (Row F G)⟩)] = some (.c (.bool .t), o) ∧ AllT o := by
  by_cases hbig : 1048576 < n
  · exact ⟨_, _, run_big fops valid F G n, AllT.one (lf_big hbig hmax)⟩
  · have h1 : n ≤ 1048576 := by omega
    have hs := r1_shape F G n
    have fl := shape_flat hs
    have c : AllT (oC F G n) := AllT.cons (rowK_flat _ _ _) (AllT.cons fl (AllT.one (pB_iff.2 ⟨rfl, h0, h1, shape_row F G⟩)))
    have v : AllT (oV n (R1 F G n)) := AllT.cons fl (AllT.one (pB_iff.2 ⟨rfl, h0, h1, hs⟩))
    have e : AllT (oE n (R1 F G n)) := AllT.cons fl (AllT.cons fl (AllT.one (by
      unfold okE'
      have : pB (n = n ∧ n = n ∧ 0 ≤ n ∧ n ≤ 1048576 ∧ Shape ts (R1 F G n) ∧ Shape ts (R1 F G n)) = true := pB_iff.2 ⟨rfl, rfl, h0, h1, hs, hs⟩
      rw [this, Bool.or_true])))
    refine ⟨_, _, run_ok fops valid F G n, ?_⟩
    unfold ob T
    rw [lf_small h0 h1, eqR_self, eqW_self]
    simp only [AllT.iff_app]
    exact ⟨⟨⟨⟨⟨⟨⟨⟨AllT.one rfl, c⟩, v⟩, c⟩, v⟩, AllT.one (by simp)⟩, c⟩, e⟩, AllT.one rfl⟩
theorem all0 : ∃ hl o, run fops valid hl (ch0 1) [] = some (.c (.bool .t), o) ∧ AllT o := by
  refine ⟨_, _, run0 fops valid, ?_⟩
  rw [eqW_self]
  exact AllT.one rfl
end
end Go.Proofs.Ytmikpabmlclpiaa.Mix
