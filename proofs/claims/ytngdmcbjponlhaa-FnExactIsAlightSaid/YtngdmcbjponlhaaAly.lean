/- Whether a stove is alight, with any number of logs. Nothing is assumed. -/
import Derived.Test.YtngdmcbjponlhaaSto
import Derived.Test.YtngdmcbjponlhaaBrn
namespace Go.Proofs.Ytngdmcbjponlhaa.Aly
open Go SlWood Stv Sto
noncomputable section
noncomputable def LA (O : FOps) : List (Nat × CS) := [(86, Brn.bC O)]
set_option maxRecDepth 100000 in
theorem okLA : AllOK Try.prog (LA fops) := ⟨Brn.cB, trivial⟩
noncomputable def cxA (O : FOps) : Cx := ⟨Try.prog, O, orcN Try.prog O (LA O) 8⟩
noncomputable def dA (n m : Int) (a b : Nat) (s t : Int) (c : Nat) (row : Int → List SC) : List LD := [.i n, .r row, .i m, .f a, .f b, .i s, .i t, .f c]
noncomputable def bnd (n k : Int) : Bool := decide (0 ≤ k ∧ k < n)
theorem bnd_ok {n k : Int} (h0 : 0 ≤ k) (h1 : k < n) : bnd n k = true := by unfold bnd; simp; omega
/-- Whether a layer of a log burns. -/
noncomputable def brB (O : FOps) (F : Nat → Int → Nat) (k : Int) : Bool := Brn.anyF O (at18 F k) 6 0
noncomputable def nb (O : FOps) (F : Nat → Int → Nat) (k : Int) : Bool := !brB O F k
noncomputable def skR : Sk := ⟨[(2, .c (.boolc true))], [], 3⟩
noncomputable def skE : Sk := ⟨[], [], 3⟩
/-! ### impl.anyBurns -/
noncomputable def skA : Sk := ⟨[(1, .c (.ptr 2 0)), (6, .c (.sl 1 0 18 false)), (7, .c (.int .i64)), (8, .c (.int .i64))], sgsI, 3⟩
noncomputable def NA : Nat := Try.f65.ntmps
noncomputable def goA (O : FOps) (h : List (Nat × Bool)) (s : Sk) (F : Nat → Int → Nat) (G : Nat → Int → Int) (n k : Int) (a b : Nat) (u t : Int) (c : Nat) : Option (Option XK × List LD × List Bool) :=
  goL (cxA O) NA ⟨hint h, fun _ => none⟩ (bodyOf Try.f65 2) 3 200 skA [] s ([.i n, .i n, .i k] ++ dA n n a b u t c (Row F G))
noncomputable def hAn : List (Nat × Bool) := [(9, true), (15, false)]
noncomputable def hAy : List (Nat × Bool) := [(9, true), (15, true)]
noncomputable def hAe : List (Nat × Bool) := [(9, false)]
noncomputable def idA (O : FOps) (F : Nat → Int → Nat) (n k : Int) : List Bool := [decide (k < n), bnd n k, bnd n k, flatR (Brn.lst O (at18 F k))]
noncomputable def tA (O : FOps) (F : Nat → Int → Nat) (k : Int) : Bool := decide (0 < Brn.cnt O (at18 F k))
theorem tA_eq (O : FOps) (F : Nat → Int → Nat) (k : Int) : tA O F k = brB O F k := Brn.cnt_pos O _
theorem idA_ok (O : FOps) (F : Nat → Int → Nat) {n k : Int} (h0 : 0 ≤ k) (h1 : k < n) : AllT (idA O F n k) :=
  AllT.cons (by simpa using h1) (AllT.cons (bnd_ok h0 h1) (AllT.cons (bnd_ok h0 h1) (AllT.one (Brn.flat_lst O _))))
set_option maxRecDepth 100000 in
theorem rnA (O : FOps) (F : Nat → Int → Nat) (G : Nat → Int → Int) (n k : Int) (a b : Nat) (u t : Int) (c : Nat) : goA O hAn skA F G n k a b u t c =
    some (none, [.i n, .i n, .i (IntKind.i64.wrap (k + 1))] ++ dA n n a b u t c (Row F G), idA O F n k ++ [!tA O F k, flatR (Row F G)]) := by kernel_rfl
set_option maxRecDepth 100000 in
theorem ryA (O : FOps) (F : Nat → Int → Nat) (G : Nat → Int → Int) (n k : Int) (a b : Nat) (u t : Int) (c : Nat) : goA O hAy skR F G n k a b u t c = some (some .ret, [], idA O F n k ++ [tA O F k]) := by kernel_rfl
set_option maxRecDepth 100000 in
theorem reA (O : FOps) (F : Nat → Int → Nat) (G : Nat → Int → Int) (n k : Int) (a b : Nat) (u t : Int) (c : Nat) : goA O hAe skE F G n k a b u t c = some (some (.exit 0), [], [!decide (k < n)]) := by kernel_rfl
theorem loA (F : Nat → Int → Nat) (G : Nat → Int → Int) (n : Int) (hn : n ≤ 1048576) (a b : Nat) (u t : Int) (c : Nat) : ∀ (m : Nat) (k : Int), 0 ≤ k → k + m = n →
    (eqFrom (nb fops F) k m = true → Loops (cxA fops) NA (fun _ => none) (bodyOf Try.f65 2) 3 200 skA ([.i n, .i n, .i k] ++ dA n n a b u t c (Row F G)) (.exit 0) skE []) ∧
    (eqFrom (nb fops F) k m = false → Loops (cxA fops) NA (fun _ => none) (bodyOf Try.f65 2) 3 200 skA ([.i n, .i n, .i k] ++ dA n n a b u t c (Row F G)) .ret skR []) := by
  have fl : flatR (Row F G) = true := rowK_flat _ _ _
  intro m
  induction m with
  | zero =>
    intro k hk hkn
    have e : k = n := by omega
    subst e
    refine ⟨fun _ => .done (ts := hint hAe) (ρ := []) (reA fops F G k k a b u t c) (AllT.one (by simp)), fun h => by cases h⟩
  | succ m ih =>
    intro k hk hkn
    have hlt : k < n := by omega
    obtain ⟨i1, i2⟩ := ih (k + 1) (by omega) (by omega)
    have hE : eqFrom (nb fops F) k (m + 1) = bif nb fops F k then eqFrom (nb fops F) (k + 1) m else false := rfl
    have hi := idA_ok fops F hk hlt
    rw [hE]
    cases hq : brB fops F k with
    | false =>
      have hn' : nb fops F k = true := by unfold nb; rw [hq]; rfl
      have h1 := rnA fops F G n k a b u t c
      rw [wrap_succ hk (by omega)] at h1
      have ho : AllT (idA fops F n k ++ [!tA fops F k, flatR (Row F G)]) := AllT.app hi (AllT.cons (by rw [tA_eq, hq]; rfl) (AllT.one fl))
      rw [hn']
      exact ⟨fun h => .step (ts := hint hAn) (ρ := []) h1 ho (i1 h), fun h => .step (ts := hint hAn) (ρ := []) h1 ho (i2 h)⟩
    | true =>
      have hn' : nb fops F k = false := by unfold nb; rw [hq]; rfl
      rw [hn']
      refine ⟨fun h => (by cases h), fun _ => .done (ts := hint hAy) (ρ := []) (ryA fops F G n k a b u t c) (AllT.app hi (AllT.one (by rw [tA_eq, hq])))⟩
def PA (n n1 k N m : Int) (row : Int → List SC) : Prop := n1 = n ∧ k = 0 ∧ N = n ∧ m = n ∧ 0 ≤ n ∧ n ≤ 1048576 ∧ Shape ts row
noncomputable def FA (O : FOps) : List LD → Option (XO × List Bool)
  | [.i n, .i n1, .i k, .i N, .r row, .i m, .f _, .f _, .i _, .i _, .f _] => some ([(.s (!eqFrom (nb O (datF row)) 0 n.toNat), .ret, skR, []), (.t, .exit 0, skE, [])], [pB (PA n n1 k N m row)])
  | _ => none
noncomputable def LAl (O : FOps) : List Ly → Top → Option Outs := orIter (cxA O) NA (bodyOf Try.f65 2) (loopL NA 3 200 skA [] (FA O))
set_option maxRecDepth 100000 in
theorem okA : CodeOK Try.prog NA (.loop (bodyOf Try.f65 2)) (LAl fops) := by
  refine orIter_ok (l := LA fops) okLA mixed 8 (loopL_ok (cx := cxA fops) (lp := fun _ => none) (fun ts => body_ok (l := LA fops) okLA mixed 8 _ ts) fun p r hr hob => ?_)
  unfold FA at hr
  split at hr <;> cases hr
  rename_i n n1 k N row m a b u t c
  obtain ⟨e1, e2, e3, e4, h0, hm, hs⟩ := pB_iff.1 hob.head
  obtain ⟨h1, h2⟩ := loA (datF row) (datG row) n hm a b u t c n.toNat 0 (Int.le_refl _) (by omega)
  have hs1 : Row (datF row) (datG row) = row := hs.symm
  rw [hs1] at h1 h2
  rw [e1, e2, e3, e4]
  cases hq : eqFrom (nb fops (datF row)) 0 n.toNat with
  | true => exact ⟨.exit 0, skE, [], by simp [pickX, SB.val], h1 hq⟩
  | false => exact ⟨.ret, skR, [], by simp [pickX, SB.val], h2 hq⟩
/-! ### spec.l02Burns -/
noncomputable def hL (O : FOps) (F : Nat → Int → Nat) (k : Int) (i : Nat) : Bool := O.cmp .gtr .f32 (F (6 + i) k) 1132068864
noncomputable def lL (O : FOps) (F : Nat → Int → Nat) (k : Int) (i : Nat) : Bool := O.cmp .lss .f32 (F i k) 1040187392
noncomputable def cL (O : FOps) (F : Nat → Int → Nat) (k : Int) (i : Nat) : Bool := bif hL O F k i then (bif lL O F k i then O.cmp .gtr .f32 (F (12 + i) k) 0 else false) else false
noncomputable def lay (O : FOps) (F : Nat → Int → Nat) (n k : Int) (i : Nat) : List Bool := [bnd n k] ++ gdB (!hL O F k i) [bnd n k] ++ gdB (!hL O F k i) (gdB (!lL O F k i) [bnd n k])
theorem lay_ok (O : FOps) (F : Nat → Int → Nat) {n k : Int} (h0 : 0 ≤ k) (h1 : k < n) (i : Nat) : AllT (lay O F n k i) := by
  have b := bnd_ok h0 h1
  exact AllT.app (AllT.app (AllT.one b) (gdB_ok fun _ => AllT.one b)) (gdB_ok fun _ => gdB_ok fun _ => AllT.one b)
noncomputable def idL (O : FOps) (F : Nat → Int → Nat) (n k : Int) : List Bool := [decide (k < n), bnd n k] ++ lay O F n k 0 ++ gdB (cL O F k 0) (lay O F n k 1) ++ gdB (cL O F k 0) (gdB (cL O F k 1) (lay O F n k 2)) ++ gdB (cL O F k 0) (gdB (cL O F k 1) (gdB (cL O F k 2) (lay O F n k 3))) ++ gdB (cL O F k 0) (gdB (cL O F k 1) (gdB (cL O F k 2) (gdB (cL O F k 3) (lay O F n k 4)))) ++ gdB (cL O F k 0) (gdB (cL O F k 1) (gdB (cL O F k 2) (gdB (cL O F k 3) (gdB (cL O F k 4) (lay O F n k 5)))))
theorem idL_ok (O : FOps) (F : Nat → Int → Nat) {n k : Int} (h0 : 0 ≤ k) (h1 : k < n) : AllT (idL O F n k) := by
  have b := bnd_ok h0 h1
  have l := fun i => lay_ok O F h0 h1 i
  exact AllT.app (AllT.app (AllT.app (AllT.app (AllT.app (AllT.app (AllT.cons (by simpa using h1) (AllT.one b)) (l 0)) (gdB_ok fun _ => l 1)) (gdB_ok fun _ => gdB_ok fun _ => l 2)) (gdB_ok fun _ => gdB_ok fun _ => gdB_ok fun _ => l 3)) (gdB_ok fun _ => gdB_ok fun _ => gdB_ok fun _ => gdB_ok fun _ => l 4)) (gdB_ok fun _ => gdB_ok fun _ => gdB_ok fun _ => gdB_ok fun _ => gdB_ok fun _ => l 5)
noncomputable def skS : Sk := ⟨[(0, .c (.ptr 2 0)), (3, .c (.int .i64))], [(1, ⟨false, false, .rows 18⟩), (2, ⟨false, false, .cells stK⟩)], 3⟩
noncomputable def NS : Nat := Try.f64.ntmps
noncomputable def goS (O : FOps) (j : Nat) (s : Sk) (F : Nat → Int → Nat) (G : Nat → Int → Int) (n k : Int) (a b : Nat) (u t : Int) (c : Nat) : Option (Option XK × List LD × List Bool) :=
  goJ (cxA O) NS ⟨hint [(12, true)], fun _ => none⟩ (bodyOf Try.f64 2) j 3 60 skS [] s ([.i k] ++ dA n n a b u t c (Row F G))
set_option maxRecDepth 100000 in
theorem rn (O : FOps) (F : Nat → Int → Nat) (G : Nat → Int → Int) (n k : Int) (a b : Nat) (u t : Int) (c : Nat) : goS O 6 skS F G n k a b u t c = some (none, [.i (IntKind.i64.wrap (k + 1))] ++ dA n n a b u t c (Row F G), idL O F n k ++ [!cL O F k 0, !cL O F k 1, !cL O F k 2, !cL O F k 3, !cL O F k 4, !cL O F k 5, flatR (Row F G)]) := by kernel_rfl
set_option maxRecDepth 100000 in
theorem ry0 (O : FOps) (F : Nat → Int → Nat) (G : Nat → Int → Int) (n k : Int) (a b : Nat) (u t : Int) (c : Nat) : goS O 0 skR F G n k a b u t c = some (some .ret, [], idL O F n k ++ [cL O F k 0]) := by kernel_rfl
set_option maxRecDepth 100000 in
theorem ry1 (O : FOps) (F : Nat → Int → Nat) (G : Nat → Int → Int) (n k : Int) (a b : Nat) (u t : Int) (c : Nat) : goS O 1 skR F G n k a b u t c = some (some .ret, [], idL O F n k ++ [!cL O F k 0, cL O F k 1]) := by kernel_rfl
set_option maxRecDepth 100000 in
theorem ry2 (O : FOps) (F : Nat → Int → Nat) (G : Nat → Int → Int) (n k : Int) (a b : Nat) (u t : Int) (c : Nat) : goS O 2 skR F G n k a b u t c = some (some .ret, [], idL O F n k ++ [!cL O F k 0, !cL O F k 1, cL O F k 2]) := by kernel_rfl
set_option maxRecDepth 100000 in
theorem ry3 (O : FOps) (F : Nat → Int → Nat) (G : Nat → Int → Int) (n k : Int) (a b : Nat) (u t : Int) (c : Nat) : goS O 3 skR F G n k a b u t c = some (some .ret, [], idL O F n k ++ [!cL O F k 0, !cL O F k 1, !cL O F k 2, cL O F k 3]) := by kernel_rfl
set_option maxRecDepth 100000 in
theorem ry4 (O : FOps) (F : Nat → Int → Nat) (G : Nat → Int → Int) (n k : Int) (a b : Nat) (u t : Int) (c : Nat) : goS O 4 skR F G n k a b u t c = some (some .ret, [], idL O F n k ++ [!cL O F k 0, !cL O F k 1, !cL O F k 2, !cL O F k 3, cL O F k 4]) := by kernel_rfl
set_option maxRecDepth 100000 in
theorem ry5 (O : FOps) (F : Nat → Int → Nat) (G : Nat → Int → Int) (n k : Int) (a b : Nat) (u t : Int) (c : Nat) : goS O 5 skR F G n k a b u t c = some (some .ret, [], idL O F n k ++ [!cL O F k 0, !cL O F k 1, !cL O F k 2, !cL O F k 3, !cL O F k 4, cL O F k 5]) := by kernel_rfl
set_option maxRecDepth 100000 in
theorem reS (O : FOps) (F : Nat → Int → Nat) (G : Nat → Int → Int) (n k : Int) (a b : Nat) (u t : Int) (c : Nat) : goL (cxA O) NS ⟨hint [(12, false)], fun _ => none⟩ (bodyOf Try.f64 2) 3 60 skS [] skE ([.i k] ++ dA n n a b u t c (Row F G)) = some (some (.exit 0), [], [!decide (k < n)]) := by kernel_rfl
noncomputable def bL (O : FOps) (F : Nat → Int → Nat) (k : Int) : Bool := bif cL O F k 0 then true else bif cL O F k 1 then true else bif cL O F k 2 then true else bif cL O F k 3 then true else bif cL O F k 4 then true else bif cL O F k 5 then true else false
set_option maxRecDepth 100000 in
theorem bL_eq (O : FOps) (F : Nat → Int → Nat) (k : Int) : brB O F k = bL O F k := by
  have h0 : Brn.cW O (at18 F k) 0 = cL O F k 0 := by kernel_rfl
  have h1 : Brn.cW O (at18 F k) (0 + 1) = cL O F k 1 := by kernel_rfl
  have h2 : Brn.cW O (at18 F k) (0 + 1 + 1) = cL O F k 2 := by kernel_rfl
  have h3 : Brn.cW O (at18 F k) (0 + 1 + 1 + 1) = cL O F k 3 := by kernel_rfl
  have h4 : Brn.cW O (at18 F k) (0 + 1 + 1 + 1 + 1) = cL O F k 4 := by kernel_rfl
  have h5 : Brn.cW O (at18 F k) (0 + 1 + 1 + 1 + 1 + 1) = cL O F k 5 := by kernel_rfl
  show (bif Brn.cW O (at18 F k) (0) then true else bif Brn.cW O (at18 F k) (0 + 1) then true else bif Brn.cW O (at18 F k) (0 + 1 + 1) then true else bif Brn.cW O (at18 F k) (0 + 1 + 1 + 1) then true else bif Brn.cW O (at18 F k) (0 + 1 + 1 + 1 + 1) then true else bif Brn.cW O (at18 F k) (0 + 1 + 1 + 1 + 1 + 1) then true else false) = _
  rw [h0, h1, h2, h3, h4, h5]
  rfl
theorem loS (F : Nat → Int → Nat) (G : Nat → Int → Int) (n : Int) (hn : n ≤ 1048576) (a b : Nat) (u t : Int) (c : Nat) : ∀ (m : Nat) (k : Int), 0 ≤ k → k + m = n →
    (eqFrom (nb fops F) k m = true → Loops (cxA fops) NS (fun _ => none) (bodyOf Try.f64 2) 3 60 skS ([.i k] ++ dA n n a b u t c (Row F G)) (.exit 0) skE []) ∧
    (eqFrom (nb fops F) k m = false → Loops (cxA fops) NS (fun _ => none) (bodyOf Try.f64 2) 3 60 skS ([.i k] ++ dA n n a b u t c (Row F G)) .ret skR []) := by
  have fl : flatR (Row F G) = true := rowK_flat _ _ _
  intro m
  induction m with
  | zero =>
    intro k hk hkn
    have e : k = n := by omega
    subst e
    refine ⟨fun _ => .done (ts := hint [(12, false)]) (ρ := []) (reS fops F G k k a b u t c) (AllT.one (by simp)), fun h => by cases h⟩
  | succ m ih =>
    intro k hk hkn
    have hlt : k < n := by omega
    obtain ⟨i1, i2⟩ := ih (k + 1) (by omega) (by omega)
    have hE : eqFrom (nb fops F) k (m + 1) = bif nb fops F k then eqFrom (nb fops F) (k + 1) m else false := rfl
    have hi := idL_ok fops F hk hlt
    have hb : nb fops F k = !bL fops F k := by unfold nb; rw [bL_eq]
    have ret : nb fops F k = false → Loops (cxA fops) NS (fun _ => none) (bodyOf Try.f64 2) 3 60 skS ([.i k] ++ dA n n a b u t c (Row F G)) .ret skR [] := fun h => by
      rw [hb] at h
      cases q0 : cL fops F k 0 with
      | true => exact .doneJ (ts := hint [(12, true)]) (j := 0) (ρ := []) (ry0 fops F G n k a b u t c) (AllT.app hi (AllT.one q0))
      | false =>
        cases q1 : cL fops F k 1 with
        | true => exact .doneJ (ts := hint [(12, true)]) (j := 1) (ρ := []) (ry1 fops F G n k a b u t c) (AllT.app hi (AllT.cons (by rw [q0]; rfl) (AllT.one q1)))
        | false =>
          cases q2 : cL fops F k 2 with
          | true => exact .doneJ (ts := hint [(12, true)]) (j := 2) (ρ := []) (ry2 fops F G n k a b u t c) (AllT.app hi (AllT.cons (by rw [q0]; rfl) (AllT.cons (by rw [q1]; rfl) (AllT.one q2))))
          | false =>
            cases q3 : cL fops F k 3 with
            | true => exact .doneJ (ts := hint [(12, true)]) (j := 3) (ρ := []) (ry3 fops F G n k a b u t c) (AllT.app hi (AllT.cons (by rw [q0]; rfl) (AllT.cons (by rw [q1]; rfl) (AllT.cons (by rw [q2]; rfl) (AllT.one q3)))))
            | false =>
              cases q4 : cL fops F k 4 with
              | true => exact .doneJ (ts := hint [(12, true)]) (j := 4) (ρ := []) (ry4 fops F G n k a b u t c) (AllT.app hi (AllT.cons (by rw [q0]; rfl) (AllT.cons (by rw [q1]; rfl) (AllT.cons (by rw [q2]; rfl) (AllT.cons (by rw [q3]; rfl) (AllT.one q4))))))
              | false =>
                cases q5 : cL fops F k 5 with
                | true => exact .doneJ (ts := hint [(12, true)]) (j := 5) (ρ := []) (ry5 fops F G n k a b u t c) (AllT.app hi (AllT.cons (by rw [q0]; rfl) (AllT.cons (by rw [q1]; rfl) (AllT.cons (by rw [q2]; rfl) (AllT.cons (by rw [q3]; rfl) (AllT.cons (by rw [q4]; rfl) (AllT.one q5)))))))
                | false =>
                  unfold bL at h
                  rw [q0, q1, q2, q3, q4, q5] at h
                  cases h
    rw [hE]
    cases hq : nb fops F k with
    | false => exact ⟨fun h => (by cases h), fun _ => ret hq⟩
    | true =>
      rw [hb] at hq
      have hz : bL fops F k = false := by simpa using hq
      have all : cL fops F k 0 = false ∧ cL fops F k 1 = false ∧ cL fops F k 2 = false ∧ cL fops F k 3 = false ∧ cL fops F k 4 = false ∧ cL fops F k 5 = false := by
        unfold bL at hz
        revert hz
        cases cL fops F k 0 <;> cases cL fops F k 1 <;> cases cL fops F k 2 <;> cases cL fops F k 3 <;> cases cL fops F k 4 <;> cases cL fops F k 5 <;> simp
      obtain ⟨q0, q1, q2, q3, q4, q5⟩ := all
      have h1 := rn fops F G n k a b u t c
      rw [wrap_succ hk (by omega)] at h1
      have ho : AllT (idL fops F n k ++ [!cL fops F k 0, !cL fops F k 1, !cL fops F k 2, !cL fops F k 3, !cL fops F k 4, !cL fops F k 5, flatR (Row F G)]) := AllT.app hi (AllT.cons (by rw [q0]; rfl) (AllT.cons (by rw [q1]; rfl) (AllT.cons (by rw [q2]; rfl) (AllT.cons (by rw [q3]; rfl) (AllT.cons (by rw [q4]; rfl) (AllT.cons (by rw [q5]; rfl) (AllT.one fl)))))))
      exact ⟨fun h => .stepJ (ts := hint [(12, true)]) (j := 6) (ρ := []) h1 ho (i1 h), fun h => .stepJ (ts := hint [(12, true)]) (j := 6) (ρ := []) h1 ho (i2 h)⟩
def PS (n k m : Int) (row : Int → List SC) : Prop := k = 0 ∧ n = m ∧ 0 ≤ m ∧ m ≤ 1048576 ∧ Shape ts row
noncomputable def FS (O : FOps) : List LD → Option (XO × List Bool)
  | [.i k, .i n, .r row, .i m, .f _, .f _, .i _, .i _, .f _] => some ([(.s (!eqFrom (nb O (datF row)) 0 m.toNat), .ret, skR, []), (.t, .exit 0, skE, [])], [pB (PS n k m row)])
  | _ => none
noncomputable def LSl (O : FOps) : List Ly → Top → Option Outs := orIter (cxA O) NS (bodyOf Try.f64 2) (loopL NS 3 60 skS [] (FS O))
set_option maxRecDepth 100000 in
theorem okS : CodeOK Try.prog NS (.loop (bodyOf Try.f64 2)) (LSl fops) := by
  refine orIter_ok (l := LA fops) okLA mixed 8 (loopL_ok (cx := cxA fops) (lp := fun _ => none) (fun ts => body_ok (l := LA fops) okLA mixed 8 _ ts) fun p r hr hob => ?_)
  unfold FS at hr
  split at hr <;> cases hr
  rename_i k n row m a b u t c
  obtain ⟨e1, e2, h0, hm, hs⟩ := pB_iff.1 hob.head
  obtain ⟨h1, h2⟩ := loS (datF row) (datG row) m hm a b u t c m.toNat 0 (Int.le_refl _) (by omega)
  have hs1 : Row (datF row) (datG row) = row := hs.symm
  rw [hs1] at h1 h2
  rw [e1, e2]
  cases hq : eqFrom (nb fops (datF row)) 0 m.toNat with
  | true => exact ⟨.exit 0, skE, [], by simp [pickX, SB.val], h1 hq⟩
  | false => exact ⟨.ret, skR, [], by simp [pickX, SB.val], h2 hq⟩
set_option maxRecDepth 100000 in
theorem cA0 : CallOK Try.prog 65 (inl (cxA fops) Try.f65 ⟨fun _ => none, lpOf [(2, LAl fops)]⟩) := by
  have hb : Try.f65.body.isSome = true := by kernel_rfl
  obtain ⟨c, hc⟩ := Option.isSome_iff_exists.1 hb
  have h1 : (match Try.f65.body with | some c => onceB (loopsIn c) && (match loopAt 2 (loopsIn c) with | some _ => true | none => false) | none => false) = true := by kernel_rfl
  rw [hc] at h1
  simp only [Bool.and_eq_true] at h1
  exact inlL_of (l := LA fops) (ls := [(2, LAl fops)]) okLA mixed 8 Try.func65 (by kernel_rfl) (fun _ => none) hc h1.1 ⟨⟨_, bodyOf_at hc h1.2, okA⟩, trivial⟩
set_option maxRecDepth 100000 in
theorem cS0 : CallOK Try.prog 64 (inl (cxA fops) Try.f64 ⟨fun _ => none, lpOf [(2, LSl fops)]⟩) := by
  have hb : Try.f64.body.isSome = true := by kernel_rfl
  obtain ⟨c, hc⟩ := Option.isSome_iff_exists.1 hb
  have h1 : (match Try.f64.body with | some c => onceB (loopsIn c) && (match loopAt 2 (loopsIn c) with | some _ => true | none => false) | none => false) = true := by kernel_rfl
  rw [hc] at h1
  simp only [Bool.and_eq_true] at h1
  exact inlL_of (l := LA fops) (ls := [(2, LSl fops)]) okLA mixed 8 Try.func64 (by kernel_rfl) (fun _ => none) hc h1.1 ⟨⟨_, bodyOf_at hc h1.2, okS⟩, trivial⟩
/-- Whether a log of a stove burns. -/
noncomputable def aR (O : FOps) (n : Int) (row : Int → List SC) : Bool := bif !eqFrom (nb O (datF row)) 0 n.toNat then true else false
set_option maxRecDepth 100000 in
theorem A_run (O : FOps) (f w o : Bool) (n N : Int) (row : Int → List SC) (a b : Nat) (s t : Int) (c : Nat) : roS (inl (cxA O) Try.f65 ⟨fun _ => none, lpOf [(2, LAl O)]⟩) 2 [.a (stL f n a b s t c)] [(1, ⟨w, o, .rows 18 N row⟩)] =
    some ⟨.c (.bool (.s (aR O n row))), [], 200, [flatR row, pB (PA n n 0 N n row)]⟩ := by kernel_rfl
set_option maxRecDepth 100000 in
theorem S_run (O : FOps) (f w o w' o' : Bool) (n N : Int) (row : Int → List SC) (a b : Nat) (s t : Int) (c : Nat) : roS (inl (cxA O) Try.f64 ⟨fun _ => none, lpOf [(2, LSl O)]⟩) 3 [.c (.ptr 2 0)] [(1, ⟨w, o, .rows 18 N row⟩), (2, ⟨w', o', .cells (stL f n a b s t c)⟩)] =
    some ⟨.c (.bool (.s (aR O n row))), [], 60, [flatR row, pB (PS N 0 n row)]⟩ := by kernel_rfl
noncomputable def aH (O : FOps) : CS := fun base args rd => match args with
  | [.a [.sl i o es (.s n) _, .flt .f32 _, .flt .f32 _, .int .i8 (.s _), .int .i64 (.s _), .flt .f32 _]] => match rd with
    | [(j, ⟨_, _, .rows st N row⟩)] => match Nat.beq base 2 && (Nat.beq i 1 && (Nat.beq o 0 && (Nat.beq es 18 && (Nat.beq j 1 && Nat.beq st 18)))) with
      | true => some ⟨.c (.bool (.s (aR O n row))), [], 200, [okN n N row]⟩
      | false => none
    | _ => none
  | _ => none
noncomputable def aHS (O : FOps) : CS := fun base args rd => match args with
  | [.c (.ptr i' o')] => match rd with
    | [(j, ⟨_, _, .rows st N row⟩), (j', ⟨_, _, .cells [.sl i o es (.s n) _, .flt .f32 _, .flt .f32 _, .int .i8 (.s _), .int .i64 (.s _), .flt .f32 _]⟩)] =>
      match Nat.beq base 3 && (Nat.beq i' 2 && (Nat.beq o' 0 && (Nat.beq j' 2 && (Nat.beq i 1 && (Nat.beq o 0 && (Nat.beq es 18 && (Nat.beq j 1 && Nat.beq st 18))))))) with
      | true => some ⟨.c (.bool (.s (aR O n row))), [], 60, [okN n N row]⟩
      | false => none
    | _ => none
  | _ => none
noncomputable def aC (O : FOps) : CS := orS (canS (aH O)) (inl (cxA O) Try.f65 noH)
noncomputable def aCS (O : FOps) : CS := orS (canS (aHS O)) (inl (cxA O) Try.f64 noH)
set_option maxRecDepth 100000 in
theorem cAC : CallOK Try.prog 65 (aC fops) :=
  (CallOK.hand (H := aH fops) cA0.ro fun b args rd e h hob => by
    unfold aH at h
    split at h <;> try (cases h; done)
    rename_i i o es n f xa xb s t xc
    split at h <;> try (cases h; done)
    rename_i j w p st N row
    split at h <;> cases h
    rename_i hc
    simp only [Bool.and_eq_true, beqN] at hc
    obtain ⟨rfl, rfl, rfl, rfl, rfl, rfl⟩ := hc
    obtain ⟨rfl, h0, hm, hs⟩ := pB_iff.1 hob.head
    exact ⟨_, A_run fops f w p N N row xa xb s t xc, AllT.cons (shape_flat hs) (AllT.one (pB_iff.2 ⟨rfl, rfl, rfl, rfl, h0, hm, hs⟩))⟩).can.or
    (inlN_of (l := LA fops) okLA mixed 8 Try.func65 (by kernel_rfl) (fun _ => none))
set_option maxRecDepth 100000 in
theorem cACS : CallOK Try.prog 64 (aCS fops) :=
  (CallOK.hand (H := aHS fops) cS0.ro fun b args rd e h hob => by
    unfold aHS at h
    split at h <;> try (cases h; done)
    rename_i i' o'
    split at h <;> try (cases h; done)
    rename_i j w p st N row j' w' p' i o es n f xa xb s t xc
    split at h <;> cases h
    rename_i hc
    simp only [Bool.and_eq_true, beqN] at hc
    obtain ⟨rfl, rfl, rfl, rfl, rfl, rfl, rfl, rfl, rfl⟩ := hc
    obtain ⟨rfl, h0, hm, hs⟩ := pB_iff.1 hob.head
    exact ⟨_, S_run fops f w p w' p' N N row xa xb s t xc, AllT.cons (shape_flat hs) (AllT.one (pB_iff.2 ⟨rfl, rfl, h0, hm, hs⟩))⟩).can.or
    (inlN_of (l := LA fops) okLA mixed 8 Try.func64 (by kernel_rfl) (fun _ => none))
end
end Go.Proofs.Ytngdmcbjponlhaa.Aly
