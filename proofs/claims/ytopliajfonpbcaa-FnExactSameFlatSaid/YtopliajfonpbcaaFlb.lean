/- Walls and panes that are valid. Nothing is assumed. -/
import Derived.Test.YtopliajfonpbcaaFla
namespace Go.Proofs.Ytopliajfonpbcaa.Fla
open Go
noncomputable section
def hot (O : FOps) (a : Nat) : Bool := bif O.cmp .geq .f32 a 3262119936 then O.cmp .leq .f32 a 1128792064 else false
def sto (O : FOps) (a : Nat) : Bool := bif decide (a < 2139095040) then bif O.cmp .geq .f32 a 1065353216 then O.cmp .leq .f32 a 1176256512 else false else false
def lead (O : FOps) (a : Nat) : Bool := bif O.cmp .geq .f32 a 1015021568 then O.cmp .leq .f32 a 1120403456 else false
def upTo (O : FOps) (m a : Nat) : Bool := bif decide (a < 2139095040) then O.cmp .leq .f32 a m else false
def std (n a b : Int) : Bool := bif decide (0 ≤ a) then bif decide (a < n) then bif decide (-1 ≤ b) then bif decide (b < n) then !decide (a = b) else false else false else false else false
def inS (lo n a : Int) : Bool := bif decide (lo ≤ a) then decide (a ≤ IntKind.i64.wrap (n - 1)) else false
def stdS (n a b : Int) : Bool := bif inS 0 n a then bif inS (-1) n b then !decide (a = b) else false else false
theorem wrap_in {x : Int} (h0 : -9223372036854775808 ≤ x) (h1 : x < 9223372036854775808) : IntKind.i64.wrap x = x := by
  unfold IntKind.wrap
  have hb : IntKind.bits IntKind.i64 = 64 := rfl
  have hs : IntKind.signed IntKind.i64 = true := rfl
  rw [hb, hs]
  by_cases hx : 0 ≤ x
  · have e : x % 2 ^ 64 = x := Int.emod_eq_of_lt hx (by omega)
    rw [e]
    simp; omega
  · have e : x % 2 ^ 64 = x + 18446744073709551616 := by omega
    rw [e]
    simp; omega
theorem inS_eq {lo n : Int} (h0 : 0 ≤ n) (h1 : n ≤ 1048576) (x : Int) : inS lo n x = bif decide (lo ≤ x) then decide (x < n) else false := by
  unfold inS
  rw [wrap_in (by omega) (by omega)]
  have : decide (x ≤ n - 1) = decide (x < n) := decide_eq_decide.2 (by omega)
  rw [this]
theorem stdS_eq {n : Int} (h0 : 0 ≤ n) (h1 : n ≤ 1048576) (a b : Int) : stdS n a b = std n a b := by
  unfold stdS std
  rw [inS_eq h0 h1, inS_eq h0 h1]
  cases decide (0 ≤ a) <;> cases decide (a < n) <;> cases decide (-1 ≤ b) <;> cases decide (b < n) <;> rfl
/-- What is wrong with a wall, its heats apart. -/
def badW (O : FOps) (st : Bool) (l s : Nat) : Bool := bif !st then true else bif !decide (l < 2139095040) then true else bif !lead O l then true else !sto O s
def wallS (O : FOps) (st : Bool) (l s a b c d : Nat) : Bool :=
  bif !hot O a then false else bif !hot O b then false else bif !hot O c then false else bif !hot O d then false else
  bif st then bif decide (l < 2139095040) then bif O.cmp .geq .f32 l 1015021568 then bif O.cmp .leq .f32 l 1120403456 then sto O s else false else false else false else false
def wallI (O : FOps) (st : Bool) (l s a b c d : Nat) : Bool :=
  bif badW O st l s then false else bif !hot O a then false else bif !hot O b then false else bif !hot O c then false else bif !hot O d then false else true
theorem wallS_eq (O : FOps) (st : Bool) (l s a b c d : Nat) : wallS O st l s a b c d = wallI O st l s a b c d := by
  unfold wallS wallI badW lead
  cases st <;> cases hot O a <;> cases hot O b <;> cases hot O c <;> cases hot O d <;> cases decide (l < 2139095040) <;> cases O.cmp .geq .f32 l 1015021568 <;> cases O.cmp .leq .f32 l 1120403456 <;> cases sto O s <;> rfl
def badP (O : FOps) (st : Bool) (l s : Nat) : Bool := bif !st then true else bif !upTo O 1120403456 l then true else !upTo O 1092616192 s
def paneS (O : FOps) (st : Bool) (l s : Nat) : Bool := bif st then bif decide (l < 2139095040) then bif O.cmp .leq .f32 l 1120403456 then upTo O 1092616192 s else false else false else false
theorem paneS_eq (O : FOps) (st : Bool) (l s : Nat) : paneS O st l s = !badP O st l s := by
  unfold paneS badP
  unfold upTo
  cases st <;> cases decide (l < 2139095040) <;> cases O.cmp .leq .f32 l 1120403456 <;> cases decide (s < 2139095040) <;> cases O.cmp .leq .f32 s 1092616192 <;> rfl
def wallG (O : FOps) : List SV → Option SV
  | [.a [.int .i64 (.s x), .int .i64 (.s y), .flt .f32 l, .flt .f32 s, .flt .f32 a, .flt .f32 b, .flt .f32 c, .flt .f32 d], .c (.int .i64 (.s n))] => some (.c (.bool (.s (wallS O (stdS n x y) l s a b c d))))
  | _ => none
def paneG (O : FOps) : List SV → Option SV
  | [.a [.int .i64 (.s x), .int .i64 (.s y), .flt .f32 l, .flt .f32 s], .c (.int .i64 (.s n))] => some (.c (.bool (.s (paneS O (stdS n x y) l s))))
  | _ => none
set_option maxRecDepth 100000 in
theorem cWall : CallOK Try.prog 92 (gQ [.p 8, .v] (wallG fops)) :=
  gQ_of2 (inlN_of (l := L0) okL0 mixed 8 Try.func92 (by kernel_rfl) (fun _ => none)) fun dl r E hG hv => by
    unfold wallG at hG
    split at hG <;> cases hG
    rename_i x y l s a b c d n
    have h : ∀ O : FOps, rE 2 (inl (cx0 O) Try.f92 ⟨fun _ => none, fun _ => none⟩ 2 [.c (.ptr 1 0), .c (.int .i64 (.s n))] [(1, ⟨false, false, .cells [.int .i64 (.s x), .int .i64 (.s y), .flt .f32 l, .flt .f32 s, .flt .f32 a, .flt .f32 b, .flt .f32 c, .flt .f32 d]⟩)]) = some (.c (.bool (.s (wallS O (stdS n x y) l s a b c d))), []) := fun O => by kernel_rfl
    exact ⟨_, _, h fops, rfl, AllT.nil, fun _ _ h => h⟩
set_option maxRecDepth 100000 in
theorem cPane : CallOK Try.prog 93 (gQ [.p 4, .v] (paneG fops)) :=
  gQ_of2 (inlN_of (l := L0) okL0 mixed 8 Try.func93 (by kernel_rfl) (fun _ => none)) fun dl r E hG hv => by
    unfold paneG at hG
    split at hG <;> cases hG
    rename_i x y l s n
    have h : ∀ O : FOps, rE 2 (inl (cx0 O) Try.f93 ⟨fun _ => none, fun _ => none⟩ 2 [.c (.ptr 1 0), .c (.int .i64 (.s n))] [(1, ⟨false, false, .cells [.int .i64 (.s x), .int .i64 (.s y), .flt .f32 l, .flt .f32 s]⟩)]) = some (.c (.bool (.s (paneS O (stdS n x y) l s))), []) := fun O => by kernel_rfl
    exact ⟨_, _, h fops, rfl, AllT.nil, fun _ _ h => h⟩
def L1 (O : FOps) : List (Nat × CS) := (92, gQ [.p 8, .v] (wallG O)) :: (93, gQ [.p 4, .v] (paneG O)) :: L0
set_option maxRecDepth 100000 in
theorem okL1 : AllOK Try.prog (L1 fops) := ⟨cWall, cPane, okL0⟩
def cx1 (O : FOps) : Cx := ⟨Try.prog, O, orcN Try.prog O (L1 O) 8⟩
end
end Go.Proofs.Ytopliajfonpbcaa.Fla
