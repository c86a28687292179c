/- The text of a log. Nothing is assumed. -/
import Derived.Test.YtaodbpejeglmlaaVlg
import Derived.Test.YtaodbpejeglmlaaHex
import Derived.Test.YtaodbpejeglmlaaJc
import Derived.Test.YtaodbpejeglmlaaGl
namespace Go.Proofs.Ytaodbpejeglmlaa.Wt
open Go
noncomputable section

def eT : ByteArray := ⟨#[]⟩
def logT : ByteArray := ⟨#[108, 111, 103]⟩
def spT : ByteArray := ⟨#[32]⟩
def wtL (w : Nat → Nat) : List ByteArray := [logT, hexT (w 0), hexT (w 6), hexT (w 12), hexT (w 1), hexT (w 7), hexT (w 13), hexT (w 2), hexT (w 8), hexT (w 14), hexT (w 3), hexT (w 9), hexT (w 15), hexT (w 4), hexT (w 10), hexT (w 16), hexT (w 5), hexT (w 11), hexT (w 17)]
def wtI (w : Nat → Nat) : ByteArray := Jn.joinT (wtL w) spT
def Lw (vl : (Nat → Nat) → Bool) : List (Nat × CS) := [(34, gS (validG vl)), (31, gQ [.p 18] (validG vl)), (8, gS hexG), (25, gS hexG), (52, Jn.joinS)]
set_option maxRecDepth 100000 in
theorem okLw : AllOK Try.prog (Lw valid) := ⟨cValI, cValS, cHexI, cHexS, Jn.cJoin, trivial⟩
set_option maxRecDepth 100000 in
theorem wI_run (O : FOps) (vl : (Nat → Nat) → Bool) (w : Nat → Nat) : rE 1 (inl ⟨Try.prog, O, orcN Try.prog O (Lw vl) 8⟩ Try.f14 ⟨fun _ => none, fun _ => none⟩ 1 [wd w] []) =
    some (.c (.str (bif !vl (back w) then eT else wtI w)), [!vl (back w) || Jn.joinOk (wtL w) spT]) := by kernel_rfl
def cat3 (a b c : ByteArray) : ByteArray := ((((spT ++ a) ++ spT) ++ b) ++ spT) ++ c
def sm (a b : ByteArray) : Bool := decide (a.size + b.size ≤ 9223372036854775807)
/-- The text with the layers before 'i'. -/
def wtU (w : Nat → Nat) : Nat → ByteArray
  | 0 => logT
  | i + 1 => wtU w i ++ cat3 (hexT (w i)) (hexT (w (i + 6))) (hexT (w (i + 12)))
def wtO (w : Nat → Nat) (i : Nat) : List Bool :=
  [sm spT (hexT (w i)), sm (spT ++ hexT (w i)) spT, sm ((spT ++ hexT (w i)) ++ spT) (hexT (w (i + 6))), sm (((spT ++ hexT (w i)) ++ spT) ++ hexT (w (i + 6))) spT,
   sm ((((spT ++ hexT (w i)) ++ spT) ++ hexT (w (i + 6))) ++ spT) (hexT (w (i + 12))), sm (wtU w i) (cat3 (hexT (w i)) (hexT (w (i + 6))) (hexT (w (i + 12))))]
def wtOs (w : Nat → Nat) : List Bool := wtO w 0 ++ (wtO w 1 ++ (wtO w 2 ++ (wtO w 3 ++ (wtO w 4 ++ wtO w 5))))
set_option maxRecDepth 100000 in
theorem wS_run (O : FOps) (vl : (Nat → Nat) → Bool) (w : Nat → Nat) : rE 1 (inl ⟨Try.prog, O, orcN Try.prog O (Lw vl) 8⟩ Try.f12 ⟨fun _ => none, fun _ => none⟩ 1 [wd w] []) =
    some (.c (.str (bif !vl (back w) then eT else wtU w 6)), (wtOs w).map fun b => !vl (back w) || b) := by kernel_rfl
/-! ### the law of it -/
theorem size_hex (x : Nat) : (hexT x).size = 8 := rfl
theorem size_app (a b : ByteArray) : (a ++ b).size = a.size + b.size := ByteArray.size_append
theorem size_cat (a b c : Nat) : (cat3 (hexT a) (hexT b) (hexT c)).size = 27 := by
  unfold cat3
  simp only [size_app, size_hex]
  rfl
theorem size_U (w : Nat → Nat) : ∀ i, (wtU w i).size = 3 + 27 * i
  | 0 => rfl
  | i + 1 => by
    show (wtU w i ++ cat3 _ _ _).size = _
    rw [size_app, size_U w i, size_cat]; omega
theorem sm_ok {a b : ByteArray} (h : a.size + b.size ≤ 1000000) : sm a b = true := decide_eq_true (by omega)
theorem wtO_ok (w : Nat → Nat) {i : Nat} (hi : i < 6) : AllT (wtO w i) := by
  have h1 : spT.size = 1 := rfl
  refine AllT.cons (sm_ok ?_) (AllT.cons (sm_ok ?_) (AllT.cons (sm_ok ?_) (AllT.cons (sm_ok ?_) (AllT.cons (sm_ok ?_) (AllT.cons (sm_ok ?_) AllT.nil)))))
  all_goals simp only [size_app, size_hex, size_cat, size_U, h1]
  all_goals omega
theorem wtOs_ok (w : Nat → Nat) : AllT (wtOs w) :=
  AllT.app (wtO_ok w (by decide)) (AllT.app (wtO_ok w (by decide)) (AllT.app (wtO_ok w (by decide)) (AllT.app (wtO_ok w (by decide)) (AllT.app (wtO_ok w (by decide)) (wtO_ok w (by decide))))))
theorem data_app (a b : ByteArray) : (a ++ b).data.toList = a.data.toList ++ b.data.toList := by
  rw [ByteArray.data_append, Array.toList_append]
theorem ba_ext {a b : ByteArray} (h : a.data.toList = b.data.toList) : a = b := by
  obtain ⟨⟨l⟩⟩ := a
  obtain ⟨⟨m⟩⟩ := b
  have : l = m := h
  rw [this]
theorem joinT_data (xs : List ByteArray) (sep : ByteArray) : (Jn.joinT xs sep).data.toList = Go.Lib.join (xs.map (·.data.toList)) sep.data.toList := rfl
theorem wt_eq (w : Nat → Nat) : wtI w = wtU w 6 := by
  refine ba_ext ?_
  unfold wtI
  rw [joinT_data]
  simp only [wtU, cat3, data_app, wtL, List.map_cons, List.map_nil, Go.Lib.join, List.intercalate, List.intersperse, List.flatten_cons, List.flatten_nil, List.append_nil, List.append_assoc]
theorem joinOk_ok (w : Nat → Nat) : Jn.joinOk (wtL w) spT = true := by
  refine decide_eq_true ⟨by simp [wtL], ?_⟩
  have h : (Go.Lib.join ((wtL w).map (·.data.toList)) spT.data.toList) = (wtU w 6).data.toList := by
    rw [← wt_eq, ← joinT_data]; rfl
  rw [h]
  have : (wtU w 6).data.toList.length = (wtU w 6).size := rfl
  rw [this, size_U]; omega
/-- The text of a log, told of a call. -/
def wtG (vl : (Nat → Nat) → Bool) : List SV → Option SV
  | [v] => match wdOf v with
    | some w => some (.c (.str (bif !vl (back w) then eT else wtU w 6)))
    | none => none
  | _ => none
theorem cWtI : CallOK Try.prog 14 (gS (wtG valid)) :=
  gS_of2 (inlN_of (l := Lw valid) okLw mixed 8 Try.func14 (by kernel_rfl) (fun _ => none)) fun args r E vals hG hr => by
    unfold wtG at hG
    split at hG <;> try (cases hG; done)
    split at hG <;> cases hG
    rename_i w hw
    rw [wdOf_ok hw]
    refine ⟨rfl, _, _, wI_run fops valid w, rfl, ?_, ?_⟩
    · rw [joinOk_ok, Bool.or_true]; exact AllT.one' rfl
    · rw [wt_eq]; exact fun E v hv => hv
theorem cWtS : CallOK Try.prog 12 (gS (wtG valid)) :=
  gS_of2 (inlN_of (l := Lw valid) okLw mixed 8 Try.func12 (by kernel_rfl) (fun _ => none)) fun args r E vals hG hr => by
    unfold wtG at hG
    split at hG <;> try (cases hG; done)
    split at hG <;> cases hG
    rename_i w hw
    rw [wdOf_ok hw]
    refine ⟨rfl, _, _, wS_run fops valid w, rfl, ?_, fun E v hv => hv⟩
    intro b hb
    obtain ⟨b', h1, rfl⟩ := List.mem_map.1 hb
    rw [wtOs_ok w b' h1, Bool.or_true]
end
end Go.Proofs.Ytaodbpejeglmlaa.Wt
