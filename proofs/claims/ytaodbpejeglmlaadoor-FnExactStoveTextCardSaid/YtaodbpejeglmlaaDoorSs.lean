/- Contracts. Nothing is assumed. -/
import Derived.Test.YtaodbpejeglmlaaDoorSr
namespace Go.Proofs.YtaodbpejeglmlaaDoor
open Go

/-- The contracts that are known, each with its function's number. -/
def orcOf : List (Nat × CS) → Nat → Option CS
  | [], _ => none
  | (i, S) :: l, f => match Nat.beq f i with
    | true => some S
    | false => orcOf l f
def AllOK (P : Program) : List (Nat × CS) → Prop
  | [] => True
  | (i, S) :: l => CallOK P i S ∧ AllOK P l
theorem orcOf_ok {P : Program} : ∀ {l : List (Nat × CS)}, AllOK P l → ∀ f S, orcOf l f = some S → CallOK P f S
  | [], _, f, S, h => by cases h
  | (i, S') :: l, ha, f, S, h => by
    simp only [orcOf] at h
    split at h
    · rename_i hb
      cases h
      rw [beqN.1 hb]; exact ha.1
    · exact orcOf_ok ha.2 f S h
def noH : Hn := ⟨fun _ => none, fun _ => none⟩
theorem inl_of {P : Program} {l : List (Nat × CS)} (ha : AllOK P l) (hmx : P.follows .mixedOrders = true) {f : FuncId} {fn : Func} (hf : P.funcs[f]? = some fn) (hname : (fn.name == "runtime.NumGoroutine") = false) (ts : Nat → Option Bool) :
    CallOK P f (inl ⟨P, fops, orcOf l⟩ fn ⟨ts, fun _ => none⟩) :=
  inl_ok (cx := ⟨P, fops, orcOf l⟩) rfl (orcOf_ok ha) hmx hf hname (fun _ _ _ _ L h => by cases h)

/-- Every function that no contract tells of is run through, 'n' deep. -/
noncomputable def orcN (P : Program) (O : FOps) (l : List (Nat × CS)) (n : Nat) : Nat → Option CS :=
  Nat.rec (motive := fun _ => Nat → Option CS) (fun f => orcOf l f)
    (fun _ ih f => match orcOf l f with
      | some S => some S
      | none => match P.funcs[f]? with
        | some fn => match fn.name == "runtime.NumGoroutine" with
          | false => some (inl ⟨P, O, ih⟩ fn noH)
          | true => none
        | none => none) n
theorem orcN_ok {P : Program} {l : List (Nat × CS)} (ha : AllOK P l) (hmx : P.follows .mixedOrders = true) : ∀ (n : Nat) (f : Nat) (S : CS), orcN P fops l n f = some S → CallOK P f S
  | 0, f, S, h => orcOf_ok ha f S h
  | n + 1, f, S, h => by
    replace h : (match orcOf l f with
      | some S => some S
      | none => match P.funcs[f]? with
        | some fn => match fn.name == "runtime.NumGoroutine" with
          | false => some (inl ⟨P, fops, orcN P fops l n⟩ fn noH)
          | true => none
        | none => none) = some S := h
    split at h
    · rename_i S' hS; cases h; exact orcOf_ok ha f S hS
    · split at h <;> try (cases h; done)
      rename_i fn hf
      split at h <;> cases h
      rename_i hname
      exact inl_ok (cx := ⟨P, fops, orcN P fops l n⟩) rfl (orcN_ok ha hmx n) hmx hf hname (fun _ _ _ _ L h => by cases h)
theorem inlN_of {P : Program} {l : List (Nat × CS)} (ha : AllOK P l) (hmx : P.follows .mixedOrders = true) (n : Nat) {f : FuncId} {fn : Func} (hf : P.funcs[f]? = some fn) (hname : (fn.name == "runtime.NumGoroutine") = false) (ts : Nat → Option Bool) :
    CallOK P f (inl ⟨P, fops, orcN P fops l n⟩ fn ⟨ts, fun _ => none⟩) :=
  inl_ok (cx := ⟨P, fops, orcN P fops l n⟩) rfl (orcN_ok ha hmx n) hmx hf hname (fun _ _ _ _ L h => by cases h)

/-- Less may be said. -/
theorem CallOK.weak {P : Program} {f : FuncId} {S S' : CS} (h : CallOK P f S) (hw : ∀ base args rd e (E : EM) vals, S' base args rd = some e → AllT e.obs → RelVs E args vals → ∃ e0, S base args rd = some e0 ∧ AllT e0.obs ∧ (∀ E v, RelV E e0.ret v → RelV E e.ret v) ∧ e0.ws = e.ws ∧ base ≤ e0.next ∧ e0.next ≤ e.next) : CallOK P f S' := by
  intro E base args vals rd w e hs hob hargs hb1 hbe hfr hmem
  obtain ⟨e0, h1, h2, h3, h4, h5, h6⟩ := hw base args rd e E vals.toList hs hob hargs
  refine (h E base args vals rd w e0 h1 h2 hargs hb1 h5 (fun i hi1 hi2 => hfr i hi1 (Nat.lt_of_lt_of_le hi2 h6)) hmem).mono fun v w' hp => ?_
  obtain ⟨E', k1, k2, k3, k4⟩ := hp
  exact ⟨E', k1, fun i hi => (k2 i hi).imp (fun h => h) fun h => ⟨h.1, Nat.lt_of_lt_of_le h.2 h6⟩, h3 E' v k3, by rw [← h4]; exact k4⟩

/-! ### what names no segment -/
def flatC : SC → Bool
  | .any | .bool _ | .int _ _ | .flt _ _ | .str _ | .nilp => true
  | _ => false
def flatL : List SC → Bool
  | [] => true
  | x :: l => match flatC x with
    | true => flatL l
    | false => false
def flatE : List SE → Bool
  | [] => true
  | .c x :: l => match flatC x with
    | true => flatE l
    | false => false
  | .a m :: l => match flatL m with
    | true => flatE l
    | false => false
def flatV : SV → Bool
  | .any => true
  | .undef => true
  | .c x => flatC x
  | .a l => flatL l
  | .tup l => flatE l
def flatVs : List SV → Bool
  | [] => true
  | v :: l => match flatV v with
    | true => flatVs l
    | false => false
theorem flatC_ok {E E' : EM} {x : SC} {v : Value} (h : flatC x = true) (hr : RelC E x v) : RelC E' x v := by
  cases x <;> first | exact hr | cases h
theorem flatL_ok {E E' : EM} : ∀ {l : List SC} {m : List Value}, flatL l = true → RelL E l m → RelL E' l m
  | [], [], _, _ => trivial
  | [], _ :: _, _, h => h.elim
  | _ :: _, [], _, h => h.elim
  | x :: l, v :: m, h, hr => by
    simp only [flatL] at h
    split at h
    · rename_i hx; exact ⟨flatC_ok hx hr.1, flatL_ok h hr.2⟩
    · cases h
theorem flatE_ok {E E' : EM} : ∀ {l : List SE} {m : List Value}, flatE l = true → RelEs E l m → RelEs E' l m
  | [], [], _, _ => trivial
  | [], _ :: _, _, h => h.elim
  | _ :: _, [], _, h => h.elim
  | .c x :: l, v :: m, h, hr => by
    simp only [flatE] at h
    split at h
    · rename_i hx; exact ⟨flatC_ok hx hr.1, flatE_ok h hr.2⟩
    · cases h
  | .a n :: l, v :: m, h, hr => by
    simp only [flatE] at h
    split at h
    · rename_i hx
      obtain ⟨vs, h1, h2⟩ := hr.1
      exact ⟨⟨vs, h1, flatL_ok hx h2⟩, flatE_ok h hr.2⟩
    · cases h
theorem flatV_ok {E E' : EM} {x : SV} {v : Value} (h : flatV x = true) (hr : RelV E x v) : RelV E' x v := by
  cases x with
  | any => trivial
  | undef => exact hr
  | c x => exact flatC_ok h hr
  | a l => obtain ⟨vs, h1, h2⟩ := hr; exact ⟨vs, h1, flatL_ok h h2⟩
  | tup l => obtain ⟨vs, h1, h2⟩ := hr; exact ⟨vs, h1, flatE_ok h h2⟩
theorem flatVs_ok {E E' : EM} : ∀ {l : List SV} {m : List Value}, flatVs l = true → RelVs E l m → RelVs E' l m
  | [], [], _, _ => trivial
  | [], _ :: _, _, h => h.elim
  | _ :: _, [], _, h => h.elim
  | x :: l, v :: m, h, hr => by
    simp only [flatVs] at h
    split at h
    · rename_i hx; exact ⟨flatV_ok hx hr.1, flatVs_ok h hr.2⟩
    · cases h
/-- A call that neither is handed memory nor hands any back: where its ids begin does not matter. -/
def flatS (S : CS) : CS := fun base args rd => match rd with
  | [] => match flatVs args with
    | true => match S 1 args [] with
      | some e => match Nat.ble 1 e.next && flatV e.ret with
        | true => some ⟨e.ret, [], base, e.obs⟩
        | false => none
      | none => none
    | false => none
  | _ :: _ => none
theorem flatS_eq {S : CS} {args : List SV} {e : CEff} {base : Nat} (h : S 1 args [] = some e) (ha : flatVs args = true) (hr : flatV e.ret = true) (hn : Nat.ble 1 e.next = true) : flatS S base args [] = some ⟨e.ret, [], base, e.obs⟩ := by
  simp only [flatS, ha, h, hr, hn, Bool.and_true]
theorem CallOK.flat {P : Program} {f : FuncId} {S : CS} (h : CallOK P f S) : CallOK P f (flatS S) := by
  intro E base args vals rd w e hs hob hargs hb1 hbe hfr hmem
  unfold flatS at hs
  split at hs <;> try (cases hs; done)
  split at hs <;> try (cases hs; done)
  rename_i hfl
  split at hs <;> try (cases hs; done)
  rename_i e0 he
  split at hs <;> cases hs
  rename_i hb
  simp only [Bool.and_eq_true, Nat.ble_eq] at hb
  have hm0 : MemRel w (Tch (fun _ => none) []) (fun _ => none) (fun i => findS i []) w :=
    ⟨fun i g hg => (by cases hg), fun i j g k b o z b' o' z' _ hg => (by cases hg), fun i g b o z hg => (by cases hg), Fr.refl _ _, hmem.tab.1, fun b k _ ⟨i, g, o, z, hg, _⟩ => by cases hg⟩
  refine (h (fun _ => none) 1 args vals [] w e0 he hob (flatVs_ok hfl hargs) (Nat.le_refl _) hb.1 (fun _ _ _ => rfl) hm0).mono fun v w' hp => ?_
  obtain ⟨E', k1, k2, k3, k4⟩ := hp
  refine ⟨E, Ext.refl E, fun i hi => .inl hi, flatV_ok hb.2 k3, fun i g hg => (by cases hg), fun i j g k b o z b' o' z' _ hg => (by cases hg), fun i g b o z hg => (by cases hg), ?_, hmem.tab⟩
  have hfr := k4.fr
  refine ⟨hfr.os, hfr.out, hfr.size, fun b hb => ?_, hfr.frz⟩
  rcases hfr.old b hb with ⟨cs, t, fr, cs', g1, g2, g3, g4⟩ | g1
  · refine .inl ⟨cs, t, fr, cs', g1, g2, g3, fun j _ => g4 j fun ⟨i, g, o, z, hg, _⟩ => ?_⟩
    cases hg
  · exact .inr g1

/-- A contract of what is computed alone. -/
def gS (G : List SV → Option SV) : CS := fun base args rd => match rd with
  | [] => match G args with
    | some r => some ⟨r, [], base, []⟩
    | none => none
  | _ :: _ => none
theorem gS_of {P : Program} {f : FuncId} {S : CS} (h : CallOK P f S) {G : List SV → Option SV} (hG : ∀ args r (E : EM) vals, G args = some r → RelVs E args vals → flatVs args = true ∧ ∃ e0, S 1 args [] = some e0 ∧ flatV e0.ret = true ∧ Nat.ble 1 e0.next = true ∧ AllT e0.obs ∧ ∀ E v, RelV E e0.ret v → RelV E r v) : CallOK P f (gS G) := by
  refine h.flat.weak fun base args rd e E vals hs hob hargs => ?_
  unfold gS at hs
  split at hs <;> try (cases hs; done)
  split at hs <;> cases hs
  rename_i r hr
  obtain ⟨h1, e0, h2, h3, h4, h5, h6⟩ := hG args r E vals hr hargs
  exact ⟨_, flatS_eq h2 h1 h3 h4, h5, h6, rfl, Nat.le_refl _, Nat.le_refl _⟩

/-! ### the library's own functions -/
theorem run_extern {P : Program} {f : FuncId} {fn : Func} (hf : P.funcs[f]? = some fn) (hname : (fn.name == "runtime.NumGoroutine") = false) (hb : fn.body.isNone = true) (hn : Extern.findNext fn = none) {x : Array Value → Sem Value} (he : Extern.find fn = some x) {vals : Array Value} {w w' : World} {v : Value} (hr : (x vals).run P w = .ok v w') :
    (callFunc f vals).run P w = .ok (.value v) w' := by
  have hne : ¬ fn.name = "runtime.NumGoroutine" := by simpa using hname
  have hbn : fn.body = none := by simpa using hb
  simp [callFunc, hf, hne, hbn, hn, he, hr]
/-- A call that only computes. -/
theorem CallOK.pure {P : Program} {f : FuncId} {S : CS} (h : ∀ E base args vals rd w e, S base args rd = some e → AllT e.obs → RelVs E args vals.toList → e.ws = [] ∧ ∃ v, (callFunc f vals).run P w = .ok (.value v) w ∧ RelV E e.ret v) : CallOK P f S := by
  intro E base args vals rd w e hs hob hargs hb1 hbe hfr hmem
  obtain ⟨h1, v, h2, h3⟩ := h E base args vals rd w e hs hob hargs
  rw [h2]
  refine ⟨E, Ext.refl E, fun i hi => .inl hi, h3, ?_⟩
  rw [h1]; exact hmem
def bits32S : CS := fun base args _ => match args with
  | [.c (.flt .f32 x)] => some ⟨.c (.int .u32 (.s x)), [], base, [!Nat.beq x (qnan .f32)]⟩
  | _ => none
theorem can_ne {k : FloatKind} {r : Nat} (h : can k r ≠ qnan k) : can k r = r := by
  unfold can at *
  split
  · rename_i hn; rw [if_pos hn] at h; exact absurd rfl h
  · rfl
theorem bits32_ok {P : Program} {f : FuncId} {fn : Func} (hf : P.funcs[f]? = some fn) (hname : (fn.name == "runtime.NumGoroutine") = false) (hb : fn.body.isNone = true) (hn : Extern.findNext fn = none) (he : Extern.find fn = some Extern.MathFloatBits.float32bits) : CallOK P f bits32S := by
  refine CallOK.pure fun E base args vals rd w e hs hob hargs => ?_
  unfold bits32S at hs
  split at hs <;> cases hs
  rename_i x
  refine ⟨rfl, ?_⟩
  obtain ⟨l⟩ := vals
  match l, hargs with
  | [v], hargs =>
    obtain ⟨r, rfl, h2, h3⟩ := hargs.1
    refine ⟨.int .u32 r, run_extern hf hname hb hn he rfl, ?_⟩
    have hx : x ≠ qnan .f32 := fun e => by
      have := hob _ (List.mem_singleton.2 rfl)
      rw [beqN.2 e] at this; cases this
    show Value.int .u32 (r : Int) = .int .u32 ((x : Nat) : Int)
    rw [← h3] at hx ⊢
    rw [can_ne hx]

end Go.Proofs.YtaodbpejeglmlaaDoor
