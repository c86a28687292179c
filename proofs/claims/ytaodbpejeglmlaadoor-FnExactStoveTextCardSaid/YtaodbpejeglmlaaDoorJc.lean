/- A contract of strings.Join. Nothing is assumed. -/
import Derived.Test.YtaodbpejeglmlaaDoorJn
import Derived.Test.YtaodbpejeglmlaaDoorFn
import Derived.Test.YtaodbpejeglmlaaDoorHex
namespace Go.Proofs.YtaodbpejeglmlaaDoor.Jn
open Go
noncomputable section

def strsL : List SC → Option (List ByteArray)
  | [] => some []
  | .str x :: l => match strsL l with
    | some r => some (x :: r)
    | none => none
  | _ :: _ => none
theorem strsL_ok {E : EM} : ∀ {l : List SC} {xs : List ByteArray} {vs : List Value}, strsL l = some xs → RelL E l vs → vs = xs.map Value.string
  | [], _, [], h, _ => by cases h; rfl
  | [], _, _ :: _, _, hr => hr.elim
  | _ :: _, _, [], _, hr => hr.elim
  | x :: l, r, v :: vs, h, hr => by
    unfold strsL at h
    split at h <;> try (cases h; done)
    · rename_i heq; cases heq
    · rename_i n l' heq
      cases heq
      split at h <;> cases h
      rename_i q hq
      have h1 : v = .string n := hr.1
      rw [strsL_ok hq hr.2, h1]
      rfl
def joinT (xs : List ByteArray) (sep : ByteArray) : ByteArray := ⟨(Go.Lib.join (xs.map (·.data.toList)) sep.data.toList).toArray⟩
def joinOk (xs : List ByteArray) (sep : ByteArray) : Bool := decide (xs.length ≤ 140737488355328 ∧ (Go.Lib.join (xs.map (·.data.toList)) sep.data.toList).length ≤ 140737488355328)
def joinS : CS := fun base args rd => match args with
  | [.c (.sl i o es (.c (.ofNat n)) _), .c (.str sep)] => match Nat.ble 1 n with
    | true => bindO (findS i rd) fun g => bindO (sLoad g.body (.ptr i o) n) fun r => bindO (strsL r.1) fun xs => some ⟨.c (.str (joinT xs sep)), [], base, joinOk xs sep :: r.2⟩
    | false => none
  | _ => none
set_option maxRecDepth 100000 in
theorem cJoin : CallOK Tryd.prog 34 joinS := by
  intro E base args vals rd w e hs hob hargs hb1 hbe hfr hmem
  unfold joinS at hs
  split at hs <;> try (cases hs; done)
  rename_i i o es n fu sep
  split at hs <;> try (cases hs; done)
  rename_i h1
  rw [Nat.ble_eq] at h1
  obtain ⟨g, hg, hs⟩ := bindO_some hs
  obtain ⟨⟨l, ob⟩, hl, hs⟩ := bindO_some hs
  obtain ⟨xs, hx, hs⟩ := bindO_some hs
  cases hs
  obtain ⟨lv⟩ := vals
  match lv, hargs with
  | [v, u], hargs =>
    have hu : u = .string sep := hargs.2.1
    subst hu
    obtain ⟨ad, nn, cap, hv, hn, hcap, hnil, hbase⟩ := hargs.1
    have hnn : nn = n := by simp only [SI.val, Int.ofNat_eq_natCast] at hn; omega
    subst hnn
    cases ad with
    | none => have := hnil rfl; omega
    | some ad =>
      obtain ⟨_, b, q, z, hE, ha, _⟩ := hbase ad rfl
      have had := ha (by omega)
      subst had
      have hob2 := hob.tail
      have hj := of_decide_eq_true (show joinOk xs sep = true from hob.head)
      obtain ⟨b', o', hv', vs, hlen, hrel, hcell⟩ := sLoad_ok hmem hg (p := .ptr i o) rfl (v := .pointer (some ⟨b, q + o, none⟩)) ⟨b, q, z, hE, rfl⟩ hl hob2
      cases hv'
      have hvs := strsL_ok hx hrel
      obtain ⟨b2, o2, z2, cs, T, fr, e2, s2⟩ := hmem.segs i g hg
      rw [hE] at e2; cases e2
      have hxl : xs.length = nn := by rw [← hlen, hvs]; simp
      have hcells : ∀ (j : Nat) x, xs[j]? = some x → w.cell? ⟨b, q + o + j, none⟩ = some (.string x) := fun j x hjx => by
        have hjl : j < xs.length := by
          rcases Nat.lt_or_ge j xs.length with h' | h'
          · exact h'
          · rw [List.getElem?_eq_none h'] at hjx; cases hjx
        rw [hcell j (by omega), hvs, List.getElem?_map, hjx]; rfl
      have hc := Any.strings_Join lays extra b (q + o) cap xs sep w hcells (lt_of_heap s2.heap) hj.1 (by omega) hj.2
      rw [hxl] at hc
      have hc' : Calls Tryd.prog 34 #[v, .string sep] w (fun e w'' => ∃ v, e = .returned v ∧ CallPost E base rd w ⟨.c (.str (joinT xs sep)), [], base, joinOk xs sep :: ob⟩ v w'') := by
        rw [hv]
        refine hc.mono fun e w' ⟨he, hw⟩ => ⟨_, he, ?_⟩
        have hsame : ∀ b, b < w.heap.size → w'.heap[b]? = w.heap[b]? := hw.block
        refine ⟨E, Ext.refl E, fun i hi => .inl hi, rfl, fun j gj hgj => ?_, fun j k gj gk b1 o1 z1 b2 o2 z2 hjk hgj hgk hr hb1 hb2 => hmem.disj j k gj gk b1 o1 z1 b2 o2 z2 hjk hgj hgk hr hb1 hb2, fun j gj b1 o1 z1 hgj hr hb1 => hmem.tch j gj b1 o1 z1 hgj hr hb1, ⟨hw.os, hw.output, hw.size, fun b hb => .inr (hsame b hb), fun hn => hn.elim⟩, hmem.tab⟩
        obtain ⟨b3, o3, z3, cs3, T3, fr3, e3, s3⟩ := hmem.segs j gj hgj
        exact ⟨b3, o3, z3, cs3, T3, fr3, e3, { s3 with heap := (hsame b3 (lt_of_heap s3.heap)).trans s3.heap }⟩
      have hrun : (callFunc 34 #[v, .string sep]).run Tryd.prog w = .ok (.enter 34 #[v, .string sep]) w := by
        have hb : Tryd.f34.body.isSome = true := by kernel_rfl
        have hne : ¬ Tryd.f34.name = "runtime.NumGoroutine" := by
          have : (Tryd.f34.name == "runtime.NumGoroutine") = false := by kernel_rfl
          simpa using this
        obtain ⟨c, hc⟩ := Option.isSome_iff_exists.1 hb
        simp [callFunc, Tryd.func34, hne, hc]
      show NextOK Tryd.prog ((callFunc 34 #[v, .string sep]).run Tryd.prog w) _
      rw [hrun]
      exact hc'
/-! ### small texts -/
def eT : ByteArray := ⟨#[]⟩
def spT : ByteArray := ⟨#[32]⟩
def sm (a b : ByteArray) : Bool := decide (a.size + b.size ≤ 9223372036854775807)
theorem size_hex (x : Nat) : (hexT x).size = 8 := rfl
theorem size_app (a b : ByteArray) : (a ++ b).size = a.size + b.size := ByteArray.size_append
theorem sm_ok {a b : ByteArray} (h : a.size + b.size ≤ 1000000) : sm a b = true := decide_eq_true (by omega)
theorem data_app (a b : ByteArray) : (a ++ b).data.toList = a.data.toList ++ b.data.toList := by
  rw [ByteArray.data_append, Array.toList_append]
theorem ba_ext {a b : ByteArray} (h : a.data.toList = b.data.toList) : a = b := by
  obtain ⟨⟨l⟩⟩ := a
  obtain ⟨⟨m⟩⟩ := b
  have : l = m := h
  rw [this]
theorem joinT_data (xs : List ByteArray) (sep : ByteArray) : (joinT xs sep).data.toList = Go.Lib.join (xs.map (·.data.toList)) sep.data.toList := rfl
end
end Go.Proofs.YtaodbpejeglmlaaDoor.Jn
