/- From a contract to a law's walk. Nothing is assumed. -/
import Derived.Test.YtaodbpejeglmlaaDoorSs
import Derived.RowKit3
namespace Go.Proofs.YtaodbpejeglmlaaDoor
open Go Go.RowKit

/-- What was is as it was; what is new may share its bytes with a string. -/
def Grown (W w' : World) : Prop := W.keptBut w' (fun _ => False) ∧ (∀ a : Addr, a.block < W.heap.size → w'.frozen? a = W.frozen? a) ∧ W.heap.size ≤ w'.heap.size
theorem Grown.frame {W w' : World} (h : Grown W w') (may : MemPlace → Prop) : W.keptBut w' may := World.keptBut_mono (fun _ f => f.elim) h.1
theorem grown_of {w w' : World} {T : Nat → Nat → Prop} (h : Fr w w' T) (hT : ∀ b k, b < w.heap.size → ¬ T b k) : Grown w w' := by
  have same : ∀ b, b < w.heap.size → w'.heap[b]? = w.heap[b]? := by
    intro b hb
    rcases h.old b hb with ⟨cs, t, fr, cs', g1, g2, g3, g4⟩ | g1
    · rw [g1, g2]
      have : cs' = cs := Array.ext (by omega) fun i h1 h2 => by
        have := g4 i (hT b i hb)
        rw [Array.getElem?_eq_getElem h1, Array.getElem?_eq_getElem h2] at this
        exact Option.some.inj this
      rw [this]
    · exact g1
  refine ⟨⟨h.os, h.out, fun i hi => ?_⟩, fun a hb => ?_, h.size⟩
  · rw [same i hi]
    split
    · rename_i h1 h2
      rw [h1] at h2; cases h2
      exact ⟨rfl, rfl, rfl, fun _ _ => rfl⟩
    · rename_i h1 h2
      rw [h1] at h2; cases h2
      exact .inr ⟨rfl, rfl⟩
    · rfl
  · unfold World.frozen?
    rw [same _ hb]
theorem calls_of {P : Program} {f : FuncId} {fn : Func} (hf : P.funcs[f]? = some fn) (hname : (fn.name == "runtime.NumGoroutine") = false) (hb : fn.body.isSome = true) {vals : Array Value} {w : World} {post : Value → World → Prop} (h : NextOK P ((callFunc f vals).run P w) post) :
    Calls P f vals w fun e w' => ∃ v, e = .returned v ∧ post v w' := by
  have hne : ¬ fn.name = "runtime.NumGoroutine" := by simpa using hname
  obtain ⟨c, hc⟩ := Option.isSome_iff_exists.1 hb
  have hr : (callFunc f vals).run P w = .ok (.enter f vals) w := by simp [callFunc, hf, hne, hc]
  rw [hr] at h
  exact h
/-- No memory at all. -/
theorem mem_nil (w : World) (E : EM)
    (htab : Tab w) :
    MemRel w (Tch E []) E (fun i => findS i []) w := by
  exact ⟨fun i g hg => (by cases hg), fun i j g k b o z b' o' z' _ hg => (by cases hg), fun i g b o z hg => (by cases hg), Fr.refl _ _, htab, fun b k _ ⟨i, g, o, z, hg, _⟩ => by cases hg⟩
/-- A law whose arguments lead to no memory. -/
theorem law_of {P : Program} {f : FuncId} {S : CS} (h : CallOK P f S) {fn : Func} (hf : P.funcs[f]? = some fn) (hname : (fn.name == "runtime.NumGoroutine") = false) (hb : fn.body.isSome = true) {args : List SV} {vals : Array Value} {e : CEff} {b : SB}
    (he : S 1 args [] = some e) (hob : AllT e.obs) (hret : e.ret = .c (.bool b)) (hbv : b.val = true) (hn : 1 ≤ e.next) (hvals : RelVs (fun _ => none) args vals.toList) (w : World)
    (htab : Tab w) :
    Calls P f vals w fun e w' => e = .returned (.bool true) ∧ Grown w w' := by
  have hm0 : MemRel w (Tch (fun _ => none) []) (fun _ => none) (fun i => findS i []) w :=
    mem_nil w (fun _ => none)
      htab
  refine (calls_of hf hname hb (h (fun _ => none) 1 args vals [] w e he hob hvals (Nat.le_refl _) hn (fun _ _ _ => rfl) hm0)).mono fun x w' hx => ?_
  obtain ⟨v, hv, E', k1, k2, k3, k4⟩ := hx
  rw [hret] at k3
  have k3' : v = .bool b.val := k3
  rw [hbv] at k3'
  refine ⟨by rw [hv, k3'], grown_of k4.fr fun b k _ ⟨i, g, o, z, hg, _⟩ => by cases hg⟩
end Go.Proofs.YtaodbpejeglmlaaDoor
