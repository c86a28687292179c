/- Parts of a proof, merged: Ql2, Ql3, Ql4, Ql5, Ql6, Ql7, Ql8. Nothing is assumed. -/
import Derived.Test.YtaoeigofmfpamaaMhE
/- The law: its second half. Nothing is assumed. -/
section
namespace Go.Proofs.Ytaoeigofmfpamaa
open Go
noncomputable section
def Keep (sg sg2 : Nat → Option Seg) : Prop := ∀ j g, sg j = some g → sg2 j = some g
def FI (E : EM) (a : Nat) : Prop := ∀ j, a ≤ j → j < 1000 → E j = none
def FF (E : EM) (b : Nat) : Prop := ∀ f p, b ≤ f → f < 32 → E (gid f p) = none
theorem put_d {a : Act} {d : Nat} {v : Value} (h : a.defers = []) : (a.put (some d) v).defers = [] := h
theorem gid_f {f f' p p' : Nat} (hf : f < 32) (hf' : f' < 32) (h : gid f p = gid f' p') : f = f' := by unfold gid at h; omega
theorem fi_step {E E2 : EM} {h f a : Nat} (hI : FI E a) (ha : a ≤ h + 1) (hold : ∀ j, E2 j ≠ none → E j ≠ none ∨ j = h ∨ ∃ p, j = gid f p) : FI E2 (h + 1) := fun j h1 h2 => by
  cases hx : E2 j with
  | none => rfl
  | some y =>
    rcases hold j (by rw [hx]; simp) with k | k | ⟨p, k⟩
    · exact absurd (hI j (by omega) h2) k
    · omega
    · have := gid_ge f p; omega
theorem ff_step {E E2 : EM} {h f b : Nat} (hF : FF E b) (hb : b ≤ f + 1) (hf : f < 32) (hh : h < 1000) (hold : ∀ j, E2 j ≠ none → E j ≠ none ∨ j = h ∨ ∃ p, j = gid f p) : FF E2 (f + 1) := fun f' p h1 h2 => by
  cases hx : E2 (gid f' p) with
  | none => rfl
  | some y =>
    rcases hold _ (by rw [hx]; simp) with k | k | ⟨q, k⟩
    · exact absurd (hF f' p (by omega) h2) k
    · have := gid_ge f' p; omega
    · have := gid_f h2 hf k; omega
section
variable {w0 w : World} {T0 : Nat → Nat → Prop} {E : EM} {sg sg2 : Nat → Option Seg} {n m : Int} {L : Nat → Int} {R : Nat → Int → List SC} {rr : Int → List SC} {rw : Bool} {h f hA fA : Nat}
theorem SSof.keep (hs : SSof sg rw hA fA n L R) (k : Keep sg sg2) : SSof sg2 rw hA fA n L R :=
  ⟨fun hn => let ⟨o, ho⟩ := hs.hd hn; ⟨o, k _ _ ho⟩, fun p hp => let ⟨⟨o, ho⟩, r⟩ := hs.row p hp; ⟨⟨o, k _ _ ho⟩, r⟩⟩
theorem ovl_keep (gm : GM w0 T0 E sg w) (hf : f < 32) (hh : E h = none) (hfr : ∀ p, E (gid f p) = none) {hd : Int → List SC} {k : Int} : Keep sg (ovl sg h f k n hd L R) := fun j g hj => by
  have hne := gm.has hj
  unfold ovl
  rw [if_neg (fun e => hne (by rw [e]; exact hh)), if_neg (fun e => hne (by rw [(isF_iff hf).1 e.1]; exact hfr _))]
  exact hj
theorem ovl_ss (hs : SSof sg rw hA fA n L R) (hh : h < 1000) (hf : f < 32) : SSof (ovl sg h f n n (hdr f L) L (fun p => cpR (L p) (R p))) true h f n L (fun p => cpR (L p) (R p)) := by
  refine ⟨fun _ => ⟨true, by unfold ovl; rw [if_pos rfl]⟩, fun p hp => ⟨⟨true, ?_⟩, (hs.row p hp).2.1, (hs.row p hp).2.2.1, cpR_shape _ _⟩⟩
  have := gid_ge f p
  unfold ovl
  rw [if_neg (by omega), isF_gid hf, pos_gid hf, if_pos ⟨by simp, hp⟩]
theorem rmF_keep {j : Nat} {g : Seg} (hj : isF f j = false) (h : sg j = some g) : rmF sg f n j = some g := by
  unfold rmF; rw [hj]; simp only [Bool.false_eq_true, false_and, if_false]; exact h
theorem upS_keep {u : Nat} {s : Seg} {j : Nat} {g : Seg} (hj : j ≠ u) (h : sg j = some g) : upS sg [(u, s)] j = some g := by
  unfold upS; rw [findS_cons, if_neg hj, findS_nil]; exact h
/-- What the law's second half leans on. -/
structure KBt (sg : Nat → Option Seg) (n m c : Int) (len : SI) (g0 wd : Nat) (L : Nat → Int) (R : Nat → Int → List SC) (rr : Int → List SC) (out : Int → List SC) (z : Int → Nat) : Prop where
  arg : SSof sg false 900 0 n L R
  rt : ∃ rw o, sg 901 = some ⟨rw, o, .rows 1 m rr⟩
  oc : (len = .c 0 ∧ ((c = 2 ∧ ¬ validS n m (cpR m rr) L (fun p => cpR (L p) (R p))) ∨ (c = 4 ∧ validS n m (cpR m rr) L (fun p => cpR (L p) (R p)) ∧ resI fops isNum n.toNat (fun p => datF (cpR (L p) (R p)) 0) (datF (cpR m rr) 0) = none))) ∨
    (len = .s n ∧ c = 0 ∧ validS n m (cpR m rr) L (fun p => cpR (L p) (R p)) ∧ resI fops isNum n.toNat (fun p => datF (cpR (L p) (R p)) 0) (datF (cpR m rr) 0) = some z ∧ (∃ o, sg g0 = some ⟨true, o, .rows 1 n out⟩) ∧ ∃ rw o, sg wd = some ⟨rw, o, .rows 1 n (fr z)⟩)
theorem KBt.keep {c : Int} {len : SI} {g0 wd : Nat} {out : Int → List SC} {z : Int → Nat} (hk : KBt sg n m c len g0 wd L R rr out z) (k : Keep sg sg2) : KBt sg2 n m c len g0 wd L R rr out z :=
  ⟨hk.arg.keep k, let ⟨a, b, h⟩ := hk.rt; ⟨a, b, k _ _ h⟩, hk.oc.imp id fun ⟨a, b, c, d, ⟨o, e⟩, r, o', e'⟩ => ⟨a, b, c, d, ⟨o, k _ _ e⟩, r, o', k _ _ e'⟩⟩
abbrev lM (g0 wd : Nat) : List (Nat × Nat) := [(2, 900), (3, 901), (4, 905), (5, 906), (6, g0), (7, wd)]
theorem lM_ok {g0 wd : Nat} (h1 : 900 ≤ g0) (h2 : 900 ≤ wd) : ∀ p ∈ lM g0 wd, p.1 < 10 ∧ p.1 < 900 ∧ 900 ≤ p.2 :=
  allC ⟨by simp, by simp, by simp⟩ (allC ⟨by simp, by simp, by simp⟩ (allC ⟨by simp, by simp, by simp⟩ (allC ⟨by simp, by simp, by simp⟩ (allC ⟨by simp, by simp, h1⟩ (allC ⟨by simp, by simp, h2⟩ all0)))))
/-- The law's end. -/
def EndQ (w0 : World) (T0 : Nat → Nat → Prop) : Exit → Act → World → Prop := bodyPost Try.prog lwF fun e w' => ∃ v, e = .returned v ∧ (v = .bool true ∧ Fr w0 w' T0)
theorem end_ok {a : Act} {w' : World} (hd : a.defers = []) (h4 : RelV E (.c (.bool .t)) (a.tmps.getD 4 undef)) (gm : GM w0 T0 E sg w') : EndQ w0 T0 .ret a w' :=
  ⟨hd, _, results1 lw_res, _, rfl, h4, gm.mem.fr⟩
theorem len_t (g0 wd : Nat) (n m c : Int) (len : SI) : covA (lM g0 wd) (vL n m c len) = true := rfl
set_option maxRecDepth 100000 in
/-- Behind the marks: the last call, and what is compared then. -/
theorem lawC {c : Int} {len : SI} {g0 wd : Nat} {z : Int → Nat} {u : Int} (gm : GM w0 T0 E sg w) (hn0 : 0 ≤ n) (hn : n ≤ 1048576) (hm0 : 0 ≤ m) (hm : m ≤ 1048576) (hshr : Shape SlFloat32.ts rr)
    (kb : KBt sg n m c len g0 wd L R rr (SlFloat32.mkR fops 1 n (fr z)) z) (hg0 : 900 ≤ g0) (hwd : 900 ≤ wd) (hu : u = 1 + (match len with | .c _ => 0 | .s _ => n)) (hI : FI E 909) (hF : FF E 10) {a : Act}
    (hs : Sts E a (renA (lM g0 wd) (vL n m c len ++ [(13, iI u)]))) (hsz : a.tmps.size = lwF.ntmps) (hd : a.defers = []) :
    (Code.seq (cL (sfx 22)) (sfx 23)).wp Try.prog (EndQ w0 T0) a w := by
  have hN := lw_n
  obtain ⟨t0, t1, t6, t7, t8, t9, t10, t11, t13, _⟩ := hs
  obtain ⟨rwR, oR, hgR⟩ := kb.rt
  refine wp_seq (reg_wp g30 n30 ?_)
  show wpOps _ _ _ [0, 1, 2, 3, 4, 5, 6, 7, 8, 9] a w
  have T0' := Ta.start (hsz.trans hN) hd
  refine ta_mv T0' o30_0 rfl rfl fun a1 T1 => ?_
  -- the copy of the rows
  refine ta_call1 T1 o30_1 rfl rfl (toSS_call (h := 909) (f' := 10) gm kb.arg hn0 hn (by decide) (by decide) (by decide) (by decide) (by decide) (by decide) (hI 909 (by omega) (by omega)) (fun p => hF 10 p (by omega) (by omega)) t0) fun v2 w2 hp a2 T2 => ?_
  obtain ⟨E2, k2, o2, r2, gm2⟩ := hp
  have kp2 := ovl_keep (f := 10) (h := 909) (L := L) (R := fun p => cpR (L p) (R p)) (n := n) (k := n) (hd := hdr 10 L) gm (by decide) (hI 909 (by omega) (by omega)) (fun p => hF 10 p (by omega) (by omega))
  have ss2 := ovl_ss (h := 909) (f := 10) kb.arg (by decide) (by decide)
  have hI2 := fi_step hI (by omega) o2
  have hF2 := ff_step hF (by omega) (by omega) (by omega) o2
  have kb2 := kb.keep kp2
  generalize ovl sg 909 10 n n (hdr 10 L) L (fun p => cpR (L p) (R p)) = sgq at gm2 kp2 ss2 kb2
  -- the copy of the right side
  refine ta_mv T2 o30_2 rfl rfl fun a3 T3 => ?_
  obtain ⟨rwR2, oR2, hgR2⟩ := kb2.rt
  refine ta_call1 T3 o30_3 rfl rfl (toS_call (hn := 910) gm2 hgR2 hm0 hm hshr (by decide) (hI2 910 (by omega) (by omega)) (RelC.mono k2 t1)) fun v4 w4 hp a4 T4 => ?_
  obtain ⟨E4, k4, o4, r4, gm4⟩ := hp
  have o4' : ∀ j, E4 j ≠ none → E2 j ≠ none ∨ j = 910 ∨ ∃ p, j = gid 10 p := fun j hj => by
    by_cases e : j = 910
    · exact .inr (.inl e)
    · rw [o4 j e] at hj; exact .inl hj
  have hI4 := fi_step hI2 (by omega) o4'
  have hF4 := ff_step (f := 10) hF2 (by omega) (by omega) (by omega) o4'
  have kp4 : Keep sgq (upS sgq [(910, ⟨true, true, .rows 1 m (cpR m rr)⟩)]) := fun j g hj => upS_keep (fun e => gm2.has hj (by rw [e]; exact hI2 910 (by omega) (by omega))) hj
  have kb4 := kb2.keep kp4
  have ss4 := ss2.keep kp4
  have hg910 : upS sgq [(910, ⟨true, true, .rows 1 m (cpR m rr)⟩)] 910 = some ⟨true, true, .rows 1 m (cpR m rr)⟩ := by unfold upS; rw [findS_cons, if_pos rfl]
  generalize upS sgq [(910, ⟨true, true, .rows 1 m (cpR m rr)⟩)] = sg4 at gm4 kp4 kb4 ss4 hg910
  -- the call
  refine ta_call2 T4 o30_4 rfl rfl rfl (ih_call (hr := 911) (fT := 11) (fH := 12) (fO := 13) gm4 ss4 hn0 (by decide) (by decide) hg910 hm0 hm (cpR_shape _ _) (by decide) (by decide) (by decide) (by decide) (by decide) (by decide) (by decide) (by decide) (by decide) (by decide) (by decide)
    (hI4 911 (by omega) (by omega)) (fun p => hF4 11 p (by omega) (by omega)) (fun p => hF4 12 p (by omega) (by omega)) (fun p => hF4 13 p (by omega) (by omega)) (RelC.mono k4 (sl_ro r2)) (sl_ro r4)) fun v5 w5 hp a5 T5 => ?_
  obtain ⟨E5, k5, o5, vv, cc, rfl, hout⟩ := hp
  refine ta_mv T5 o30_5 rfl rfl fun a6 T6 => ?_
  refine ta_ext T6 o30_6 rfl (u := vv) rfl rfl fun a7 T7 => ?_
  refine ta_ext T7 o30_7 rfl (u := .int .i64 cc) rfl rfl fun a8 T8 => ?_
  refine ta_as T8 o30_8 rfl rfl fun a9 T9 => ?_
  refine ta_as T9 o30_9 rfl rfl fun b T10 => ?_
  have k05 : Ext E E5 := (k2.trans k4).trans k5
  have b15 : b.tmps.getD 15 undef = vv := T10.get 15
  have b16 : b.tmps.getD 16 undef = .int .i64 cc := T10.get 16
  have b6 : RelV E5 (.c (.sl wd 0 1 len true)) (b.tmps.getD 6 undef) := by rw [show b.tmps.getD 6 undef = a.tmps.getD 6 undef from T10.get 6]; exact RelV.mono k05 t6
  have b7 : RelV E5 (iI c) (b.tmps.getD 7 undef) := by rw [show b.tmps.getD 7 undef = a.tmps.getD 7 undef from T10.get 7]; exact t7
  have b10 : RelV E5 (.c (.sl g0 0 1 len true)) (b.tmps.getD 10 undef) := by rw [show b.tmps.getD 10 undef = a.tmps.getD 10 undef from T10.get 10]; exact RelV.mono k05 t10
  have b13 : RelV E5 (iI u) (b.tmps.getD 13 undef) := by rw [show b.tmps.getD 13 undef = a.tmps.getD 13 undef from T10.get 13]; exact t13
  have q10s := T10.size
  have d10 := T10.dfr
  show (sfx 23).wp Try.prog (EndQ w0 T0) b w5
  have gO := gid_ge 13 n.toNat
  have al8 : ∀ p ∈ [(6, g0), (7, wd), (8, gid 13 n.toNat)], p.1 < 10 ∧ p.1 < 900 ∧ 900 ≤ p.2 := allC ⟨by simp, by simp, hg0⟩ (allC ⟨by simp, by simp, hwd⟩ (allC ⟨by simp, by simp, by simp only; omega⟩ all0))
  have nilAs : ∀ {v : Value}, nilI E5 v → RelC E5 (.sl (gid 13 n.toNat) 0 1 (.c 0) true) v := fun {v} h => by
    obtain ⟨base, q, cap, e1, e2, e3, e4, e5⟩ := h
    exact ⟨base, q, cap, e1, e2, e3, e4, fun x hx => absurd rfl (e5 x hx).1⟩
  rcases kb.oc with ⟨rfl, hc⟩ | ⟨rfl, rfl, hval, hres, _, _⟩
  · have hccn : cc = c ∧ ∃ sgx, nilI E5 vv ∧ GM w0 T0 E5 sgx w5 := by
      rcases hout with ⟨h1, h2, sgx, h3, h4, _⟩ | ⟨h1, h2, h3, sgx, h4, h5, _⟩ | ⟨h1, z', h2, _⟩
      · rcases hc with ⟨hc, _⟩ | ⟨_, hv, _⟩
        · exact ⟨h2.trans hc.symm, sgx, h3, h4⟩
        · exact absurd hv h1
      · rcases hc with ⟨_, hv⟩ | ⟨hc, _⟩
        · exact absurd h1 hv
        · exact ⟨h3.trans hc.symm, sgx, h4, h5⟩
      · rcases hc with ⟨_, hv⟩ | ⟨_, _, hr⟩
        · exact absurd h1 hv
        · rw [hr] at h2; cases h2
    obtain ⟨rfl, sgx, hnil, gm5⟩ := hccn
    refine wp_mono (gm5.run (body_ok okLq mixed 1 _ on4) (L31n fops cc u) (AllT.cons (by simp) (AllT.cons (by rw [hu]; simp) (AllT.cons rfl AllT.nil))) [(6, g0), (7, wd), (8, gid 13 n.toNat)] al8 rfl ⟨b6, b7, b10, b13, by rw [b15]; exact nilAs hnil, by rw [b16]; rfl, trivial⟩ (q10s.trans hN.symm) d10 all0 all0) fun e b2 w6 hp => ?_
    obtain ⟨rfl, _, d2, gm6, ⟨h4, _⟩⟩ := hp
    exact end_ok d2 h4 gm6
  · obtain ⟨hn1, hn8, _⟩ := id hval
    rcases hout with ⟨h1, _⟩ | ⟨_, h1, _⟩ | ⟨_, z', h2, rfl, h4, gm5⟩
    · exact absurd hval h1
    · rw [hres] at h1; cases h1
    rw [hres] at h2
    cases h2
    have hshz : Shape SlFloat32.ts (fr z) := SlFloat32.shape_row (fun _ => z) (fun _ _ => 0)
    have kp5 : Keep sg4 (upS sg4 [(gid 13 n.toNat, ⟨true, true, .rows 1 n (fr z)⟩)]) := fun j g hj => upS_keep (fun e => gm4.has hj (by rw [e]; exact hF4 13 _ (by omega) (by omega))) hj
    have kb5 := kb4.keep kp5
    rcases kb5.oc with ⟨h, _⟩ | ⟨_, _, _, _, ⟨o1, hs1⟩, r2', o2', hs2⟩
    · cases h
    have hmk : SlFloat32.Marked 1 n (SlFloat32.mkR fops 1 n (fr z)) := SlFloat32.mkR_marked _ _ _
    refine wp_mono (gm5.run (body_ok okLq mixed 1 _ on4) (L31s fops 0 n u (SlFloat32.mkR fops 1 n (fr z)) (fr z) (fr z))
      (AllT.cons (fr_flat _) (AllT.cons (fr_flat _) (AllT.cons (by unfold SlFloat32.okE'; rw [pB_iff.2 ⟨rfl, rfl, hn0, hn, hshz, hshz⟩]; simp) (AllT.cons (by rw [SlFloat32.eqR_self]; simp) (AllT.cons (SlFloat32.shape_flat (SlFloat32.marked_shape hmk)) (AllT.cons (pB_iff.2 ⟨rfl, hn0, hn, by omega, by omega, hmk⟩)
        (AllT.cons (by rw [decide_eq_false (by omega)]; rfl) (AllT.cons (by rw [hu]; simp) (AllT.cons rfl AllT.nil)))))))))
      [(6, g0), (7, wd), (8, gid 13 n.toNat)] al8 rfl ⟨b6, b7, b10, b13, by rw [b15]; exact h4, by rw [b16]; rfl, trivial⟩ (q10s.trans hN.symm) d10
      (allC ⟨g0, _, rfl, hs1, Wk.flat (fun h => by cases h) (fun h => by cases h) (SlFloat32.shape_flat (SlFloat32.marked_shape hmk))⟩ (allC ⟨wd, _, rfl, hs2, Wk.flat (fun h => by cases h) (fun h => by cases h) (fr_flat _)⟩ (allC ⟨gid 13 n.toNat, ⟨true, true, .rows 1 n (fr z)⟩, rfl, by unfold upS; rw [findS_cons, if_pos rfl], Wk.flat (fun h => by cases h) (fun h => by cases h) (fr_flat _)⟩ all0)))
      (allC rfl (allC rfl (allC rfl all0)))) fun e b2 w6 hp => ?_
    obtain ⟨rfl, _, d2, gm6, ⟨h4, _⟩⟩ := hp
    exact end_ok d2 h4 gm6
end
end
end Go.Proofs.Ytaoeigofmfpamaa
end

/- The law: the marks. Nothing is assumed. -/
section
namespace Go.Proofs.Ytaoeigofmfpamaa
open Go
noncomputable section
theorem inj1 {x : Nat × Seg} {l : List (Nat × Nat)} : ∀ p ∈ [x], ∀ q ∈ [x], p.1 ≠ q.1 → (p.2.rw = true ∨ q.2.rw = true) → lkN l p.1 ≠ lkN l q.1 := fun p hp q hq hne _ => by
  rw [List.mem_singleton] at hp hq
  subst hp; subst hq
  exact absurd rfl hne
section
variable {w0 w : World} {T0 : Nat → Nat → Prop} {E : EM} {sg sg2 : Nat → Option Seg} {n m : Int} {L : Nat → Int} {R : Nat → Int → List SC} {rr : Int → List SC}
theorem KBt.but {c : Int} {len : SI} {g0 wd x : Nat} {out : Int → List SC} {z : Int → Nat} (hk : KBt sg n m c len g0 wd L R rr out z) (h1 : x ≠ 900) (h2 : x ≠ 901) (h3 : ∀ p, x ≠ gid 0 p) (hg : x ≠ g0) (hw : x ≠ wd) (k : ∀ j g, j ≠ x → sg j = some g → sg2 j = some g) : KBt sg2 n m c len g0 wd L R rr out z :=
  ⟨⟨fun hn => let ⟨o, ho⟩ := hk.arg.hd hn; ⟨o, k _ _ (Ne.symm h1) ho⟩, fun p hp => let ⟨⟨o, ho⟩, r⟩ := hk.arg.row p hp; ⟨⟨o, k _ _ (Ne.symm (h3 p)) ho⟩, r⟩⟩,
   let ⟨a, b, h⟩ := hk.rt; ⟨a, b, k _ _ (Ne.symm h2) h⟩, hk.oc.imp id fun ⟨a, b, c, d, ⟨o, e⟩, r, o', e'⟩ => ⟨a, b, c, d, ⟨o, k _ _ (Ne.symm hg) e⟩, r, o', k _ _ (Ne.symm hw) e'⟩⟩
theorem KBt.mark {c : Int} {len : SI} {g0 wd : Nat} {out out2 : Int → List SC} {z : Int → Nat} {o : Bool} (hk : KBt sg n m c len g0 wd L R rr out z) (h1 : g0 ≠ 900) (h2 : g0 ≠ 901) (h3 : ∀ p, g0 ≠ gid 0 p) (hw : g0 ≠ wd) : KBt (upS sg [(g0, ⟨true, o, .rows 1 n out2⟩)]) n m c len g0 wd L R rr out2 z := by
  have k : ∀ j g, j ≠ g0 → sg j = some g → upS sg [(g0, ⟨true, o, .rows 1 n out2⟩)] j = some g := fun j g hj => upS_keep hj
  exact ⟨⟨fun hn => let ⟨o, ho⟩ := hk.arg.hd hn; ⟨o, k _ _ (Ne.symm h1) ho⟩, fun p hp => let ⟨⟨o, ho⟩, r⟩ := hk.arg.row p hp; ⟨⟨o, k _ _ (Ne.symm (h3 p)) ho⟩, r⟩⟩,
   let ⟨a, b, h⟩ := hk.rt; ⟨a, b, k _ _ (Ne.symm h2) h⟩, hk.oc.imp id fun ⟨a, b, c, d, _, r, o', e'⟩ => ⟨a, b, c, d, ⟨o, by unfold upS; rw [findS_cons, if_pos rfl]⟩, r, o', k _ _ (Ne.symm hw) e'⟩⟩
set_option maxRecDepth 100000 in
theorem lawB2 {c : Int} {len : SI} {g0 wd : Nat} {z : Int → Nat} {u : Int} (gm : GM w0 T0 E sg w) (hn0 : 0 ≤ n) (hn : n ≤ 1048576) (hm0 : 0 ≤ m) (hm : m ≤ 1048576) (hshr : Shape SlFloat32.ts rr)
    (kb : KBt sg n m c len g0 wd L R rr (fr z) z) (h906 : ∃ o, sg 906 = some ⟨true, o, .rows 1 m (cpR m rr)⟩) (hg0 : 900 ≤ g0) (hwd : 900 ≤ wd) (hx1 : g0 ≠ 900) (hx2 : g0 ≠ 901) (hx3 : ∀ p, g0 ≠ gid 0 p) (hx4 : g0 ≠ wd) (hx5 : g0 ≠ 906) (hx6 : wd ≠ 906)
    (hu0 : 1 ≤ u) (hu : u ≤ 2000000) (hI : FI E 909) (hF : FF E 10) {a : Act}
    (hs : Sts E a (renA (lM g0 wd) (vL n m c len ++ [(12, iI u)]))) (hsz : a.tmps.size = lwF.ntmps) (hd : a.defers = []) :
    (Code.seq (cL (sfx 14)) (.seq (cL (sfx 15)) (.seq (cL (sfx 16)) (.seq (cL (sfx 17)) (.seq (cL (sfx 18)) (.seq (cL (sfx 19)) (.seq (cL (sfx 20)) (.seq (cL (sfx 21)) (.seq (cL (sfx 22)) (sfx 23)))))))))).wp Try.prog (EndQ w0 T0) a w := by
  have al := lM_ok hg0 hwd
  obtain ⟨o6, h906⟩ := h906
  have hcs : flatR (cpR m rr) = true := SlFloat32.shape_flat (cpR_shape _ _)
  have hmk : ∀ v k r, flatR (SlFloat32.mkR fops v k r) = true := fun v k r => SlFloat32.shape_flat (SlFloat32.marked_shape (SlFloat32.mkR_marked v k r))
  -- the mark of the right side
  refine wp_seq (wp_mono (gm.wr1 (g0 := 906) (g2 := ⟨true, false, .rows 1 m (SlFloat32.mkR fops u m (cpR m rr))⟩) (body_ok okLq mixed 1 _ off) (L19 fops n m c u len (cpR m rr)) (AllT.cons hcs (AllT.cons (hmk _ _ _) (AllT.cons (pB_iff.2 ⟨rfl, hm0, hm, by omega, by omega, cpR_shape _ _⟩) AllT.nil))) (lM g0 wd) al rfl hs hsz hd
    (allC ⟨906, _, rfl, h906, Wk.flat id (fun h => by cases h) hcs⟩ all0) inj1 rfl rfl rfl (allC (fun _ => rfl) all0) (fun E' _ => Wk.flat id id (hmk _ _ _))) fun e a1 w1 hp => ?_)
  obtain ⟨rfl, hsz1, hd1, hs1, gm1⟩ := hp
  have kb1 := kb.but (x := 906) (sg2 := upS sg [(906, ⟨true, false, .rows 1 m (SlFloat32.mkR fops u m (cpR m rr))⟩)]) (by decide) (by decide) (fun p => by have := gid_ge 0 p; omega) (Ne.symm hx5) (Ne.symm hx6) fun j g hj => upS_keep hj
  generalize upS sg [(906, ⟨true, false, .rows 1 m (SlFloat32.mkR fops u m (cpR m rr))⟩)] = sg1 at gm1 kb1
  have hlt : decide (u + 1 * m < 0) = false := decide_eq_false (by omega)
  rcases kb1.oc with ⟨rfl, hc⟩ | ⟨rfl, rfl, hval, hres, ⟨o1, hs1g⟩, r2, o2, hs2w⟩
  · refine wp_seq (wp_mono (gm1.run (body_ok okLq mixed 1 _ (on1 80 false)) (L20n fops n m c (u + 1 * m)) (AllT.cons (by rw [hlt]; simp) AllT.nil) (lM g0 wd) al rfl hs1 hsz1 hd1 all0 all0) fun e a2 w2 hp => ?_)
    obtain ⟨rfl, hsz2, hd2, gm2, hs2⟩ := hp
    refine wp_seq (wp_mono (gm2.run (body_ok okNil mixed 1 _ off) (L22 fops n m c (.c 0)) AllT.nil (lM g0 wd) al rfl hs2 hsz2 hd2 all0 all0) fun e a3 w3 hp => ?_)
    obtain ⟨rfl, hsz3, hd3, gm3, hs3⟩ := hp
    refine wp_seq (wp_mono (gm3.run (body_ok okLq mixed 1 _ off) (L23n fops n m c) AllT.nil (lM g0 wd) al rfl hs3 hsz3 hd3 all0 all0) fun e a4 w4 hp => ?_)
    obtain ⟨rfl, hsz4, hd4, gm4, hs4⟩ := hp
    refine wp_seq (wp_mono (gm4.run (body_ok okNil mixed 1 _ off) (L24 fops n m c 1 (.c 0)) AllT.nil (lM g0 wd) al rfl hs4 hsz4 hd4 all0 all0) fun e a5 w5 hp => ?_)
    obtain ⟨rfl, hsz5, hd5, gm5, hs5⟩ := hp
    refine wp_seq (wp_mono (gm5.run (body_ok okLq mixed 1 _ off) (L25n fops n m c 1) AllT.nil (lM g0 wd) al rfl hs5 hsz5 hd5 all0 all0) fun e a6 w6 hp => ?_)
    obtain ⟨rfl, hsz6, hd6, gm6, hs6⟩ := hp
    refine wp_seq (wp_mono (gm6.run (body_ok okNil mixed 1 _ (on1 88 false)) (L26 fops n m c 1 1 (.c 0)) (AllT.cons rfl AllT.nil) (lM g0 wd) al rfl hs6 hsz6 hd6 all0 all0) fun e a7 w7 hp => ?_)
    obtain ⟨rfl, hsz7, hd7, gm7, hs7⟩ := hp
    refine wp_seq (wp_mono (gm7.run (body_ok okNil mixed 1 _ (on1 91 false)) (L28 fops n m c 1 1 (.c 0)) (AllT.cons rfl AllT.nil) (lM g0 wd) al rfl hs7 hsz7 hd7 all0 all0) fun e a8 w8 hp => ?_)
    obtain ⟨rfl, hsz8, hd8, gm8, hs8⟩ := hp
    exact lawC (z := z) gm8 hn0 hn hm0 hm hshr ⟨kb1.arg, kb1.rt, .inl ⟨rfl, hc⟩⟩ hg0 hwd rfl hI hF hs8 hsz8 hd8
  · have hshz : Shape SlFloat32.ts (fr z) := SlFloat32.shape_row (fun _ => z) (fun _ _ => 0)
    have f6 : Wk E (alE E (lM g0 wd)) ⟨true, o1, .rows 1 n (fr z)⟩ (roG n (fr z)) := Wk.flat (fun h => by cases h) (fun h => by cases h) (fr_flat _)
    have f7 : Wk E (alE E (lM g0 wd)) ⟨r2, o2, .rows 1 n (fr z)⟩ (roG n (fr z)) := Wk.flat (fun h => by cases h) (fun h => by cases h) (fr_flat _)
    refine wp_seq (wp_mono (gm1.run (body_ok okLq mixed 1 _ (on1 80 false)) (L20s fops n m 0 (u + 1 * m) n (fr z) (fr z)) (by
        rw [hlt]
        exact AllT.cons (fr_flat _) (AllT.cons (fr_flat _) (AllT.cons (by unfold SlFloat32.okE'; rw [pB_iff.2 ⟨rfl, rfl, hn0, hn, hshz, hshz⟩]; simp) (AllT.cons (by rw [SlFloat32.eqR_self]; simp) AllT.nil)))) (lM g0 wd) al rfl hs1 hsz1 hd1
      (allC ⟨g0, _, rfl, hs1g, f6⟩ (allC ⟨wd, _, rfl, hs2w, f7⟩ all0)) (allC rfl (allC rfl all0))) fun e a2 w2 hp => ?_)
    obtain ⟨rfl, hsz2, hd2, gm2, hs2⟩ := hp
    refine wp_seq (wp_mono (gm2.run (body_ok okNil mixed 1 _ off) (L22 fops n m 0 (.s n)) AllT.nil (lM g0 wd) al rfl hs2 hsz2 hd2 all0 all0) fun e a3 w3 hp => ?_)
    obtain ⟨rfl, hsz3, hd3, gm3, hs3⟩ := hp
    refine wp_seq (wp_mono (gm3.wr1 (g0 := g0) (g2 := ⟨true, false, .rows 1 n (SlFloat32.mkR fops 1 n (fr z))⟩) (body_ok okLq mixed 1 _ off) (L23s fops n m 0 n (fr z)) (AllT.cons (fr_flat _) (AllT.cons (hmk _ _ _) (AllT.cons (pB_iff.2 ⟨rfl, hn0, hn, by omega, by omega, hshz⟩) AllT.nil))) (lM g0 wd) al rfl hs3 hsz3 hd3
      (allC ⟨g0, _, rfl, hs1g, Wk.flat id (fun h => by cases h) (fr_flat _)⟩ all0) inj1 rfl rfl rfl (allC (fun _ => rfl) all0) (fun E' _ => Wk.flat id id (hmk _ _ _))) fun e a4 w4 hp => ?_)
    obtain ⟨rfl, hsz4, hd4, hs4, gm4⟩ := hp
    have kb4 := kb1.mark (o := false) (out2 := SlFloat32.mkR fops 1 n (fr z)) hx1 hx2 hx3 hx4
    have hg4 : upS sg1 [(g0, ⟨true, false, .rows 1 n (SlFloat32.mkR fops 1 n (fr z))⟩)] g0 = some ⟨true, false, .rows 1 n (SlFloat32.mkR fops 1 n (fr z))⟩ := by unfold upS; rw [findS_cons, if_pos rfl]
    generalize upS sg1 [(g0, ⟨true, false, .rows 1 n (SlFloat32.mkR fops 1 n (fr z))⟩)] = sg4 at gm4 kb4 hg4
    refine wp_seq (wp_mono (gm4.run (body_ok okNil mixed 1 _ off) (L24 fops n m 0 (1 + 1 * n) (.s n)) AllT.nil (lM g0 wd) al rfl hs4 hsz4 hd4 all0 all0) fun e a5 w5 hp => ?_)
    obtain ⟨rfl, hsz5, hd5, gm5, hs5⟩ := hp
    refine wp_seq (wp_mono (gm5.run (body_ok okLq mixed 1 _ off) (L25s fops n m 0 n (1 + 1 * n) (SlFloat32.mkR fops 1 n (fr z))) (AllT.cons (hmk _ _ _) (AllT.cons (pB_iff.2 ⟨rfl, hn0, hn, by omega, by omega, SlFloat32.mkR_marked _ _ _⟩) AllT.nil)) (lM g0 wd) al rfl hs5 hsz5 hd5
      (allC ⟨g0, _, rfl, hg4, Wk.flat (fun h => by cases h) (fun h => by cases h) (hmk _ _ _)⟩ all0) (allC rfl all0)) fun e a6 w6 hp => ?_)
    obtain ⟨rfl, hsz6, hd6, gm6, hs6⟩ := hp
    refine wp_seq (wp_mono (gm6.run (body_ok okNil mixed 1 _ (on1 88 false)) (L26 fops n m 0 (1 + 1 * n) (1 + 1 * n) (.s n)) (AllT.cons (by rw [decide_eq_false (by omega)]; rfl) AllT.nil) (lM g0 wd) al rfl hs6 hsz6 hd6 all0 all0) fun e a7 w7 hp => ?_)
    obtain ⟨rfl, hsz7, hd7, gm7, hs7⟩ := hp
    refine wp_seq (wp_mono (gm7.run (body_ok okNil mixed 1 _ (on1 91 false)) (L28 fops n m 0 (1 + 1 * n) (1 + 1 * n) (.s n)) (AllT.cons (by simp) AllT.nil) (lM g0 wd) al rfl hs7 hsz7 hd7 all0 all0) fun e a8 w8 hp => ?_)
    obtain ⟨rfl, hsz8, hd8, gm8, hs8⟩ := hp
    exact lawC (z := z) gm8 hn0 hn hm0 hm hshr kb4 hg0 hwd (by show 1 + 1 * n = 1 + n; omega) hI hF hs8 hsz8 hd8
end
end
end Go.Proofs.Ytaoeigofmfpamaa
end

/- The law: the comparisons in its middle. Nothing is assumed. -/
section
namespace Go.Proofs.Ytaoeigofmfpamaa
open Go
noncomputable section
def notIn (mp : List (Nat × Value)) : List (Nat × SV) → Bool
  | [] => true
  | p :: l => (mp.lookup p.1).isNone && notIn mp l
theorem Ta.sts {N : Nat} {a b : Act} {mp : List (Nat × Value)} (T : Ta N a b mp) {E : EM} : ∀ {l : List (Nat × SV)}, notIn mp l = true → Sts E a l → Sts E b l
  | [], _, _ => trivial
  | (t, v) :: l, h, hs => by
    simp only [notIn, Bool.and_eq_true, Option.isNone_iff_eq_none] at h
    refine ⟨?_, T.sts h.2 hs.2⟩
    rw [T.get, h.1]; exact hs.1
theorem KBt.on {sg sg2 : Nat → Option Seg} {n m c : Int} {L : Nat → Int} {R : Nat → Int → List SC} {rr : Int → List SC} {len : SI} {g0 wd : Nat} {out : Int → List SC} {z : Int → Nat} (hk : KBt sg n m c len g0 wd L R rr out z) (P : Nat → Prop) (h1 : P 900) (h2 : P 901) (h3 : ∀ p, P (gid 0 p)) (hg : P g0) (hw : P wd) (k : ∀ j g, P j → sg j = some g → sg2 j = some g) : KBt sg2 n m c len g0 wd L R rr out z :=
  ⟨⟨fun hn => let ⟨o, ho⟩ := hk.arg.hd hn; ⟨o, k _ _ h1 ho⟩, fun p hp => let ⟨⟨o, ho⟩, r⟩ := hk.arg.row p hp; ⟨⟨o, k _ _ (h3 p) ho⟩, r⟩⟩,
   let ⟨a, b, h⟩ := hk.rt; ⟨a, b, k _ _ h2 h⟩, hk.oc.imp id fun ⟨a, b, c, d, ⟨o, e⟩, r, o', e'⟩ => ⟨a, b, c, d, ⟨o, k _ _ hg e⟩, r, o', k _ _ hw e'⟩⟩
section
variable {w0 w : World} {T0 : Nat → Nat → Prop} {E : EM} {sg sg2 : Nat → Option Seg} {n m : Int} {L : Nat → Int} {R : Nat → Int → List SC} {rr : Int → List SC}
theorem lawB1 {c : Int} {len : SI} {g0 wd : Nat} {z : Int → Nat} (gm : GM w0 T0 E sg w) (hn0 : 0 ≤ n) (hn : n ≤ 1048576) (hm0 : 0 ≤ m) (hm : m ≤ 1048576) (hshr : Shape SlFloat32.ts rr)
    (kb : KBt sg n m c len g0 wd L R rr (fr z) z) (hss : SSof sg true 905 5 n L (fun p => cpR (L p) (R p))) (h906 : ∃ o, sg 906 = some ⟨true, o, .rows 1 m (cpR m rr)⟩) (hg0 : 900 ≤ g0) (hwd : 900 ≤ wd) (hx1 : g0 ≠ 900) (hx2 : g0 ≠ 901) (hx3 : ∀ p, g0 ≠ gid 0 p) (hx4 : g0 ≠ wd) (hx5 : g0 ≠ 906) (hx6 : wd ≠ 906)
    (hx7 : isF 5 g0 = false) (hx8 : isF 5 wd = false) (hsum : sumL L n.toNat ≤ 1048576) (hI : FI E 908) (hF : FF E 9) {a : Act}
    (hs : Sts E a (renA (lM g0 wd) (vL n m c len))) (hsz : a.tmps.size = lwF.ntmps) (hd : a.defers = []) :
    (Code.seq (cL (sfx 9)) (.seq (.seq (cL (cL (sfx 10))) (.cond (.tmp 56) (cT (cR (cL (sfx 10)))) .skip)) (.seq (cL (sfx 11)) (.seq (cL (sfx 12)) (.seq (cL (sfx 13))
      (Code.seq (cL (sfx 14)) (.seq (cL (sfx 15)) (.seq (cL (sfx 16)) (.seq (cL (sfx 17)) (.seq (cL (sfx 18)) (.seq (cL (sfx 19)) (.seq (cL (sfx 20)) (.seq (cL (sfx 21)) (.seq (cL (sfx 22)) (sfx 23))))))))))))))).wp Try.prog (EndQ w0 T0) a w := by
  have hN := lw_n
  have al := lM_ok hg0 hwd
  -- both results are alike
  have st1 : (cL (sfx 9)).wp Try.prog (fun e a' w' => e = .normal ∧ a'.tmps.size = lwF.ntmps ∧ a'.defers = [] ∧ GM w0 T0 E sg w' ∧ Sts E a' (renA (lM g0 wd) (vL n m c len))) a w := by
    rcases kb.oc with ⟨rfl, hc⟩ | ⟨rfl, rfl, hval, hres, ⟨o1, hs1g⟩, r2, o2, hs2w⟩
    · refine wp_mono (gm.run (body_ok okLq mixed 1 _ (on1 51 false)) (L11n fops n m c) (AllT.cons (by simp) AllT.nil) (lM g0 wd) al rfl hs hsz hd all0 all0) fun e a2 w2 hp => ?_
      obtain ⟨rfl, hsz2, hd2, gm2, hs2⟩ := hp
      exact ⟨rfl, hsz2, hd2, gm2, hs2⟩
    · have hshz : Shape SlFloat32.ts (fr z) := SlFloat32.shape_row (fun _ => z) (fun _ _ => 0)
      refine wp_mono (gm.run (body_ok okLq mixed 1 _ (on1 51 false)) (L11s fops n m 0 n (fr z) (fr z)) (AllT.cons (fr_flat _) (AllT.cons (fr_flat _) (AllT.cons (by unfold SlFloat32.okE'; rw [pB_iff.2 ⟨rfl, rfl, hn0, hn, hshz, hshz⟩]; simp) (AllT.cons (by rw [SlFloat32.eqR_self]; simp) AllT.nil)))) (lM g0 wd) al rfl hs hsz hd
        (allC ⟨g0, _, rfl, hs1g, Wk.flat (fun h => by cases h) (fun h => by cases h) (fr_flat _)⟩ (allC ⟨wd, _, rfl, hs2w, Wk.flat (fun h => by cases h) (fun h => by cases h) (fr_flat _)⟩ all0)) (allC rfl (allC rfl all0))) fun e a2 w2 hp => ?_
      obtain ⟨rfl, hsz2, hd2, gm2, hs2⟩ := hp
      exact ⟨rfl, hsz2, hd2, gm2, hs2⟩
  refine wp_seq (wp_mono st1 fun e a1 w1 hp => ?_)
  obtain ⟨rfl, hsz1, hd1, gm1, hs1⟩ := hp
  -- the copy handed in is as it was
  refine wp_seq (wp_seq (reg_wp g13 n13 ?_))
  show wpOps _ _ _ [0, 1, 2, 3, 4] a1 w1
  have hs1' := hs1
  obtain ⟨t0, t1, t6, t7, t8, t9, t10, t11, _⟩ := hs1'
  have T0' := Ta.start (hsz1.trans hN) hd1
  refine ta_mv T0' o13_0 rfl rfl fun b1 T1 => ?_
  refine ta_mv T1 o13_1 rfl rfl fun b2 T2 => ?_
  refine ta_call1 T2 o13_2 rfl rfl (toSS_call (h := 908) (f' := 9) gm1 kb.arg hn0 hn (by decide) (by decide) (by decide) (by decide) (by decide) (by decide) (hI 908 (by omega) (by omega)) (fun p => hF 9 p (by omega) (by omega)) t0) fun v2 w2 hp b3 T3 => ?_
  obtain ⟨E2, k2, o2, r2, gm2⟩ := hp
  have kp2 := ovl_keep (f := 9) (h := 908) (L := L) (R := fun p => cpR (L p) (R p)) (n := n) (k := n) (hd := hdr 9 L) gm1 (by decide) (hI 908 (by omega) (by omega)) (fun p => hF 9 p (by omega) (by omega))
  have ss2 := ovl_ss (h := 908) (f := 9) kb.arg (by decide) (by decide)
  have hI2 := fi_step hI (by omega) o2
  have hF2 := ff_step hF (by omega) (by omega) (by omega) o2
  have kb2 := kb.keep kp2
  have hss2 := hss.keep kp2
  have h9062 : ∃ o, ovl sg 908 9 n n (hdr 9 L) L (fun p => cpR (L p) (R p)) 906 = some ⟨true, o, .rows 1 m (cpR m rr)⟩ := let ⟨o, h⟩ := h906; ⟨o, kp2 _ _ h⟩
  generalize ovl sg 908 9 n n (hdr 9 L) L (fun p => cpR (L p) (R p)) = sgq at gm2 kp2 ss2 kb2 hss2 h9062
  refine ta_call2 T3 o13_3 rfl rfl rfl (eqSS_call gm2 hss2 ss2 (fun p _ => rfl) hn0 hn (by decide) (by decide) (RelC.mono k2 (sl_ro t8)) (sl_ro r2)) fun v3 w3 hp b4 T4 => ?_
  obtain ⟨rfl, gm3⟩ := hp
  refine ta_not T4 o13_4 rfl (b := true) rfl fun b5 T5 => ?_
  refine ta_end T5 fun b T => ?_
  show (Code.cond (.tmp 56) (cT (cR (cL (sfx 10)))) .skip).wp Try.prog _ b w3
  refine wp_cond_false (T.get 56) (wp_skip ?_)
  have hs5 : Sts E2 b (renA (lM g0 wd) (vL n m c len)) := T.sts rfl (Sts.mono k2 hs1)
  have hsz5 : b.tmps.size = lwF.ntmps := T.size.trans hN.symm
  have hd5 := T.dfr
  -- the right side too
  obtain ⟨rwR, oR, hgR⟩ := kb2.rt
  obtain ⟨o6, h6⟩ := h9062
  have hcs : flatR (cpR m rr) = true := SlFloat32.shape_flat (cpR_shape _ _)
  have hrs : flatR rr = true := SlFloat32.shape_flat hshr
  refine wp_seq (wp_mono (gm3.run (body_ok okLq mixed 1 _ (on1 61 false)) (L15 fops n m c len rr (cpR m rr)) (AllT.cons hrs (AllT.cons hcs (AllT.cons (pB_iff.2 ⟨rfl, hm0, hm, hshr⟩) (AllT.cons hcs (AllT.cons hcs (AllT.cons (by unfold SlFloat32.okE'; rw [pB_iff.2 ⟨rfl, rfl, hm0, hm, cpR_shape _ _, cpR_shape _ _⟩]; simp) (AllT.cons (by rw [SlFloat32.eqR_self]; simp) AllT.nil))))))) (lM g0 wd) al rfl hs5 hsz5 hd5
    (allC ⟨901, _, rfl, hgR, Wk.flat (fun h => by cases h) (fun h => by cases h) hrs⟩ (allC ⟨906, _, rfl, h6, Wk.flat (fun h => by cases h) (fun h => by cases h) hcs⟩ all0)) (allC rfl (allC rfl all0))) fun e a6 w6 hp => ?_)
  obtain ⟨rfl, hsz6, hd6, gm6, hs6⟩ := hp
  refine wp_seq (wp_mono (gm6.run (body_ok okNil mixed 1 _ off) (L17 fops n m c len) AllT.nil (lM g0 wd) al rfl hs6 hsz6 hd6 all0 all0) fun e a7 w7 hp => ?_)
  obtain ⟨rfl, hsz7, hd7, gm7, hs7⟩ := hp
  -- the marks of the copy
  obtain ⟨u0, u1, u6, u7, u8, u9, u10, u11, u12, _⟩ := hs7
  refine wp_seq (reg_wp g18 n18 ?_)
  show wpOps _ _ _ [0, 1, 2, 3] a7 w7
  have S0 := Ta.start (hsz7.trans hN) hd7
  have e12 : a7.tmps.getD 12 undef = .int .i64 1 := u12
  have hLs : ∀ p, p < n.toNat → 0 ≤ L p := fun p hp => (kb2.arg.row p (by omega)).2.1
  have hsum0 := (sumL_le hLs n.toNat (Nat.le_refl _)).1
  refine ta_mv S0 o18_0 rfl rfl fun b1 S1 => ?_
  refine ta_mv S1 o18_1 rfl e12 fun b2 S2 => ?_
  refine ta_call2 S2 o18_2 rfl rfl rfl (maSS_call gm7 hss2 hn0 hn (by decide) (by decide) (u := 1) (by omega) (by omega) (sl_ro u8)) fun v3 w8 hp b3 S3 => ?_
  obtain ⟨rfl, gm8⟩ := hp
  refine ta_as S3 o18_3 rfl rfl fun b4 S4 => ?_
  refine ta_end S4 fun b' S => ?_
  have kb8 : KBt (rmF sgq 5 n) n m c len g0 wd L R rr (fr z) z := kb2.on (fun j => isF 5 j = false) (isF_lt (by decide)) (isF_lt (by decide)) (fun p => by rw [isF_gid (by decide)]; rfl) hx7 hx8 fun j g hj hg => rmF_keep hj hg
  have h68 : ∃ o, rmF sgq 5 n 906 = some ⟨true, o, .rows 1 m (cpR m rr)⟩ := ⟨o6, rmF_keep (isF_lt (by decide)) h6⟩
  have hp8 : Sts E2 b' (renA (lM g0 wd) (vL n m c len)) := S.sts rfl ⟨u0, u1, u6, u7, u8, u9, u10, u11, trivial⟩
  obtain ⟨u0, u1, u6, u7, u8, u9, u10, u11, _⟩ := hp8
  exact lawB2 gm8 hn0 hn hm0 hm hshr kb8 h68 hg0 hwd hx1 hx2 hx3 hx4 hx5 hx6 (u := 1 + sumL L n.toNat) (by omega) (by omega) hI2 hF2 ⟨u0, u1, u6, u7, u8, u9, u10, u11, S.get 12, trivial⟩ (S.size.trans hN.symm) S.dfr
end
end
end Go.Proofs.Ytaoeigofmfpamaa
end

/- The law: the second call. Nothing is assumed. -/
section
namespace Go.Proofs.Ytaoeigofmfpamaa
open Go
noncomputable section
theorem fi_nw {E E2 : EM} {h f1 f2 f3 a : Nat} (hI : FI E a) (ha : a ≤ h + 1) (hold : ∀ j, E2 j ≠ none → E j ≠ none ∨ nwI h f1 f2 f3 j) : FI E2 (h + 1) := fun j h1 h2 => by
  cases hx : E2 j with
  | none => rfl
  | some y =>
    rcases hold j (by rw [hx]; simp) with k | k | ⟨p, k⟩ | ⟨p, k⟩ | ⟨p, k⟩
    · exact absurd (hI j (by omega) h2) k
    · omega
    · have := gid_ge f1 p; omega
    · have := gid_ge f2 p; omega
    · have := gid_ge f3 p; omega
theorem ff_nw {E E2 : EM} {h f1 f2 f3 b : Nat} (hF : FF E b) (hb : b ≤ f3 + 1) (h1 : f1 < f3) (h2 : f2 < f3) (h3 : f3 < 32) (hh : h < 1000) (hold : ∀ j, E2 j ≠ none → E j ≠ none ∨ nwI h f1 f2 f3 j) : FF E2 (f3 + 1) := fun f' p q1 q2 => by
  cases hx : E2 (gid f' p) with
  | none => rfl
  | some y =>
    rcases hold _ (by rw [hx]; simp) with k | k | ⟨q, k⟩ | ⟨q, k⟩ | ⟨q, k⟩
    · exact absurd (hF f' p (by omega) q2) k
    · have := gid_ge f' p; omega
    · have := gid_f q2 (by omega) k; omega
    · have := gid_f q2 (by omega) k; omega
    · have := gid_f q2 h3 k; omega
section
variable {w0 w : World} {T0 : Nat → Nat → Prop} {E : EM} {sg sg2 : Nat → Option Seg} {n m : Int} {L : Nat → Int} {R : Nat → Int → List SC} {rr : Int → List SC}
theorem SSof.on {rw : Bool} {hA fA : Nat} (hs : SSof sg rw hA fA n L R) (P : Nat → Prop) (h1 : P hA) (h2 : ∀ p : Nat, (p : Int) < n → P (gid fA p)) (k : ∀ j g, P j → sg j = some g → sg2 j = some g) : SSof sg2 rw hA fA n L R :=
  ⟨fun hn => let ⟨o, ho⟩ := hs.hd hn; ⟨o, k _ _ h1 ho⟩, fun p hp => let ⟨⟨o, ho⟩, r⟩ := hs.row p hp; ⟨⟨o, k _ _ (h2 p hp) ho⟩, r⟩⟩
/-- What the first call made known. -/
def SO (sg : Nat → Option Seg) (n m c : Int) (len : SI) (wd : Nat) (L : Nat → Int) (R : Nat → Int → List SC) (rr : Int → List SC) : Prop :=
  (len = .c 0 ∧ wd = 904 ∧ ((c = 2 ∧ ¬ validS n m (cpR m rr) L (fun p => cpR (L p) (R p))) ∨ (c = 4 ∧ validS n m (cpR m rr) L (fun p => cpR (L p) (R p)) ∧ resS fops isNum n.toNat (extM n.toNat (fun p => cpR (L p) (R p)) (datF (cpR m rr) 0)) = none))) ∨
  (len = .s n ∧ wd = gid 4 n.toNat ∧ c = 0 ∧ validS n m (cpR m rr) L (fun p => cpR (L p) (R p)) ∧ ∃ z, resS fops isNum n.toNat (extM n.toNat (fun p => cpR (L p) (R p)) (datF (cpR m rr) 0)) = some z ∧ ∃ rw o, sg wd = some ⟨rw, o, .rows 1 n (fr z)⟩)
theorem SO.keep {c : Int} {len : SI} {wd : Nat} (h : SO sg n m c len wd L R rr) (k : Keep sg sg2) : SO sg2 n m c len wd L R rr :=
  h.imp id fun ⟨a, b, c, d, z, e, r, o, f⟩ => ⟨a, b, c, d, z, e, r, o, k _ _ f⟩
theorem SO.wd {c : Int} {len : SI} {wd : Nat} (h : SO sg n m c len wd L R rr) : wd = 904 ∨ wd = gid 4 n.toNat := h.imp (fun h => h.2.1) fun h => h.2.1
theorem nil_any {E : EM} {v : Value} {i : Nat} {f : Bool} (h : nilI E v) : RelC E (.sl i 0 1 (.c 0) f) v := by
  obtain ⟨base, q, cap, e1, e2, e3, e4, e5⟩ := h
  exact ⟨base, q, cap, e1, e2, e3, e4, fun x hx => absurd rfl (e5 x hx).1⟩
theorem lt_cp (hlt : ∀ p : Nat, (p : Int) < n → ∀ c : Int, 0 ≤ c → c < L p → datF (R p) 0 c < 4294967296) (hv : validS n m (cpR m rr) L (fun p => cpR (L p) (R p))) {p : Nat} (hp : p < n.toNat) {c : Int} (h0 : 0 ≤ c) (hc : c < n.toNat) : datF (cpR (L p) (R p)) 0 c < 4294967296 := by
  have hL : L p = n := (hv.2.2.2.2 p (by omega)).1
  have e : datF (cpR (L p) (R p)) 0 c = clF (L p) (datF (R p)) 0 c := rfl
  rw [e]
  unfold clF
  rw [decide_eq_true h0, decide_eq_true (by omega : c < L p)]
  exact hlt p (by omega) c h0 (by omega)
abbrev lA (wd : Nat) : List (Nat × Nat) := [(2, 900), (3, 901), (4, 905), (7, wd)]
theorem lawA2 {c : Int} {len : SI} {wd : Nat} {v6 : Value} (gm : GM w0 T0 E sg w) (hn0 : 0 ≤ n) (hn : n ≤ 1048576) (hm0 : 0 ≤ m) (hm : m ≤ 1048576) (hshr : Shape SlFloat32.ts rr)
    (hss : SSof sg false 900 0 n L R) (hgR : ∃ rw o, sg 901 = some ⟨rw, o, .rows 1 m rr⟩) (hlt : ∀ p : Nat, (p : Int) < n → ∀ c : Int, 0 ≤ c → c < L p → datF (R p) 0 c < 4294967296)
    (hso : SO sg n m c len wd L R rr) (hsum : sumL L n.toNat ≤ 1048576) (hI : FI E 905) (hF : FF E 5) {a : Act}
    (hs : Sts E a (renA (lA wd) [(0, sI 2 n), (1, sI 3 m), (6, sL 7 len), (7, iI c)])) (hsz : a.tmps.size = lwF.ntmps) (hd : a.defers = []) :
    (Code.seq (cL (sfx 6)) (.seq (cL (sfx 7)) (.seq (cL (sfx 8))
      (Code.seq (cL (sfx 9)) (.seq (.seq (cL (cL (sfx 10))) (.cond (.tmp 56) (cT (cR (cL (sfx 10)))) .skip)) (.seq (cL (sfx 11)) (.seq (cL (sfx 12)) (.seq (cL (sfx 13))
      (Code.seq (cL (sfx 14)) (.seq (cL (sfx 15)) (.seq (cL (sfx 16)) (.seq (cL (sfx 17)) (.seq (cL (sfx 18)) (.seq (cL (sfx 19)) (.seq (cL (sfx 20)) (.seq (cL (sfx 21)) (.seq (cL (sfx 22)) (sfx 23)))))))))))))))))).wp Try.prog (EndQ w0 T0) a w := by
  have hN := lw_n
  have hwd : 900 ≤ wd := by
    rcases hso.wd with rfl | rfl
    · decide
    · have := gid_ge 4 n.toNat; omega
  have t0 := hs.1
  -- the copy of the rows
  refine wp_seq (reg_wp g8 n8 ?_)
  show wpOps _ _ _ [0, 1, 2] a w
  refine ta_mv (Ta.start (hsz.trans hN) hd) o8_0 rfl rfl fun b1 T1 => ?_
  refine ta_call1 T1 o8_1 rfl rfl (toSS_call (h := 905) (f' := 5) gm hss hn0 hn (by decide) (by decide) (by decide) (by decide) (by decide) (by decide) (hI 905 (by omega) (by omega)) (fun p => hF 5 p (by omega) (by omega)) t0) fun v2 w2 hp b2 T2 => ?_
  obtain ⟨E2, k2, o2, r2, gm2⟩ := hp
  have kp2 := ovl_keep (f := 5) (h := 905) (L := L) (R := fun p => cpR (L p) (R p)) (n := n) (k := n) (hd := hdr 5 L) gm (by decide) (hI 905 (by omega) (by omega)) (fun p => hF 5 p (by omega) (by omega))
  have ss2 := ovl_ss (h := 905) (f := 5) hss (by decide) (by decide)
  have hI2 := fi_step hI (by omega) o2
  have hF2 := ff_step hF (by omega) (by omega) (by omega) o2
  have hss2 := hss.keep kp2
  have hgR2 : ∃ rw o, ovl sg 905 5 n n (hdr 5 L) L (fun p => cpR (L p) (R p)) 901 = some ⟨rw, o, .rows 1 m rr⟩ := let ⟨a, b, h⟩ := hgR; ⟨a, b, kp2 _ _ h⟩
  have hso2 := hso.keep kp2
  generalize ovl sg 905 5 n n (hdr 5 L) L (fun p => cpR (L p) (R p)) = sgq at gm2 kp2 ss2 hss2 hgR2 hso2
  refine ta_as T2 o8_2 rfl rfl fun b3 T3 => ?_
  refine ta_end T3 fun b T => ?_
  obtain ⟨t0, t1, t6, t7, _⟩ := T.sts rfl (Sts.mono k2 hs)
  have hs3 : Sts E2 b (renA (lA wd) [(0, sI 2 n), (1, sI 3 m), (6, sL 7 len), (7, iI c), (8, sF 4 n)]) := by
    refine ⟨t0, t1, t6, t7, ?_, trivial⟩
    have e8 : b.tmps.getD 8 undef = v2 := T.get 8
    rw [e8]; exact r2
  have hsz3 : b.tmps.size = lwF.ntmps := T.size.trans hN.symm
  -- the copy of the right side
  have al : ∀ p ∈ lA wd, p.1 < 10 ∧ p.1 < 900 ∧ 900 ≤ p.2 := allC ⟨by simp, by simp, by simp⟩ (allC ⟨by simp, by simp, by simp⟩ (allC ⟨by simp, by simp, by simp⟩ (allC ⟨by simp, by simp, hwd⟩ all0)))
  have hcs : flatR (cpR m rr) = true := SlFloat32.shape_flat (cpR_shape _ _)
  have hrs : flatR rr = true := SlFloat32.shape_flat hshr
  obtain ⟨rwR, oR, hgR3⟩ := hgR2
  refine wp_seq (wp_mono (gm2.newL (body_ok okLq mixed 1 _ off) (L9 fops n m c len rr) (AllT.cons hrs (AllT.cons hcs (AllT.cons (pB_iff.2 ⟨rfl, hm0, hm, hshr⟩) AllT.nil))) (lA wd) al rfl hs3 hsz3 T.dfr
    (allC ⟨901, _, rfl, hgR3, Wk.flat (fun h => by cases h) (fun h => by cases h) hrs⟩ all0) inj1 [(906, 10)] [(906, ⟨true, true, .rows 1 m (cpR m rr)⟩)] []
    (allC ⟨by decide, hI2 906 (by omega) (by omega), by decide, by decide, rfl⟩ all0) (allC (allC (fun _ => rfl) all0) all0) (allC rfl all0)
    (fun sg' hP => allC ⟨10, _, rfl, hP.1, rfl, fun _ _ _ _ _ => Wk.flat id id hcs⟩ all0) (allC (fun h => by cases h) all0)) fun e b4 w4 hp => ?_)
  obtain ⟨rfl, hsz4, hd4, E4, k4, e4, gm4', hs4⟩ := hp
  have gm4 : GM w0 T0 E4 (upS sgq [(906, ⟨true, true, .rows 1 m (cpR m rr)⟩)]) w4 := gm4'.sub fun j g h => by unfold rmS; rw [if_neg (by simp)]; exact h
  have o4 : ∀ j, E4 j ≠ none → E2 j ≠ none ∨ j = 906 ∨ ∃ p, j = gid 5 p := fun j hj => by
    by_cases e : j = 906
    · exact .inr (.inl e)
    · rw [e4 j (by simp only [lkN, if_neg e])] at hj; exact .inl hj
  have hI4 := fi_step hI2 (by omega) o4
  have hF4 := ff_step (f := 5) hF2 (by omega) (by omega) (by omega) o4
  have kp4 : Keep sgq (upS sgq [(906, ⟨true, true, .rows 1 m (cpR m rr)⟩)]) := fun j g hj => upS_keep (fun e => gm2.has hj (by rw [e]; exact hI2 906 (by omega) (by omega))) hj
  have h906 : upS sgq [(906, ⟨true, true, .rows 1 m (cpR m rr)⟩)] 906 = some ⟨true, true, .rows 1 m (cpR m rr)⟩ := by unfold upS; rw [findS_cons, if_pos rfl]
  have hss4 := hss2.keep kp4
  have ss4 := ss2.keep kp4
  have hso4 := hso2.keep kp4
  have hgR4 := kp4 _ _ hgR3
  generalize upS sgq [(906, ⟨true, true, .rows 1 m (cpR m rr)⟩)] = sg4 at gm4 kp4 h906 hss4 ss4 hso4 hgR4
  clear gm4'
  have hs4' : Sts E4 b4 (renA [(2, 900), (3, 901), (4, 905), (5, 906), (7, wd)] [(0, sI 2 n), (1, sI 3 m), (6, sL 7 len), (7, iI c), (8, sF 4 n), (9, sF 5 m)]) := hs4
  obtain ⟨t0, t1, t6, t7, t8, t9, _⟩ := hs4'
  -- the call
  refine wp_seq (reg_wp g10 n10 ?_)
  show wpOps _ _ _ [0, 1, 2, 3, 4, 5, 6, 7] b4 w4
  refine ta_mv (Ta.start (hsz4.trans hN) hd4) o10_0 rfl rfl fun c1 U1 => ?_
  refine ta_mv U1 o10_1 rfl rfl fun c2 U2 => ?_
  refine ta_call2 U2 o10_2 rfl rfl rfl (ih_call (hr := 907) (fT := 6) (fH := 7) (fO := 8) gm4 ss4 hn0 (by decide) (by decide) h906 hm0 hm (cpR_shape _ _) (by decide) (by decide) (by decide) (by decide) (by decide) (by decide) (by decide) (by decide) (by decide) (by decide) (by decide)
    (hI4 907 (by omega) (by omega)) (fun p => hF4 6 p (by omega) (by omega)) (fun p => hF4 7 p (by omega) (by omega)) (fun p => hF4 8 p (by omega) (by omega)) (sl_ro t8) (sl_ro t9)) fun v5 w5 hp c3 U3 => ?_
  obtain ⟨E5, k5, o5, vv, cc, rfl, hout⟩ := hp
  refine ta_mv U3 o10_3 rfl rfl fun c4 U4 => ?_
  refine ta_ext U4 o10_4 rfl (u := vv) rfl rfl fun c5 U5 => ?_
  refine ta_ext U5 o10_5 rfl (u := .int .i64 cc) rfl rfl fun c6 U6 => ?_
  refine ta_as U6 o10_6 rfl rfl fun c7 U7 => ?_
  refine ta_as U7 o10_7 rfl rfl fun c8 U8 => ?_
  refine ta_end U8 fun d U => ?_
  have hI5 := fi_nw hI4 (by omega) o5
  have hF5 := ff_nw hF4 (by omega) (by omega) (by omega) (by omega) (by omega) o5
  have d10 : d.tmps.getD 10 undef = vv := U.get 10
  have d11 : d.tmps.getD 11 undef = .int .i64 cc := U.get 11
  obtain ⟨u0, u1, u6, u7, u8, u9, _⟩ := U.sts rfl (Sts.mono k5 hs4)
  have hsz5 : d.tmps.size = lwF.ntmps := U.size.trans hN.symm
  have gg := gid_ge 8 n.toNat
  have hwd6 : wd ≠ 906 ∧ isF 5 wd = false ∧ gid 8 n.toNat ≠ wd := by
    rcases hso.wd with rfl | rfl
    · exact ⟨by decide, isF_lt (by decide), by omega⟩
    · have := gid_ge 4 n.toNat
      exact ⟨by omega, by rw [isF_gid (by decide)]; rfl, gid_ne (by decide) (by decide) (by decide)⟩
  have hx3 : ∀ p, gid 8 n.toNat ≠ gid 0 p := fun p => gid_ne (by decide) (by decide) (by decide)
  have fin : ∀ (sg5 : Nat → Option Seg) (z : Int → Nat), GM w0 T0 E5 sg5 w5 → KBt sg5 n m c len (gid 8 n.toNat) wd L R rr (fr z) z → SSof sg5 true 905 5 n L (fun p => cpR (L p) (R p)) → (∃ o, sg5 906 = some ⟨true, o, .rows 1 m (cpR m rr)⟩) → RelC E5 (.sl (gid 8 n.toNat) 0 1 len true) vv → cc = c →
      (Code.seq (cL (sfx 9)) (.seq (.seq (cL (cL (sfx 10))) (.cond (.tmp 56) (cT (cR (cL (sfx 10)))) .skip)) (.seq (cL (sfx 11)) (.seq (cL (sfx 12)) (.seq (cL (sfx 13))
      (Code.seq (cL (sfx 14)) (.seq (cL (sfx 15)) (.seq (cL (sfx 16)) (.seq (cL (sfx 17)) (.seq (cL (sfx 18)) (.seq (cL (sfx 19)) (.seq (cL (sfx 20)) (.seq (cL (sfx 21)) (.seq (cL (sfx 22)) (sfx 23))))))))))))))).wp Try.prog (EndQ w0 T0) d w5 := fun sg5 z gm5 kb5 ss5 h5 hv he => by
    subst he
    refine lawB1 gm5 hn0 hn hm0 hm hshr kb5 ss5 h5 (by omega) hwd (by omega) (by omega) hx3 hwd6.2.2 (by omega) hwd6.1 (by rw [isF_gid (by decide)]; rfl) hwd6.2.1 hsum hI5 hF5 (a := d) ?_ hsz5 U.dfr
    exact ⟨u0, u1, u6, u7, u8, u9, by rw [d10]; exact hv, by rw [d11]; rfl, trivial⟩
  have kn : ∀ sgx, Keep sg4 sgx → SSof sgx true 905 5 n L (fun p => cpR (L p) (R p)) ∧ ∃ o, sgx 906 = some ⟨true, o, .rows 1 m (cpR m rr)⟩ := fun sgx k => ⟨ss4.keep k, true, k _ _ h906⟩
  rcases hso4 with ⟨rfl, hw4, hc⟩ | ⟨rfl, hw4, hc0, hval, z', hres', rw', o', hgw⟩
  · have hccn : cc = c ∧ (∃ sgx, nilI E5 vv ∧ GM w0 T0 E5 sgx w5 ∧ Keep sg4 sgx) ∧ ((c = 2 ∧ ¬ validS n m (cpR m rr) L (fun p => cpR (L p) (R p))) ∨ (c = 4 ∧ validS n m (cpR m rr) L (fun p => cpR (L p) (R p)) ∧ resI fops isNum n.toNat (fun p => datF (cpR (L p) (R p)) 0) (datF (cpR m rr) 0) = none)) := by
      rcases hout with ⟨h1, h2, sgx, h3, h4, h5⟩ | ⟨h1, h2, h3, sgx, h4, h5, h6⟩ | ⟨h1, z', h2, _⟩
      · rcases hc with ⟨hc, _⟩ | ⟨_, hv, _⟩
        · exact ⟨h2.trans hc.symm, ⟨sgx, h3, h4, h5⟩, .inl ⟨hc, h1⟩⟩
        · exact absurd hv h1
      · rcases hc with ⟨_, hv⟩ | ⟨hc, _⟩
        · exact absurd h1 hv
        · exact ⟨h3.trans hc.symm, ⟨sgx, h4, h5, h6⟩, .inr ⟨hc, h1, h2⟩⟩
      · rcases hc with ⟨_, hv⟩ | ⟨_, _, hr⟩
        · exact absurd h1 hv
        · exfalso
          rcases res_same (N := n.toNat) (R := fun p => cpR (L p) (R p)) (y := datF (cpR m rr) 0) (fun p hp c h0 hc => lt_cp (L := L) (R := R) hlt h1 hp h0 hc) with ⟨e1, _⟩ | ⟨z1, z2, e1, e2, _⟩
          · rw [e1] at h2; cases h2
          · rw [hr] at e2; cases e2
    obtain ⟨hce, ⟨sgx, hnil, gm5, kx⟩, hcc⟩ := hccn
    obtain ⟨ss5, h5⟩ := kn sgx kx
    exact fin sgx (fun _ => 0) gm5 ⟨hss4.keep kx, ⟨_, _, kx _ _ hgR4⟩, .inl ⟨rfl, hcc⟩⟩ ss5 h5 (nil_any hnil) hce
  · rcases hout with ⟨h1, _⟩ | ⟨h1, h2, _⟩ | ⟨_, z, h2, h3, h4, gm5⟩
    · exact absurd hval h1
    · exfalso
      rcases res_same (N := n.toNat) (R := fun p => cpR (L p) (R p)) (y := datF (cpR m rr) 0) (fun p hp c h0 hc => lt_cp (L := L) (R := R) hlt h1 hp h0 hc) with ⟨_, e1⟩ | ⟨z1, z2, e1, e2, _⟩
      · rw [e1] at hres'; cases hres'
      · rw [h2] at e1; cases e1
    · have hzz : ∀ c : Int, 0 ≤ c → c < n → z c = z' c := by
        rcases res_same (N := n.toNat) (R := fun p => cpR (L p) (R p)) (y := datF (cpR m rr) 0) (fun p hp c h0 hc => lt_cp (L := L) (R := R) hlt hval hp h0 hc) with ⟨e1, _⟩ | ⟨z1, z2, e1, e2, h⟩
        · rw [e1] at h2; cases h2
        · rw [h2] at e1; rw [hres'] at e2; cases e1; cases e2
          exact fun c h0 hc => h c h0 (by omega)
      have kx : Keep sg4 (upS sg4 [(gid 8 n.toNat, ⟨true, true, .rows 1 n (fr z)⟩)]) := fun j g hj => upS_keep (fun e => gm4.has hj (by rw [e]; exact hF4 8 _ (by omega) (by omega))) hj
      have hg0 : upS sg4 [(gid 8 n.toNat, ⟨true, true, .rows 1 n (fr z)⟩)] (gid 8 n.toNat) = some ⟨true, true, .rows 1 n (fr z)⟩ := by unfold upS; rw [findS_cons, if_pos rfl]
      have hgw5 := kx _ _ hgw
      have ss5 := ss4.keep kx
      have hss5 := hss4.keep kx
      have h65 := kx _ _ h906
      have hgR5 := kx _ _ hgR4
      generalize upS sg4 [(gid 8 n.toNat, ⟨true, true, .rows 1 n (fr z)⟩)] = sg5 at gm5 kx hg0 hgw5 ss5 hss5 h65 hgR5
      have gm6 : GM w0 T0 E5 (upS sg5 [(wd, ⟨rw', o', .rows 1 n (fr z)⟩)]) w5 := gm5.tell fun j g hj => by
        unfold upS at hj
        rw [findS_cons, findS_nil] at hj
        by_cases e : j = wd
        · subst e
          rw [if_pos rfl] at hj
          cases hj
          refine ⟨_, hgw5, Wk.rows id id (Int.le_refl _) fun k c v k0 k1 hv => ?_⟩
          have : fr z k = fr z' k := by unfold fr; rw [hzz k k0 k1]
          rw [this]; exact hv
        · rw [if_neg e] at hj
          exact ⟨g, hj, Wk.ext (Ext.refl _) g⟩
      have ky : ∀ j g, j ≠ wd → sg5 j = some g → upS sg5 [(wd, ⟨rw', o', .rows 1 n (fr z)⟩)] j = some g := fun j g hj hg => upS_keep hj hg
      have hgw6 : upS sg5 [(wd, ⟨rw', o', .rows 1 n (fr z)⟩)] wd = some ⟨rw', o', .rows 1 n (fr z)⟩ := by unfold upS; rw [findS_cons, if_pos rfl]
      have hw4g := gid_ge 4 n.toNat
      have hw0 : ∀ f p, f ≠ 4 → f < 32 → gid f p ≠ wd := fun f p h h' => by rw [hw4]; exact gid_ne h h' (by decide)
      refine fin _ z gm6 ⟨hss5.on (fun j => j ≠ wd) (by omega) (fun p _ => hw0 0 p (by decide) (by decide)) ky, ⟨_, _, ky _ _ (by omega) hgR5⟩, .inr ⟨rfl, hc0, hval, h2, ⟨true, ky _ _ hwd6.2.2 hg0⟩, _, _, hgw6⟩⟩ (ss5.on (fun j => j ≠ wd) (by omega) (fun p _ => hw0 5 p (by decide) (by decide)) ky) ⟨_, ky _ _ (by omega) h65⟩ h4 (h3.trans hc0.symm)
end
end
end Go.Proofs.Ytaoeigofmfpamaa
end

/- The law: its first part, and the whole. Nothing is assumed. -/
section
namespace Go.Proofs.Ytaoeigofmfpamaa
open Go
noncomputable section
section
variable {w0 w : World} {T0 : Nat → Nat → Prop} {E : EM} {sg sg2 : Nat → Option Seg} {fl : Bool} {n m : Int} {L : Nat → Int} {R : Nat → Int → List SC} {rr : Int → List SC}
/-- A place of no cells, where no segment has a cell. -/
theorem GM.fake (gm : GM w0 T0 E sg w) {j x : Nat} {g0 : Seg} (hg : sg j = some g0) (hl : ∀ i g, sg i = some g → i ≠ x ∧ g.body.len = 0) (h9 : 900 ≤ x) (rr : Int → List SC) : ∃ E2 : EM, (∀ i, i ≠ x → E2 i = E i) ∧ E2 x ≠ none ∧ GM w0 T0 E2 (upS sg [(x, ⟨false, false, .rows 1 0 rr⟩)]) w := by
  obtain ⟨b, o, z, cs, T, fr, e, s⟩ := gm.mem.segs j g0 hg
  let E2 : EM := fun i => if i = x then some (b, o, 0) else E i
  have e2 : ∀ i, i ≠ x → E2 i = E i := fun i hi => if_neg hi
  have ex : E2 x = some (b, o, 0) := if_pos rfl
  have hu : ∀ i g, upS sg [(x, ⟨false, false, .rows 1 0 rr⟩)] i = some g → (i = x ∧ g = ⟨false, false, .rows 1 0 rr⟩) ∨ (i ≠ x ∧ sg i = some g) := fun i g hi => by
    unfold upS at hi
    rw [findS_cons, findS_nil] at hi
    by_cases h : i = x
    · rw [if_pos h] at hi; cases hi; exact .inl ⟨h, rfl⟩
    · rw [if_neg h] at hi; exact .inr ⟨h, hi⟩
  refine ⟨E2, e2, by rw [ex]; simp, ⟨⟨fun i g hi => ?_, fun i i' g g' b1 o1 z1 b2 o2 z2 hne hi hi' hr h1 h2 => ?_, fun i g b1 o1 z1 hi hr h1 => ?_, gm.mem.fr, gm.mem.tab⟩, fun i g hi => ?_, fun i hi => ?_⟩⟩
  · rcases hu i g hi with ⟨rfl, rfl⟩ | ⟨hne, hi⟩
    · exact ⟨b, o, 0, cs, T, fr, ex, s.heap, Nat.le_refl _, by have := s.fit; omega, fun h => (by cases h), fun h => (by cases h), fun k hk => absurd hk (Nat.not_lt_zero _)⟩
    · obtain ⟨b', o', z', cs', T', fr', q, s'⟩ := gm.mem.segs i g hi
      have h0 := (hl i g hi).2
      exact ⟨b', o', z', cs', T', fr', (e2 i hne).trans q, s'.wk ⟨id, id, Nat.le_refl _, fun k v hk _ => absurd hk (by omega)⟩⟩
  · rcases hu i g hi with ⟨rfl, rfl⟩ | ⟨hx1, hi⟩
    · rw [ex] at h1; cases h1; exact .inr (.inr (.inr (.inl rfl)))
    · rcases hu i' g' hi' with ⟨rfl, rfl⟩ | ⟨hx2, hi'⟩
      · rw [ex] at h2; cases h2; exact .inr (.inr (.inr (.inr rfl)))
      · exact gm.mem.disj i i' g g' b1 o1 z1 b2 o2 z2 hne hi hi' hr ((e2 i hx1).symm.trans h1) ((e2 i' hx2).symm.trans h2)
  · rcases hu i g hi with ⟨rfl, rfl⟩ | ⟨hx1, hi⟩
    · cases hr
    · exact gm.mem.tch i g b1 o1 z1 hi hr ((e2 i hx1).symm.trans h1)
  · rcases hu i g hi with ⟨rfl, rfl⟩ | ⟨hx1, hi⟩
    · exact h9
    · exact gm.sn i g hi
  · rw [e2 i (by omega)]; exact gm.en i hi
/-- A slice of nothing at a place of nothing. -/
theorem sl_empty {E E2 : EM} {i : Nat} {v : Value} (h : RelC E (.sl i 0 1 (.s 0) true) v) (hE : E i = some (0, 0, 0)) (h2 : E2 i ≠ none) : RelC E2 (.sl i 0 1 (.s 0) false) v := by
  obtain ⟨base, n, cap, h1, h2', h3, h4, h5⟩ := h
  refine ⟨base, n, cap, h1, h2', h3, h4, fun a ha => ?_⟩
  obtain ⟨hi, b, o, z, e, q1, q2⟩ := h5 a ha
  rw [hE] at e
  cases e
  have hcap : cap = 0 := by have := q2 rfl; omega
  cases hx : E2 i with
  | none => exact absurd hx h2
  | some y => exact ⟨hi, y.1, y.2.1, y.2.2, rfl, fun h => absurd hcap h, fun h => by cases h⟩
abbrev lI : List (Nat × Nat) := [(2, 900), (3, 901)]
theorem lI_ok : ∀ p ∈ lI, p.1 < 10 ∧ p.1 < 900 ∧ 900 ≤ p.2 := allC ⟨by simp, by simp, by simp⟩ (allC ⟨by simp, by simp, by simp⟩ all0)
theorem lawA1 (gm : GM w0 T0 E sg w) (hn0 : 0 ≤ n) (hnb : n ≤ 9223372036854775807) (hm0 : 0 ≤ m) (hshr : Shape SlFloat32.ts rr)
    (hhd : 0 < n → ∃ o, sg 900 = some ⟨false, o, .rows 1 n (hdr 0 L)⟩) (hrow : ∀ p : Nat, (p : Int) < n → (∃ o, sg (gid 0 p) = some ⟨false, o, .rows 1 (L p) (R p)⟩) ∧ 0 ≤ L p ∧ L p ≤ 9223372036854775807 ∧ Shape SlFloat32.ts (R p))
    (hgR : (∃ rw o, sg 901 = some ⟨rw, o, .rows 1 m rr⟩) ∨ (m = 0 ∧ fl = true ∧ E 901 = some (0, 0, 0) ∧ ∀ j, sg j = none)) (hlt : ∀ p : Nat, (p : Int) < n → ∀ c : Int, 0 ≤ c → c < L p → datF (R p) 0 c < 4294967296) (hI : FI E 902) (hF : FF E 1) {a : Act}
    (hs : Sts E a (renA lI [(0, sI 2 n), (1, .c (.sl 3 0 1 (.s m) fl))])) (hsz : a.tmps.size = lwF.ntmps) (hd : a.defers = []) :
    (Code.seq (cL (sfx 0)) (.seq (cL (sfx 1)) (.seq (cL (sfx 2)) (.seq (cL (sfx 3)) (.seq (cL (sfx 4)) (.seq (cL (sfx 5)) (.seq (cL (sfx 6)) (.seq (cL (sfx 7)) (.seq (cL (sfx 8)) (.seq (cL (sfx 9)) (.seq (.seq (cL (cL (sfx 10))) (.cond (.tmp 56) (cT (cR (cL (sfx 10)))) .skip)) (.seq (cL (sfx 11)) (.seq (cL (sfx 12)) (.seq (cL (sfx 13)) (.seq (cL (sfx 14)) (.seq (cL (sfx 15)) (.seq (cL (sfx 16)) (.seq (cL (sfx 17)) (.seq (cL (sfx 18)) (.seq (cL (sfx 19)) (.seq (cL (sfx 20)) (.seq (cL (sfx 21)) (.seq (cL (sfx 22)) (sfx 23)))))))))))))))))))))))).wp Try.prog (EndQ w0 T0) a w := by
  have hN := lw_n
  have al := lI_ok
  refine wp_seq (wp_mono (gm.run (body_ok okNil mixed 1 _ off) (L0 fops fl n m) AllT.nil lI al rfl hs hsz hd all0 all0) fun e a1 w1 hp => ?_)
  obtain ⟨rfl, hsz1, hd1, gm1, hs1⟩ := hp
  by_cases hmb : 1048576 < m
  · refine wp_seq (wp_mono (gm1.run (body_ok okNil mixed 1 _ (on1 19 true)) (L1t fops fl n m) (AllT.cons (decide_eq_true hmb) (AllT.cons rfl AllT.nil)) lI al rfl hs1 hsz1 hd1 all0 all0) fun e a2 w2 hp => ?_)
    obtain ⟨rfl, hsz2, hd2, gm2, h4, _⟩ := hp
    exact end_ok hd2 h4 gm2
  refine wp_seq (wp_mono (gm1.run (body_ok okNil mixed 1 _ (on1 19 false)) (L1f fops fl n m) (AllT.cons (by rw [decide_eq_false hmb]; rfl) AllT.nil) lI al rfl hs1 hsz1 hd1 all0 all0) fun e a2 w2 hp => ?_)
  obtain ⟨rfl, hsz2, hd2, gm2, hs2⟩ := hp
  refine wp_seq (wp_mono (gm2.run (body_ok okNil mixed 1 _ off) (L3 fops fl n m) AllT.nil lI al rfl hs2 hsz2 hd2 all0 all0) fun e a3 w3 hp => ?_)
  obtain ⟨rfl, hsz3, hd3, gm3, t0, t1, t5, _⟩ := hp
  have e5 : a3.tmps.getD 5 undef = .int .i64 1048576 := t5
  -- how much there is
  refine wp_seq (reg_wp g4 n4 ?_)
  show wpOps _ _ _ [0, 1, 2, 3] a3 w3
  refine ta_mv (Ta.start (hsz3.trans hN) hd3) o4_0 rfl rfl fun b1 T1 => ?_
  refine ta_mv T1 o4_1 rfl e5 fun b2 T2 => ?_
  refine ta_call2 T2 o4_2 rfl rfl rfl (szSS_call gm3 (fun h => let ⟨o, ho⟩ := hhd h; ⟨_, o, ho⟩) hn0 hnb (fun p hp => ⟨(hrow p hp).2.1, (hrow p hp).2.2.1⟩) (by decide) t0) fun v4 w4 hp b3 T3 => ?_
  obtain ⟨u, rfl, gm4, hsu⟩ := hp
  refine ta_as T3 o4_3 rfl rfl fun b4 T4 => ?_
  refine ta_end T4 fun b T => ?_
  have hs4 : Sts E b (renA lI [(0, sI 2 n), (1, .c (.sl 3 0 1 (.s m) fl))]) := T.sts rfl ⟨t0, t1, trivial⟩
  have hs4' : Sts E b (renA lI [(0, sI 2 n), (1, .c (.sl 3 0 1 (.s m) fl)), (5, iI u)]) := ⟨hs4.1, hs4.2.1, T.get 5, trivial⟩
  have hsz4 : b.tmps.size = lwF.ntmps := T.size.trans hN.symm
  by_cases hu : u < 0
  · refine wp_seq (wp_mono (gm4.run (body_ok okNil mixed 1 _ (on1 24 true)) (L5t fops fl n m u) (AllT.cons (decide_eq_true hu) (AllT.cons rfl AllT.nil)) lI al rfl hs4' hsz4 T.dfr all0 all0) fun e a5 w5 hp => ?_)
    obtain ⟨rfl, hsz5, hd5, gm5, h4, _⟩ := hp
    exact end_ok hd5 h4 gm5
  refine wp_seq (wp_mono (gm4.run (body_ok okNil mixed 1 _ (on1 24 false)) (L5f fops fl n m u) (AllT.cons (by rw [decide_eq_false hu]; rfl) AllT.nil) lI al rfl hs4' hsz4 T.dfr all0 all0) fun e a5 w5 hp => ?_)
  obtain ⟨rfl, hsz5, hd5, gm5, hs5⟩ := hp
  have hsum2 := hsu (by omega)
  have hLs : ∀ p, p < n.toNat → 0 ≤ L p := fun p hp => (hrow p (by omega)).2.1
  obtain ⟨hsum0, hLle⟩ := sumL_le hLs n.toNat (Nat.le_refl _)
  have hn : n ≤ 1048576 := by omega
  have hm : m ≤ 1048576 := by omega
  have hsum : sumL L n.toNat ≤ 1048576 := by omega
  have hss : SSof sg false 900 0 n L R := ⟨hhd, fun p hp => ⟨(hrow p hp).1, (hrow p hp).2.1, by have := hLle p (by omega); omega, (hrow p hp).2.2.2⟩⟩
  -- the copies
  obtain ⟨t0, t1, _⟩ := hs5
  refine wp_seq (reg_wp g7 n7 ?_)
  show wpOps _ _ _ [0, 1, 2, 3, 4, 5, 6, 7, 8, 9] a5 w5
  refine ta_mv (Ta.start (hsz5.trans hN) hd5) o7_0 rfl rfl fun c1 U1 => ?_
  refine ta_call1 U1 o7_1 rfl rfl (toSS_call (h := 902) (f' := 1) gm5 hss hn0 hn (by decide) (by decide) (by decide) (by decide) (by decide) (by decide) (hI 902 (by omega) (by omega)) (fun p => hF 1 p (by omega) (by omega)) t0) fun v2 w6 hp c2 U2 => ?_
  obtain ⟨E2, k2, o2, r2, gm6⟩ := hp
  have kp2 := ovl_keep (f := 1) (h := 902) (L := L) (R := fun p => cpR (L p) (R p)) (n := n) (k := n) (hd := hdr 1 L) gm5 (by decide) (hI 902 (by omega) (by omega)) (fun p => hF 1 p (by omega) (by omega))
  have ss2 := ovl_ss (h := 902) (f := 1) hss (by decide) (by decide)
  have h902 : ovl sg 902 1 n n (hdr 1 L) L (fun p => cpR (L p) (R p)) 902 = some ⟨true, true, .rows 1 n (hdr 1 L)⟩ := by unfold ovl; rw [if_pos rfl]
  have hI2 := fi_step hI (by omega) o2
  have hF2 := ff_step hF (by omega) (by omega) (by omega) o2
  have hss2 := hss.keep kp2
  have hgR2 : (∃ rw o, ovl sg 902 1 n n (hdr 1 L) L (fun p => cpR (L p) (R p)) 901 = some ⟨rw, o, .rows 1 m rr⟩) ∨ (m = 0 ∧ fl = true ∧ E 901 = some (0, 0, 0) ∧ ∀ i g, ovl sg 902 1 n n (hdr 1 L) L (fun p => cpR (L p) (R p)) i = some g → i ≠ 901 ∧ g.body.len = 0) := by
    refine hgR.imp (fun ⟨a, b, h⟩ => ⟨a, b, kp2 _ _ h⟩) fun ⟨a, b, c, d⟩ => ⟨a, b, c, fun i g hi => ?_⟩
    have hn00 : ¬ 0 < n := fun h => let ⟨o, ho⟩ := hhd h; by rw [d] at ho; cases ho
    unfold ovl at hi
    split at hi
    · rename_i e
      cases hi
      exact ⟨by omega, by show 1 * n.toNat = 0; omega⟩
    · split at hi
      · rename_i e; exact absurd e.2 (by omega)
      · rw [d] at hi; cases hi
  generalize ovl sg 902 1 n n (hdr 1 L) L (fun p => cpR (L p) (R p)) = sgq at gm6 kp2 ss2 h902 hss2 hgR2
  -- a place for a right side of nothing
  have fk : ∃ E3 sg3, GM w0 T0 E3 sg3 w6 ∧ Keep sgq sg3 ∧ (∃ rw o, sg3 901 = some ⟨rw, o, .rows 1 m rr⟩) ∧ (∀ i, i ≠ 901 → E3 i = E2 i) ∧ RelC E3 (.sl 901 0 1 (.s m) false) (a5.tmps.getD 1 undef) := by
    rcases hgR2 with h | ⟨rfl, rfl, h1, h2⟩
    · exact ⟨E2, sgq, gm6, fun _ _ h => h, h, fun _ _ => rfl, RelC.mono k2 (sl_ro t1)⟩
    · obtain ⟨E3, e3, x3, gm7⟩ := gm6.fake h902 h2 (by decide) rr
      exact ⟨E3, _, gm7, fun j g hj => upS_keep (h2 j g hj).1 hj, ⟨_, _, by unfold upS; rw [findS_cons, if_pos rfl]⟩, e3, sl_empty t1 h1 x3⟩
  obtain ⟨E3, sg3, gm7, kp3, ⟨rwR, oR, hgR3⟩, e3, t13⟩ := fk
  have t03 : RelC E3 (.sl 900 0 1 (.s n) false) (a5.tmps.getD 0 undef) := sl_as (RelC.mono k2 t0) (fun x hx => by rw [e3 900 (by decide)]; exact hx) (by decide) _ id
  have r23 : RelC E3 (.sl 902 0 1 (.s n) true) v2 := sl_as r2 (fun x hx => by rw [e3 902 (by decide)]; exact hx) (by decide) _ id
  have hI3 : FI E3 903 := fun j h1 h2 => by rw [e3 j (by omega)]; exact hI2 j h1 h2
  have hF3 : FF E3 2 := fun f p h1 h2 => by rw [e3 _ (by have := gid_ge f p; omega)]; exact hF2 f p h1 h2
  have ss3 := ss2.keep kp3
  have hss3 := hss2.keep kp3
  refine ta_mv U2 o7_2 rfl rfl fun c3 U3 => ?_
  refine ta_call1 U3 o7_3 rfl rfl (toS_call (hn := 903) gm7 hgR3 hm0 hm hshr (by decide) (hI3 903 (by omega) (by omega)) t13) fun v4 w7 hp c4 U4 => ?_
  obtain ⟨E4, k4, o4, r4, gm8⟩ := hp
  have o4' : ∀ j, E4 j ≠ none → E3 j ≠ none ∨ j = 903 ∨ ∃ p, j = gid 1 p := fun j hj => by
    by_cases e : j = 903
    · exact .inr (.inl e)
    · rw [o4 j e] at hj; exact .inl hj
  have hI4 := fi_step hI3 (by omega) o4'
  have hF4 := ff_step (f := 1) hF3 (by omega) (by omega) (by omega) o4'
  have kp4 : Keep sg3 (upS sg3 [(903, ⟨true, true, .rows 1 m (cpR m rr)⟩)]) := fun j g hj => upS_keep (fun e => gm7.has hj (by rw [e]; exact hI3 903 (by omega) (by omega))) hj
  have ss4 := ss3.keep kp4
  have hss4 := hss3.keep kp4
  have hgR4 := kp4 _ _ hgR3
  have hg903 : upS sg3 [(903, ⟨true, true, .rows 1 m (cpR m rr)⟩)] 903 = some ⟨true, true, .rows 1 m (cpR m rr)⟩ := by unfold upS; rw [findS_cons, if_pos rfl]
  generalize upS sg3 [(903, ⟨true, true, .rows 1 m (cpR m rr)⟩)] = sg4 at gm8 kp4 ss4 hss4 hgR4 hg903
  -- the first call
  refine ta_call2 U4 o7_4 rfl rfl rfl (sh_call (he := 904) (fT := 2) (fH := 3) (fO := 4) gm8 ss4 hn0 (by decide) (by decide) hg903 hm0 hm (cpR_shape _ _) (by decide) (by decide) (by decide) (by decide) (by decide) (by decide) (by decide) (by decide) (by decide) (by decide) (by decide)
    (hI4 904 (by omega) (by omega)) (fun p => hF4 2 p (by omega) (by omega)) (fun p => hF4 3 p (by omega) (by omega)) (fun p => hF4 4 p (by omega) (by omega)) (RelC.mono k4 (sl_ro r23)) (sl_ro r4)) fun v5 w8 hp c5 U5 => ?_
  obtain ⟨E5, k5, o5, vv, cc, rfl, hout⟩ := hp
  refine ta_mv U5 o7_5 rfl rfl fun c6 U6 => ?_
  refine ta_ext U6 o7_6 rfl (u := vv) rfl rfl fun c7 U7 => ?_
  refine ta_ext U7 o7_7 rfl (u := .int .i64 cc) rfl rfl fun c8 U8 => ?_
  refine ta_as U8 o7_8 rfl rfl fun c9 U9 => ?_
  refine ta_as U9 o7_9 rfl rfl fun c10 U10 => ?_
  refine ta_end U10 fun d U => ?_
  have hI5 := fi_nw hI4 (by omega) o5
  have hF5 := ff_nw hF4 (by omega) (by omega) (by omega) (by omega) (by omega) o5
  have d6 : d.tmps.getD 6 undef = vv := U.get 6
  have d7 : d.tmps.getD 7 undef = .int .i64 cc := U.get 7
  have k05 : Ext E3 E5 := k4.trans k5
  have u0 : RelV E5 (.c (.sl 900 0 1 (.s n) false)) (d.tmps.getD 0 undef) := by rw [show d.tmps.getD 0 undef = a5.tmps.getD 0 undef from U.get 0]; exact RelC.mono k05 t03
  have u1 : RelV E5 (.c (.sl 901 0 1 (.s m) false)) (d.tmps.getD 1 undef) := by rw [show d.tmps.getD 1 undef = a5.tmps.getD 1 undef from U.get 1]; exact RelC.mono k05 t13
  have hsz8 : d.tmps.size = lwF.ntmps := U.size.trans hN.symm
  have gg := gid_ge 4 n.toNat
  rcases hout with ⟨h1, h2, sgx, h3, gm9, kx⟩ | ⟨h1, h2, h3, sgx, h4, gm9, kx⟩ | ⟨h1, z, h2, h3, h4, gm9⟩
  · have kx' : Keep sg4 sgx := kx
    exact lawA2 (c := cc) (len := .c 0) (wd := 904) gm9 hn0 hn hm0 hm hshr (hss4.keep kx') ⟨_, _, kx' _ _ hgR4⟩ hlt (.inl ⟨rfl, rfl, .inl ⟨h2, h1⟩⟩) hsum hI5 hF5 (v6 := vv) ⟨u0, u1, by rw [d6]; exact h3, by rw [d7]; rfl, trivial⟩ hsz8 U.dfr
  · have kx' : Keep sg4 sgx := kx
    exact lawA2 (c := cc) (len := .c 0) (wd := 904) gm9 hn0 hn hm0 hm hshr (hss4.keep kx') ⟨_, _, kx' _ _ hgR4⟩ hlt (.inl ⟨rfl, rfl, .inr ⟨h3, h1, h2⟩⟩) hsum hI5 hF5 (v6 := vv) ⟨u0, u1, by rw [d6]; exact h4, by rw [d7]; rfl, trivial⟩ hsz8 U.dfr
  · have kx' : Keep sg4 (upS sg4 [(gid 4 n.toNat, ⟨true, true, .rows 1 n (fr z)⟩)]) := fun j g hj => upS_keep (fun e => gm8.has hj (by rw [e]; exact hF4 4 _ (by omega) (by omega))) hj
    exact lawA2 (c := cc) (len := .s n) (wd := gid 4 n.toNat) gm9 hn0 hn hm0 hm hshr (hss4.keep kx') ⟨_, _, kx' _ _ hgR4⟩ hlt (.inr ⟨rfl, rfl, h3, h1, z, h2, true, true, by unfold upS; rw [findS_cons, if_pos rfl]⟩) hsum hI5 hF5 (v6 := vv) ⟨u0, u1, by rw [d6]; exact h4, by rw [d7]; rfl, trivial⟩ hsz8 U.dfr
/-- The law, called. -/
theorem law_call (gm : GM w0 T0 E sg w) (hn0 : 0 ≤ n) (hnb : n ≤ 9223372036854775807) (hm0 : 0 ≤ m) (hshr : Shape SlFloat32.ts rr)
    (hhd : 0 < n → ∃ o, sg 900 = some ⟨false, o, .rows 1 n (hdr 0 L)⟩) (hrow : ∀ p : Nat, (p : Int) < n → (∃ o, sg (gid 0 p) = some ⟨false, o, .rows 1 (L p) (R p)⟩) ∧ 0 ≤ L p ∧ L p ≤ 9223372036854775807 ∧ Shape SlFloat32.ts (R p))
    (hgR : (∃ rw o, sg 901 = some ⟨rw, o, .rows 1 m rr⟩) ∨ (m = 0 ∧ fl = true ∧ E 901 = some (0, 0, 0) ∧ ∀ j, sg j = none)) (hlt : ∀ p : Nat, (p : Int) < n → ∀ c : Int, 0 ≤ c → c < L p → datF (R p) 0 c < 4294967296) (hI : FI E 902) (hF : FF E 1) {v0 v1 : Value}
    (hv0 : RelC E (.sl 900 0 1 (.s n) false) v0) (hv1 : RelC E (.sl 901 0 1 (.s m) fl) v1) :
    NextOK Try.prog ((callFunc 7 #[v0, v1]).run Try.prog w) fun v w' => v = .bool true ∧ Fr w0 w' T0 := by
  refine call_body Try.func7 (by kernel_rfl) lw_shape (by rw [lw_n]; simp) fun a hsz hd hargs => ?_
  exact lawA1 gm hn0 hnb hm0 hshr hhd hrow hgR hlt hI hF ⟨by rw [hargs]; exact hv0, by rw [hargs]; exact hv1, trivial⟩ hsz hd
end
end
end Go.Proofs.Ytaoeigofmfpamaa
end

/- The law: its arguments. Nothing is assumed. -/
section
namespace Go.Proofs.Ytaoeigofmfpamaa
open Go Go.RowKit
section
variable {H : Type} {enc : TypeId × Value → H} {P : Program} {w : World} {base : Nat} {held : Bool}
/-- A slice of slices, as an argument. -/
structure SsArg (w : World) (v : Value) (n : Nat) (cell : Nat → Value) : Prop where
  len : ∃ b cap, v = .slice b n cap ∧ n ≤ cap ∧ cap ≤ maxLen ∧ (b = none → cap = 0)
  none_ : (∃ b, v = .slice b n 0) ∨ ∃ b o cap cs T fr, v = .slice (some ⟨b, o, none⟩) n cap ∧ cap ≠ 0 ∧ w.heap[b]? = some (.cells cs T fr) ∧ o + n ≤ cs.size ∧ ∀ i, i < n → cs[o + i]? = some (cell i)
theorem ss_arg {t e : TypeId} (ht : P.underlying t = some (.slice e)) {e' : TypeId} (he : P.underlying e = some (.slice e')) (hc : P.cellsOf e = 1) {v : Value} {fuel : Nat} {x : DataW H × List MemPlace} (hx : DataW.trod enc P w base (fun _ => true) held fuel t [v] = some x) :
    ∃ n cell, SsArg w v n cell ∧ ∀ i, i < n → kok enc P w base (fun _ => true) held (.sl e e') (cell i) := by
  have hk : kds P 1 e = some [.sl e e'] := by simp [kds, he]
  rcases DataW.trod_slice ht hx with ⟨h1, _⟩ | ⟨a, len, cap, elems, rest, m, _, h1, _, hb, hl, hcap, hel, hget, hrest, _⟩
  · cases h1
    exact ⟨0, fun _ => undef, ⟨⟨none, 0, rfl, Nat.le_refl _, Nat.zero_le _, fun _ => rfl⟩, .inl ⟨none, rfl⟩⟩, fun i hi => by omega⟩
  · cases h1
    rw [hc] at hget
    have hcells : ∀ i, i < len → ∃ cs, w.cells? base (a.add (i * 1)) 1 = some cs ∧ KOK enc P w base (fun _ => true) held [.sl e e'] cs 0 := by
      intro i hi
      have h2 : ∃ y, (w.cells? base (a.add (i * 1)) 1).bind (DataW.trod enc P w base (fun _ => true) held m e) = some y :=
        ⟨_, (hget i hi).trans (List.getElem?_eq_getElem (by omega))⟩
      obtain ⟨y, h2⟩ := h2
      cases h3 : w.cells? base (a.add (i * 1)) 1 with
      | none => rw [h3] at h2; cases h2
      | some cs =>
        rw [h3] at h2
        exact ⟨cs, rfl, trod_kds 1 e _ hk m cs _ h2⟩
    by_cases h0 : len = 0
    · subst h0
      by_cases hcap0 : cap = 0
      · subst hcap0
        exact ⟨0, fun _ => undef, ⟨⟨some a, 0, rfl, Nat.zero_le _, hcap, fun h => (by cases h)⟩, .inl ⟨some a, rfl⟩⟩, fun i hi => by omega⟩
      · obtain ⟨hrl, hrest⟩ := hrest rfl
        rw [hc] at hrest
        have h4 := hrest 0 (by omega)
        have h5 : ∃ y, (w.cells? base (a.add ((0 + 0) * 1)) 1).bind (DataW.trod enc P w base (fun _ => true) held m e) = some y := ⟨_, h4.trans (List.getElem?_eq_getElem (by omega))⟩
        obtain ⟨y, h5⟩ := h5
        cases h3 : w.cells? base (a.add ((0 + 0) * 1)) 1 with
        | none => rw [h3] at h5; cases h5
        | some cs0 =>
          have hz := (cells_get h3).2 0 (by omega)
          have hlen0 := (cells_get h3).1
          rw [List.getElem?_eq_getElem (by omega)] at hz
          obtain ⟨b, o, sp⟩ := a
          cases sp with
          | some s => simp [World.cell?, Addr.add] at hz; split at hz <;> simp_all
          | none =>
            rw [addr_add, addr_add] at hz
            unfold World.cell? at hz
            split at hz
            · rename_i c T fr hh
              refine ⟨0, fun _ => undef, ⟨⟨_, cap, rfl, Nat.zero_le _, hcap, fun h => (by cases h)⟩, .inr ⟨b, o, cap, c, T, fr, rfl, hcap0, hh, ?_, fun i hi => by omega⟩⟩, fun i hi => by omega⟩
              have hz' : c[o]? = some cs0[0] := by simpa using hz
              have := (Array.getElem?_eq_some_iff.1 hz').1
              omega
            · cases hz
    · obtain ⟨cs0, hcs0, _⟩ := hcells 0 (by omega)
      have hz := (cells_get hcs0).2 0 (by omega)
      have hlen0 := (cells_get hcs0).1
      rw [List.getElem?_eq_getElem (by omega)] at hz
      obtain ⟨b, o, sp⟩ := a
      cases sp with
      | some s => simp [World.cell?, Addr.add] at hz; split at hz <;> simp_all
      | none =>
        have hadd : ∀ k, (⟨b, o, none⟩ : Addr).add k = ⟨b, o + k, none⟩ := fun k => addr_add b o k
        have hblock : ∃ cs T fr, w.heap[b]? = some (.cells cs T fr) := by
          rw [hadd, addr_add] at hz
          unfold World.cell? at hz
          split at hz
          · rename_i c T fr hh; exact ⟨c, T, fr, hh⟩
          · cases hz
        obtain ⟨cs, T, fr, hh⟩ := hblock
        let cell : Nat → Value := fun i => (cs[o + i]?).getD undef
        have hkok : ∀ i, i < len → kok enc P w base (fun _ => true) held (.sl e e') (cell i) ∧ cs[o + i]? = some (cell i) := by
          intro i hi
          obtain ⟨l, hl1, hl2⟩ := hcells i hi
          obtain ⟨c, hc1, hc2⟩ := hl2 0 _ rfl
          rw [Nat.zero_add] at hc1
          have h4 := (cells_get hl1).2 0 (by omega)
          rw [hadd, addr_add, hc1] at h4
          have h5 : cs[o + i]? = some c := by
            rw [← h4]
            simp [World.cell?, hh]
          have : cell i = c := by show (cs[o + i]?).getD undef = c; rw [h5]; rfl
          rw [this]
          exact ⟨hc2, h5⟩
        refine ⟨len, cell, ⟨⟨some ⟨b, o, none⟩, cap, rfl, hl, hcap, fun h => (by cases h)⟩, .inr ⟨b, o, cap, cs, T, fr, rfl, by omega, hh, ?_, fun i hi => (hkok i hi).2⟩⟩, fun i hi => (hkok i hi).1⟩
        have h5 := (hkok (len - 1) (by omega)).2
        have h6 := (Array.getElem?_eq_some_iff.1 h5).1
        omega
theorem slArg_max {es : Nat} {ts : List KK} {v : Value} {n : Nat} {F : Nat → Int → Nat} {G : Nat → Int → Int} {B : Nat → Int → Bool} (h : SlArg w es ts v n F G B) : (n : Int) ≤ 9223372036854775807 := by
  obtain ⟨_, cap, _, g1, g2, _⟩ := h.len
  have : maxLen = 9223372036854775807 := by decide +kernel
  omega
end
noncomputable section
/-- A row's data: nothing is told of what lies beyond it. -/
structure Rw1 where
  n : Nat
  F : Nat → Int → Nat
  G : Nat → Int → Int
  B : Nat → Int → Bool
def Rw1.sa (y : Rw1) (v : Value) : SA := ⟨v, y.n, SlFloat32.ts, y.F, y.G, y.B⟩
theorem sa_shape (s : SA) (h : s.ts = SlFloat32.ts) : Shape SlFloat32.ts s.row := by
  unfold SA.row
  rw [h]
  exact SlFloat32.shape_row (fun c j => s.F c j) (fun c j => s.G c j)
/-- Where the arguments lie, if there is a header or more. -/
def ssE (d b0 o0 n : Nat) (S1 : SA) (rows : Nat → SA) : EM := fun i =>
  if i = 900 then some (b0, o0, n) else if i = 901 then some (plc d S1) else if isF 0 i = true ∧ posF i < n then some (plc d (rows (posF i))) else none
def ssG (n : Nat) (L : Nat → Int) (S1 : SA) (rows : Nat → SA) (hd : Bool) : Nat → Option Seg := fun i =>
  if i = 900 then (bif hd then some ⟨false, false, .rows 1 n (hdr 0 L)⟩ else none) else if i = 901 then some S1.seg else if isF 0 i = true ∧ posF i < n then some (rows (posF i)).seg else none
end
end Go.Proofs.Ytaoeigofmfpamaa
end

/- The law: from its arguments. Nothing is assumed. -/
section
namespace Go.Proofs.Ytaoeigofmfpamaa
open Go Go.RowKit
noncomputable section
section
variable {W : World}
theorem SA.relE {E : EM} {d i : Nat} {s : SA} (hE : E i = some (plc d s)) (hi : i ≠ 0) (h : s.ok W) : RelC E (.sl i 0 s.ts.length (.s s.n) false) s.v := by
  obtain ⟨b, cap, hv, h1, h2, h3⟩ := h.len
  refine ⟨b, s.n, cap, hv, rfl, h1, h3, fun a ha => ⟨hi, ?_⟩⟩
  subst ha
  refine ⟨(plc d s).1, (plc d s).2.1, (plc d s).2.2, hE, fun hcap => ?_, fun hf => by cases hf⟩
  rcases h.none_ with ⟨b, h0⟩ | ⟨b, o, cap', cs, T, fr, hv', hne, hh, hfit, hc⟩
  · rw [hv] at h0; cases h0; exact absurd rfl hcap
  · rw [hv] at hv'; cases hv'
    unfold plc; rw [hv]
    simp [hcap]
theorem ss_gm {d b0 o0 n : Nat} {S1 : SA} {rows : Nat → SA} {hd : Bool} {T0 : Nat → Nat → Prop} (hT : ∀ b k, ¬ T0 b k) (hS : S1.ok W) (hS1 : S1.ts = SlFloat32.ts) (hd0 : Stands W d) (hr : ∀ p, p < n → (rows p).ok W ∧ (rows p).ts = SlFloat32.ts)
    (hh : hd = true → ∃ cs T fr, W.heap[b0]? = some (.cells cs T fr) ∧ o0 + n ≤ cs.size ∧ ∀ i, i < n → cs[o0 + i]? = some (rows i).v) : GM W T0 (ssE d b0 o0 n S1 rows) (ssG n (fun p => ((rows p).n : Int)) S1 rows hd) W := by
  have h900 : ssE d b0 o0 n S1 rows 900 = some (b0, o0, n) := by unfold ssE; rw [if_pos rfl]
  have h901 : ssE d b0 o0 n S1 rows 901 = some (plc d S1) := by unfold ssE; rw [if_neg (by decide), if_pos rfl]
  have hrow : ∀ p, p < n → ssE d b0 o0 n S1 rows (gid 0 p) = some (plc d (rows p)) := fun p hp => by
    have := gid_ge 0 p
    unfold ssE
    rw [if_neg (by omega), if_neg (by omega), isF_gid (by decide), pos_gid (by decide), if_pos ⟨by simp, hp⟩]
  have hcase : ∀ i g, ssG n (fun p => ((rows p).n : Int)) S1 rows hd i = some g → (i = 900 ∧ hd = true ∧ g = ⟨false, false, .rows 1 n (hdr 0 fun p => ((rows p).n : Int))⟩) ∨ (i = 901 ∧ g = S1.seg) ∨ ∃ p, p < n ∧ i = gid 0 p ∧ g = (rows p).seg := fun i g hg => by
    unfold ssG at hg
    split at hg
    · rename_i e
      cases hd with
      | false => cases hg
      | true => cases hg; exact .inl ⟨e, rfl, rfl⟩
    · split at hg
      · rename_i e; cases hg; exact .inr (.inl ⟨e, rfl⟩)
      · split at hg
        · rename_i e
          cases hg
          exact .inr (.inr ⟨posF i, e.2, (isF_iff (by decide)).1 e.1, rfl⟩)
        · cases hg
  have ro : ∀ i g, ssG n (fun p => ((rows p).n : Int)) S1 rows hd i = some g → g.rw = false := fun i g hg => by
    rcases hcase i g hg with ⟨_, _, rfl⟩ | ⟨_, rfl⟩ | ⟨_, _, _, rfl⟩ <;> rfl
  have pos : 0 < SlFloat32.ts.length := by decide
  refine ⟨⟨fun i g hg => ?_, fun i j g k b o z b' o' z' _ hg hk hr => ?_, fun i g b o z hg hr => ?_, Fr.refl _ _, tab_none W, fun b k _ h => hT b k h⟩, fun i g hg => ?_, fun i hi => ?_⟩
  · rcases hcase i g hg with ⟨rfl, hd1, rfl⟩ | ⟨rfl, rfl⟩ | ⟨p, hp, rfl, rfl⟩
    · obtain ⟨cs, T, fr, q1, q2, q3⟩ := hh hd1
      have hl : (⟨false, false, .rows 1 (n : Int) (hdr 0 fun p => ((rows p).n : Int))⟩ : Seg).body.len = n := by
        show 1 * (n : Int).toNat = n
        rw [Int.toNat_natCast, Nat.one_mul]
      refine ⟨b0, o0, n, cs, T, fr, h900, q1, by rw [hl]; exact Nat.le_refl _, q2, fun h => (by cases h), fun h => (by cases h), fun k hk => ?_⟩
      rw [hl] at hk
      refine ⟨_, q3 k hk, ?_⟩
      show RelC _ ((hdr 0 (fun p => ((rows p).n : Int)) ((k / 1 : Nat) : Int)).getD (k % 1) .any) (rows k).v
      rw [Nat.div_one, Nat.mod_one]
      show RelC _ (.sl (gid 0 ((k : Int).toNat)) 0 1 (.s ((rows ((k : Int).toNat)).n : Int)) false) (rows k).v
      rw [Int.toNat_natCast]
      have := SA.relE (hrow k hk) (by have := gid_ge 0 k; omega) (hr k hk).1
      rw [(hr k hk).2] at this
      exact this
    · obtain ⟨cs, T, fr, h5⟩ := SA.segAt (E := ssE d b0 o0 n S1 rows) (by rw [hS1]; exact pos) hS hd0
      exact ⟨_, _, _, cs, T, fr, h901, h5⟩
    · obtain ⟨cs, T, fr, h5⟩ := SA.segAt (E := ssE d b0 o0 n S1 rows) (by rw [(hr p hp).2]; exact pos) (hr p hp).1 hd0
      exact ⟨_, _, _, cs, T, fr, hrow p hp, h5⟩
  · rw [ro i g hg, ro j k hk] at hr
    rcases hr with hr | hr <;> cases hr
  · rw [ro i g hg] at hr; cases hr
  · rcases hcase i g hg with ⟨rfl, _⟩ | ⟨rfl, _⟩ | ⟨p, _, rfl, _⟩
    · decide
    · decide
    · have := gid_ge 0 p; omega
  · unfold ssE
    rw [if_neg (by omega), if_neg (by omega), isF_lt (by omega)]
    simp
theorem ssE_fi {d b0 o0 n : Nat} {S1 : SA} {rows : Nat → SA} : FI (ssE d b0 o0 n S1 rows) 902 := fun j h1 h2 => by
  unfold ssE
  rw [if_neg (by omega), if_neg (by omega), isF_lt (by omega)]
  simp
theorem ssE_ff {d b0 o0 n : Nat} {S1 : SA} {rows : Nat → SA} : FF (ssE d b0 o0 n S1 rows) 1 := fun f p h1 h2 => by
  have := gid_ge f p
  unfold ssE
  rw [if_neg (by omega), if_neg (by omega), isF_gid h2, decide_eq_false (by omega : ¬ f = 0)]
  simp
set_option maxRecDepth 100000 in
theorem law_args {n : Nat} {v0 v1 : Value} {cell : Nat → Value} (h0 : SsArg W v0 n cell) (hr : ∀ i, i < n → ∃ n' F G B, SlArg W 1 SlFloat32.ts (cell i) n' F G B) {m : Nat} {F1 : Nat → Int → Nat} {G1 : Nat → Int → Int} {B1 : Nat → Int → Bool} (h1 : SlArg W 1 SlFloat32.ts v1 m F1 G1 B1) :
    Calls Try.prog 7 #[v0, v1] W fun e w' => e = .returned (.bool true) ∧ Grown W w' := by
  have key : ∀ i, ∃ s : SA, i < n → s.v = cell i ∧ s.ok W ∧ s.ts = SlFloat32.ts := fun i => by
    by_cases hi : i < n
    · obtain ⟨n', F, G, B, h⟩ := hr i hi
      exact ⟨⟨cell i, n', SlFloat32.ts, F, G, B⟩, fun _ => ⟨rfl, h, rfl⟩⟩
    · exact ⟨⟨undef, 0, SlFloat32.ts, fun _ _ => 0, fun _ _ => 0, fun _ _ => true⟩, fun h => absurd h hi⟩
  obtain ⟨rows, hrows⟩ : ∃ rows : Nat → SA, ∀ i, i < n → (rows i).v = cell i ∧ (rows i).ok W ∧ (rows i).ts = SlFloat32.ts := ⟨fun i => Classical.choose (key i), fun i => Classical.choose_spec (key i)⟩
  let S1 : SA := ⟨v1, m, SlFloat32.ts, F1, G1, B1⟩
  have hS : S1.ok W := h1
  have hT : ∀ b k : Nat, ¬ (fun _ _ => False : Nat → Nat → Prop) b k := fun _ _ h => h
  have fin : NextOK Try.prog ((callFunc 7 #[v0, v1]).run Try.prog W) (fun v w' => v = .bool true ∧ Fr W w' (fun _ _ => False)) → Calls Try.prog 7 #[v0, v1] W fun e w' => e = .returned (.bool true) ∧ Grown W w' := fun h => by
    refine (calls_of Try.func7 (by kernel_rfl) (by kernel_rfl) h).mono fun x w' hx => ?_
    obtain ⟨v, hv, rfl, hf⟩ := hx
    exact ⟨hv, grown_of hf fun b k _ h => h⟩
  have hmax0 : (n : Int) ≤ 9223372036854775807 := by
    obtain ⟨_, cap, _, g1, g2, _⟩ := h0.len
    have : maxLen = 9223372036854775807 := by decide +kernel
    omega
  have hro : ∀ p, p < n → (rows p).ok W ∧ (rows p).ts = SlFloat32.ts := fun p hp => (hrows p hp).2
  have hsh1 : Shape SlFloat32.ts S1.row := sa_shape S1 rfl
  have hrel1 : ∀ {E : EM} {d : Nat}, E 901 = some (plc d S1) → RelC E (.sl 901 0 1 (.s (m : Int)) false) v1 := fun {E d} hE => SA.relE (s := S1) hE (by decide) hS
  have hlt : ∀ p : Nat, (p : Int) < (n : Int) → ∀ c : Int, 0 ≤ c → c < ((rows p).n : Int) → datF (rows p).row 0 c < 4294967296 := fun p hp c hc0 hc => by
    have hpn : p < n := by omega
    obtain ⟨hv, hok, hts⟩ := hrows p hpn
    have hd := (hok.dat c.toNat 0 (.flt .f32) (by omega) (by rw [hts]; rfl)).1 _ rfl
    rw [Int.toNat_of_nonneg hc0] at hd
    have h2 := hd.lt
    have e : datF (rows p).row 0 c = (rows p).F 0 c := by
      unfold datF SA.row
      rw [hts]; rfl
    rw [e]; exact h2
  by_cases hn : n = 0
  · subst hn
    by_cases hd : ∃ d, Stands W d
    · obtain ⟨d, hd⟩ := hd
      have hpl : ∃ b0 o0, ∀ E : EM, E 900 = some (b0, o0, 0) → RelC E (.sl 900 0 1 (.s 0) false) v0 := by
        obtain ⟨b, cap, hv, g1, g2, g3⟩ := h0.len
        rcases h0.none_ with ⟨b', h⟩ | ⟨b', o', cap', cs, T, fr, h, _⟩
        · rw [hv] at h; cases h
          exact ⟨d, 0, fun E hE => ⟨_, 0, 0, hv, rfl, Nat.le_refl _, g3, fun a ha => ⟨by decide, d, 0, 0, hE, fun h => absurd rfl h, fun h => by cases h⟩⟩⟩
        · rw [hv] at h; cases h
          exact ⟨b', o', fun E hE => ⟨_, 0, cap, hv, rfl, Nat.zero_le _, g3, fun a ha => ⟨by decide, b', o', 0, hE, fun _ => by cases ha; rfl, fun h => by cases h⟩⟩⟩
      obtain ⟨b0, o0, hv0⟩ := hpl
      refine fin (law_call (w0 := W) (fl := false) (n := 0) (m := m) (L := fun p => ((rows p).n : Int)) (R := fun p => (rows p).row) (rr := S1.row) (ss_gm (d := d) (b0 := b0) (o0 := o0) (hd := false) hT hS rfl hd hro (fun h => by cases h)) (by decide) (by decide) (by omega) hsh1 (fun h => absurd h (by decide)) (fun p hp => absurd hp (by omega))
        (.inl ⟨_, _, rfl⟩) (fun p hp => absurd hp (by omega)) ssE_fi ssE_ff (hv0 _ rfl) (hrel1 rfl))
    · -- no block stands
      have hm0 : m = 0 := by
        rcases h1.none_ with ⟨b, h⟩ | ⟨b, o, cap', cs, T, fr, _, _, hh, _⟩
        · obtain ⟨b', cap, hv, g1, _⟩ := h1.len
          rw [hv] at h; cases h; omega
        · exact absurd ⟨b, cs, T, fr, hh⟩ hd
      subst hm0
      let E : EM := fun i => if i = 900 ∨ i = 901 then some (0, 0, 0) else none
      have hv0 : RelC E (.sl 900 0 1 (.s 0) false) v0 := by
        obtain ⟨b, cap, hv, g1, g2, g3⟩ := h0.len
        rcases h0.none_ with ⟨b', h⟩ | ⟨b', o', cap', cs, T, fr, h, _, hh, _⟩
        · rw [hv] at h; cases h
          exact ⟨_, 0, 0, hv, rfl, Nat.le_refl _, g3, fun a ha => ⟨by decide, 0, 0, 0, rfl, fun h => absurd rfl h, fun h => by cases h⟩⟩
        · exact absurd ⟨b', cs, T, fr, hh⟩ hd
      have hv1 : RelC E (.sl 901 0 1 (.s 0) true) v1 := by
        obtain ⟨b, cap, hv, g1, g2, g3⟩ := h1.len
        rcases h1.none_ with ⟨b', h⟩ | ⟨b', o', cap', cs, T, fr, h, _, hh, _⟩
        · rw [hv] at h; cases h
          exact ⟨_, 0, 0, hv, rfl, Nat.le_refl _, g3, fun a ha => ⟨by decide, 0, 0, 0, rfl, fun h => absurd rfl h, fun _ => rfl⟩⟩
        · exact absurd ⟨b', cs, T, fr, hh⟩ hd
      refine fin (law_call (w0 := W) (w := W) (E := E) (sg := fun _ => none) (T0 := fun _ _ => False) (fl := true) (n := 0) (m := 0) (L := fun p => ((rows p).n : Int)) (R := fun p => (rows p).row) (rr := S1.row) ⟨⟨fun i g hg => (by cases hg), fun i j g h b o z b' o' z' _ hg => (by cases hg), fun i g b o z hg => (by cases hg), Fr.refl _ _, tab_none W, fun b k _ h => h⟩, fun j g hg => (by cases hg), fun j hj => if_neg (by omega)⟩
        (by decide) (by decide) (by decide) hsh1 (fun h => absurd h (by decide)) (fun p hp => absurd hp (by omega)) (.inr ⟨rfl, rfl, rfl, fun _ => rfl⟩) (fun p hp => absurd hp (by omega)) (fun j h1 h2 => if_neg (by omega)) (fun f p h1 h2 => if_neg (by have := gid_ge f p; omega)) hv0 hv1)
  · rcases h0.none_ with ⟨b, h⟩ | ⟨b0, o0, cap, cs, T, fr, hv, hcap, hh, hfit, hc⟩
    · obtain ⟨b', cap, hv, g1, _⟩ := h0.len
      rw [hv] at h; cases h; omega
    have hv0 : ∀ E : EM, E 900 = some (b0, o0, n) → RelC E (.sl 900 0 1 (.s (n : Int)) false) v0 := fun E hE => by
      obtain ⟨b, cap', hv', g1, g2, g3⟩ := h0.len
      rw [hv] at hv'; cases hv'
      exact ⟨_, n, cap, hv, rfl, g1, g3, fun a ha => ⟨by decide, b0, o0, n, hE, fun _ => by cases ha; rfl, fun h => by cases h⟩⟩
    refine fin (law_call (w0 := W) (fl := false) (n := n) (m := m) (L := fun p => ((rows p).n : Int)) (R := fun p => (rows p).row) (rr := S1.row) (ss_gm (d := b0) (b0 := b0) (o0 := o0) (hd := true) hT hS rfl ⟨cs, T, fr, hh⟩ hro (fun _ => ⟨cs, T, fr, hh, hfit, fun i hi => by rw [(hrows i hi).1]; exact hc i hi⟩)) (by omega) hmax0 (by omega) hsh1 (fun _ => ⟨false, rfl⟩) (fun p hp => ?_)
        (.inl ⟨_, _, rfl⟩) hlt ssE_fi ssE_ff (hv0 _ rfl) (hrel1 rfl))
    have hpn : p < n := by omega
    have hg := gid_ge 0 p
    refine ⟨⟨false, ?_⟩, by omega, slArg_max (hro p hpn).1, sa_shape _ (hro p hpn).2⟩
    unfold ssG
    rw [if_neg (by omega), if_neg (by omega), isF_gid (by decide), pos_gid (by decide), if_pos ⟨by simp, hpn⟩]
    unfold SA.seg
    rw [(hro p hpn).2]
    rfl
end
end
end Go.Proofs.Ytaoeigofmfpamaa
end
