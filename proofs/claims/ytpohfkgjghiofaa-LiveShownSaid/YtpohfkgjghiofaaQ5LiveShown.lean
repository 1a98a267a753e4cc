/-
  Texts of this proof, put together: Lv31.
-/

import Derived.Test.YtpohfkgjghiofaaQ4LiveShown

namespace Go.Proofs.Ytpohfkgjghiofaa
open Go Go.RowKit L
set_option maxRecDepth 10000
set_option maxHeartbeats 4000000
set_option linter.unusedVariables false
set_option linter.unusedSimpArgs false
def Zx (a0 : (List Int)) : G Bool :=
  G.bind (G.loop (σ := Int) (α := Unit ⊕ Bool) (fun x5 => G.cond (decide (x5 < (a0.length : Int))) (G.bind (G.lift (idx a0 (w64 (x5 - 1)))) fun x16 => G.bind (G.lift (idx a0 x5)) fun x17 => G.cond (decide (x17 ≤ x16)) (G.pure (.inr (.inr false))) (G.pure (.inl (w64 (x5 + 1))))) (G.pure (.inr (.inl ())))) 1) fun o => match o with | .inl () => G.pure true | .inr r22 => G.pure r22
theorem zfs {nn : Nat} {a0 : (List Int)} {r : Bool} (h0 : Zx a0 nn = some r) : PCall Try.prog 76 [slI a0] (· = B r) := by
 unfold Zx at h0
 refine PCall.intro' Try.func76 rfl Try.ntmps76 (by simp) fun W => ?_
 refine A1 0 (e_ (slI a0)) fun F f0 => ?_
 generalize PHeap.empty = H
 refine SR fun K1 hK1 => ?_
 refine Q1 _ (jf (e_ (B false))) ?_
 refine PL.nil (hK1 _ _ ?_)
 refine A1 0 f0 fun F f0 => ?_
 refine PC.seq fun K2 hK2 => ?_
 refine SR fun K3 hK3 => ?_
 refine Q1 _ (jf (e_ (I 1))) ?_
 refine PL.nil (hK3 _ _ ?_)
 refine A2 0 f0 3 (e_ (I 1)) fun F f0 f3 => ?_
 refine PC.block ?_
 obtain ⟨o6, ho6, h0⟩ := bs h0
 obtain ⟨B7, hB7, ho6⟩ := G.loop_some ho6
 refine PC.loop (fun m10 F H => ∃ s23 : Int, qw B7 m10 s23 = some o6 ∧ F 0 = (slI a0) ∧ F 3 = (I s23)) (m := nn) ⟨1, ho6, f0, f3⟩ fun m10 F H hI => ?_
 obtain ⟨x5, ho6, f0, f3⟩ := hI
 obtain ⟨m10, rfl, st8, hs9, ho6⟩ := jw ho6
 rw [hB7] at hs9
 try dsimp only at hs9
 refine PC.seq fun K11 hK11 => ?_
 refine SR fun K12 hK12 => ?_
 refine Q1 _ (jb f3) ?_
 refine Q1 _ (jb f0) ?_
 refine Q1 (I (a0.length : Int)) (qg (rep := I) (xs := a0) ql (e_ (slI a0))) ?_
 refine Q1 _ (jh rfl (e_ (I x5)) (e_ (I (a0.length : Int))) jv) ?_
 refine PL.nil (hK12 _ _ ?_)
 refine A3 0 f0 3 f3 7 (e_ (B (decide (x5 < (a0.length : Int))))) fun F f0 f3 f7 => ?_
 rcases cz hs9 with ⟨hb13, hs9⟩ | ⟨hb13, hs9⟩
 refine PC.condTb f7 hb13 ?_
 refine PC.skip ?_
 refine hK11 _ _ ?_
 refine A2 0 f0 3 f3 fun F f0 f3 => ?_
 refine PC.seq fun K14 hK14 => ?_
 refine PC.block ?_
 refine PC.seq fun K15 hK15 => ?_
 refine PC.regionQ mixed (by kernel_rfl) ?_
 refine Q2 _ (jb f0) ?_
 refine Q2 _ (jb f3) ?_
 refine Q2 _ (jh rfl (e_ (I x5)) (e_ (I 1)) Jb) ?_
 obtain ⟨x16, hx16, hs9⟩ := bs hs9
 refine Q2 (PV.rp (I x16).cells) (j1 (rep := I) (xs := a0) vk (e_ (slI a0)) (e_ (I (w64 (x5 - 1)))) hx16) ?_
 refine Q2 (I x16) (qr qz (e_ (PV.rp (I x16).cells))) ?_
 refine Q2 _ (jb f0) ?_
 refine Q2 _ (jb f3) ?_
 obtain ⟨x17, hx17, hs9⟩ := bs hs9
 refine Q2 (PV.rp (I x17).cells) (j1 (rep := I) (xs := a0) vk (e_ (slI a0)) (e_ (I x5)) hx17) ?_
 refine Q2 (I x17) (qr qz (e_ (PV.rp (I x17).cells))) ?_
 refine Q2 _ (jh rfl (e_ (I x16)) (e_ (I x17)) vr) ?_
 refine QF.nil ?_
 refine hK15 _ _ ?_
 refine A3 0 f0 3 f3 19 (e_ (B (decide (x17 ≤ x16)))) fun F f0 f3 f19 => ?_
 rcases cz hs9 with ⟨hb18, hs9⟩ | ⟨hb18, hs9⟩
 refine PC.condTb f19 hb18 ?_
 refine SR fun K19 hK19 => ?_
 refine Q1 _ (jf (e_ (B false))) ?_
 refine PL.nil (hK19 _ _ ?_)
 refine A1 2 (e_ (B false)) fun F f2 => ?_
 have hs9 := pz hs9
 subst hs9
 try dsimp only at ho6
 subst ho6
 try dsimp only at h0
 refine PC.ret ?_
 have h0 := pz h0
 subst h0
 exact fin (.inr rfl) (j9 Try.results76 f2) (.u _)
 refine PC.condFb f19 hb18 ?_
 refine PC.skip ?_
 refine hK14 _ _ ?_
 refine A2 0 f0 3 f3 fun F f0 f3 => ?_
 refine PC.region ?_
 refine Q1 _ (jb f3) ?_
 refine Q1 _ (jh rfl (e_ (I x5)) (e_ (I 1)) j3) ?_
 refine Q1 _ (jf (e_ (I (w64 (x5 + 1))))) ?_
 refine PL.nil ?_
 have hs9 := pz hs9
 subst hs9
 exact ⟨m10, Nat.lt_succ_self _, (w64 (x5 + 1)), ho6, f0, (e_ (I (w64 (x5 + 1))))⟩
 refine PC.condFb f7 hb13 ?_
 refine PC.exit ?_
 have hs9 := pz hs9
 subst hs9
 try dsimp only at ho6
 subst ho6
 try dsimp only at h0
 refine hK2 _ _ ?_
 refine PC.absF (fun F => True) trivial ?_
 intro F hI
 clear hI
 refine SR fun K20 hK20 => ?_
 refine Q1 _ (jf (e_ (B true))) ?_
 refine PL.nil (hK20 _ _ ?_)
 refine A1 2 (e_ (B true)) fun F f2 => ?_
 refine PC.ret ?_
 have h0 := pz h0
 subst h0
 exact fin (.inr rfl) (j9 Try.results76 f2) (.u _)
def V8 (a0 : jy) (a1 : (List Int)) : G Bool :=
  G.bind (G.loop (σ := Int) (α := Unit ⊕ Bool) (fun x5 => G.cond (decide (x5 < (a1.length : Int))) (G.bind (G.lift (idx a1 x5)) fun x16 => G.bind (G.cond (!(decide (x16 < 0))) (G.lift (idx a1 x5)) (G.pure 0)) fun x17 => G.cond ((decide (x16 < 0)) || (decide ((a0.jm.length : Int) ≤ x17))) (G.pure (.inr (.inr false))) (G.pure (.inl (w64 (x5 + 1))))) (G.pure (.inr (.inl ())))) 0) fun o => match o with | .inl () => G.bind (Zx a1) fun x23 => G.pure x23 | .inr r24 => G.pure r24
theorem za3 {nn : Nat} {a0 : jy} {a1 : (List Int)} {r : Bool} (h0 : V8 a0 a1 nn = some r) : PCall Try.prog 52 [jn a0, slI a1] (· = B r) := by
 unfold V8 at h0
 refine PCall.intro' Try.func52 rfl Try.ntmps52 (by simp) fun W => ?_
 refine A2 0 (e_ (jn a0)) 1 (e_ (slI a1)) fun F f0 f1 => ?_
 generalize PHeap.empty = H
 refine SR fun K1 hK1 => ?_
 refine Q3 (PV.rp (jn a0).cells) (zk f0 (zw _ _)) ?_
 refine Q1 _ (jf (e_ (B false))) ?_
 refine PL.nil (hK1 _ _ ?_)
 refine A2 1 f1 2 (e_ (PV.rp (jn a0).cells)) fun F f1 f2 => ?_
 refine PC.seq fun K2 hK2 => ?_
 refine SR fun K3 hK3 => ?_
 refine Q1 _ (jf (e_ (I 0))) ?_
 refine PL.nil (hK3 _ _ ?_)
 refine A3 1 f1 2 f2 5 (e_ (I 0)) fun F f1 f2 f5 => ?_
 refine PC.block ?_
 obtain ⟨o6, ho6, h0⟩ := bs h0
 obtain ⟨B7, hB7, ho6⟩ := G.loop_some ho6
 refine PC.loop (fun m10 F H => ∃ s25 : Int, qw B7 m10 s25 = some o6 ∧ F 1 = (slI a1) ∧ F 2 = (PV.rp (jn a0).cells) ∧ F 5 = (I s25)) (m := nn) ⟨0, ho6, f1, f2, f5⟩ fun m10 F H hI => ?_
 obtain ⟨x5, ho6, f1, f2, f5⟩ := hI
 obtain ⟨m10, rfl, st8, hs9, ho6⟩ := jw ho6
 rw [hB7] at hs9
 try dsimp only at hs9
 refine PC.seq fun K11 hK11 => ?_
 refine SR fun K12 hK12 => ?_
 refine Q1 _ (jb f5) ?_
 refine Q1 _ (jb f1) ?_
 refine Q1 (I (a1.length : Int)) (qg (rep := I) (xs := a1) ql (e_ (slI a1))) ?_
 refine Q1 _ (jh rfl (e_ (I x5)) (e_ (I (a1.length : Int))) jv) ?_
 refine PL.nil (hK12 _ _ ?_)
 refine A4 1 f1 2 f2 5 f5 9 (e_ (B (decide (x5 < (a1.length : Int))))) fun F f1 f2 f5 f9 => ?_
 rcases cz hs9 with ⟨hb13, hs9⟩ | ⟨hb13, hs9⟩
 refine PC.condTb f9 hb13 ?_
 refine PC.skip ?_
 refine hK11 _ _ ?_
 refine A3 1 f1 2 f2 5 f5 fun F f1 f2 f5 => ?_
 refine PC.seq fun K14 hK14 => ?_
 refine PC.block ?_
 refine PC.seq fun K15 hK15 => ?_
 refine PC.regionQ mixed (by kernel_rfl) ?_
 refine Q2 _ (jb f1) ?_
 refine Q2 _ (jb f5) ?_
 obtain ⟨x16, hx16, hs9⟩ := bs hs9
 refine Q2 (PV.rp (I x16).cells) (j1 (rep := I) (xs := a1) vk (e_ (slI a1)) (e_ (I x5)) hx16) ?_
 refine Q2 (I x16) (qr qz (e_ (PV.rp (I x16).cells))) ?_
 refine Q2 _ (jh rfl (e_ (I x16)) (e_ (I 0)) jv) ?_
 refine Q2 _ (jb (e_ (B (decide (x16 < 0))))) ?_
 refine HF_ (slI a1) rfl (e_ (B (decide (x16 < 0)))) (fun hb => jb f1) ?_
 refine HF_ (I x5) rfl (e_ (B (decide (x16 < 0)))) (fun hb => jb f5) ?_
 obtain ⟨x17, hx17, hs9⟩ := bs hs9
 refine HF_ (PV.rp (I x17).cells) rfl (e_ (B (decide (x16 < 0)))) (fun hb => j1 (rep := I) (xs := a1) vk (gvp hb (e_ (gv (!(decide (x16 < 0))) (slI a1)))) (gvp hb (e_ (gv (!(decide (x16 < 0))) (I x5)))) (G.cond_pos hx17 hb)) ?_
 refine HF_ (I x17) rfl (e_ (B (decide (x16 < 0)))) (fun hb => qr qz (gvp hb (e_ (gv (!(decide (x16 < 0))) (PV.rp (I x17).cells))))) ?_
 refine HF_ (PV.rp ((jn a0).cells.drop 0)) rfl (e_ (B (decide (x16 < 0)))) (fun hb => j8 Jd y4 (by decide) f2) ?_
 refine HF_ (jg a0.jm) rfl (e_ (B (decide (x16 < 0)))) (fun hb => jx y4 (gvp hb (e_ (gv (!(decide (x16 < 0))) (PV.rp ((jn a0).cells.drop 0))))) (yp a0)) ?_
 refine HF_ (I (a0.jm.length : Int)) rfl (e_ (B (decide (x16 < 0)))) (fun hb => qg (rep := (arV (n := 4) (iK .u64))) (xs := a0.jm) zd (gvp hb (e_ (gv (!(decide (x16 < 0))) (jg a0.jm))))) ?_
 refine HF_ (B (decide ((a0.jm.length : Int) ≤ x17))) rfl (e_ (B (decide (x16 < 0)))) (fun hb => jh rfl (gvp hb (e_ (gv (!(decide (x16 < 0))) (I x17)))) (gvp hb (e_ (gv (!(decide (x16 < 0))) (I (a0.jm.length : Int))))) vr) ?_
 refine Q2 (B ((decide (x16 < 0)) || (decide ((a0.jm.length : Int) ≤ x17)))) (yf (e_ (B (decide (x16 < 0)))) rfl (e_ (gv (!(decide (x16 < 0))) (B (decide ((a0.jm.length : Int) ≤ x17)))))) ?_
 refine QF.nil ?_
 refine hK15 _ _ ?_
 refine A4 1 f1 2 f2 5 f5 26 (e_ (B ((decide (x16 < 0)) || (decide ((a0.jm.length : Int) ≤ x17))))) fun F f1 f2 f5 f26 => ?_
 rcases cz hs9 with ⟨hb18, hs9⟩ | ⟨hb18, hs9⟩
 refine PC.condTb f26 hb18 ?_
 refine SR fun K19 hK19 => ?_
 refine Q1 _ (jf (e_ (B false))) ?_
 refine PL.nil (hK19 _ _ ?_)
 refine A1 4 (e_ (B false)) fun F f4 => ?_
 have hs9 := pz hs9
 subst hs9
 try dsimp only at ho6
 subst ho6
 try dsimp only at h0
 refine PC.ret ?_
 have h0 := pz h0
 subst h0
 exact fin (.inr rfl) (j9 Try.results52 f4) (.u _)
 refine PC.condFb f26 hb18 ?_
 refine PC.skip ?_
 refine hK14 _ _ ?_
 refine A3 1 f1 2 f2 5 f5 fun F f1 f2 f5 => ?_
 refine PC.region ?_
 refine Q1 _ (jb f5) ?_
 refine Q1 _ (jh rfl (e_ (I x5)) (e_ (I 1)) j3) ?_
 refine Q1 _ (jf (e_ (I (w64 (x5 + 1))))) ?_
 refine PL.nil ?_
 have hs9 := pz hs9
 subst hs9
 exact ⟨m10, Nat.lt_succ_self _, (w64 (x5 + 1)), ho6, f1, f2, (e_ (I (w64 (x5 + 1))))⟩
 refine PC.condFb f9 hb13 ?_
 refine PC.exit ?_
 have hs9 := pz hs9
 subst hs9
 try dsimp only at ho6
 subst ho6
 try dsimp only at h0
 refine hK2 _ _ ?_
 refine A1 1 f1 fun F f1 => ?_
 refine SR fun K20 hK20 => ?_
 refine Q1 _ (jb f1) ?_
 obtain ⟨x21, hx21, h0⟩ := bs h0
 refine Q3 (B x21) (j0 (by kernel_rfl) (am (e_ (slI a1)) (am0)) (js (ye _) (j2)) (zfs hx21)) ?_
 refine Q1 _ (jf (e_ (B x21))) ?_
 refine PL.nil (hK20 _ _ ?_)
 refine A1 4 (e_ (B x21)) fun F f4 => ?_
 refine PC.ret ?_
 have h0 := pz h0
 subst h0
 exact fin (.inr rfl) (j9 Try.results52 f4) (.u _)
def Js (a0 : jy) : G Bool :=
  G.bind (G.cond (!(((decide (¬ (a0.yd.length : Int) = (a0.jm.length : Int))) || (decide (¬ (a0.qv.length : Int) = (a0.jm.length : Int)))) || (decide (¬ (a0.qp.length : Int) = (a0.jm.length : Int))))) (V8 a0 a0.Qc) (G.pure false)) fun x4 => G.cond ((((decide (¬ (a0.yd.length : Int) = (a0.jm.length : Int))) || (decide (¬ (a0.qv.length : Int) = (a0.jm.length : Int)))) || (decide (¬ (a0.qp.length : Int) = (a0.jm.length : Int)))) || (!x4)) (G.pure false) (G.bind (G.loop (σ := Int) (α := Unit ⊕ Bool) (fun x10 => G.cond (decide (x10 < (a0.jm.length : Int))) (G.bind (G.lift (idx a0.yd x10)) fun x21 => G.bind (G.cond (!(decide (x21 < 0))) (G.lift (idx a0.qp x10)) (G.pure [])) fun x22 => G.bind (G.cond (!(decide (x21 < 0))) (V8 a0 x22) (G.pure false)) fun x23 => G.cond ((decide (x21 < 0)) || (!x23)) (G.pure (.inr (.inr false))) (G.pure (.inl (w64 (x10 + 1))))) (G.pure (.inr (.inl ())))) 0) fun o => match o with | .inl () => G.pure true | .inr r28 => G.pure r28)
theorem Qs {nn : Nat} {a0 : jy} {r : Bool} (h0 : Js a0 nn = some r) : PCall Try.prog 34 [jn a0] (· = B r) := by
 unfold Js at h0
 refine PCall.intro' Try.func34 rfl Try.ntmps34 (by simp) fun W => ?_
 refine A1 0 (e_ (jn a0)) fun F f0 => ?_
 generalize PHeap.empty = H
 refine SR fun K1 hK1 => ?_
 refine Q3 (PV.rp (jn a0).cells) (zk f0 (zw _ _)) ?_
 refine Q1 _ (jf (e_ (B false))) ?_
 refine PL.nil (hK1 _ _ ?_)
 refine A1 1 (e_ (PV.rp (jn a0).cells)) fun F f1 => ?_
 refine PC.seq fun K2 hK2 => ?_
 refine SR fun K3 hK3 => ?_
 refine Q1 (PV.rp ((jn a0).cells.drop 1)) (j8 zac qh (by decide) f1) ?_
 refine Q1 (slI a0.yd) (jx qh (e_ (PV.rp ((jn a0).cells.drop 1))) (V3 a0)) ?_
 refine Q1 (I (a0.yd.length : Int)) (qg (rep := I) (xs := a0.yd) ql (e_ (slI a0.yd))) ?_
 refine Q1 (PV.rp ((jn a0).cells.drop 0)) (j8 Jd y4 (by decide) f1) ?_
 refine Q1 (jg a0.jm) (jx y4 (e_ (PV.rp ((jn a0).cells.drop 0))) (yp a0)) ?_
 refine Q1 (I (a0.jm.length : Int)) (qg (rep := (arV (n := 4) (iK .u64))) (xs := a0.jm) zd (e_ (jg a0.jm))) ?_
 refine Q1 _ (jh rfl (e_ (I (a0.yd.length : Int))) (e_ (I (a0.jm.length : Int))) yc) ?_
 refine Q1 _ (jb (e_ (B (decide (¬ (a0.yd.length : Int) = (a0.jm.length : Int)))))) ?_
 refine GF (PV.rp ((jn a0).cells.drop 2)) rfl (e_ (B (decide (¬ (a0.yd.length : Int) = (a0.jm.length : Int))))) (fun hb => j8 zdv zca (by decide) f1) ?_
 refine GF (slB a0.qv) rfl (e_ (B (decide (¬ (a0.yd.length : Int) = (a0.jm.length : Int))))) (fun hb => jx zca (gvp hb (e_ (gv (!(decide (¬ (a0.yd.length : Int) = (a0.jm.length : Int)))) (PV.rp ((jn a0).cells.drop 2))))) (zcr a0)) ?_
 refine GF (I (a0.qv.length : Int)) rfl (e_ (B (decide (¬ (a0.yd.length : Int) = (a0.jm.length : Int))))) (fun hb => qg (rep := B) (xs := a0.qv) zgw (gvp hb (e_ (gv (!(decide (¬ (a0.yd.length : Int) = (a0.jm.length : Int)))) (slB a0.qv))))) ?_
 refine GF (PV.rp ((jn a0).cells.drop 0)) rfl (e_ (B (decide (¬ (a0.yd.length : Int) = (a0.jm.length : Int))))) (fun hb => j8 Jd y4 (by decide) f1) ?_
 refine GF (jg a0.jm) rfl (e_ (B (decide (¬ (a0.yd.length : Int) = (a0.jm.length : Int))))) (fun hb => jx y4 (gvp hb (e_ (gv (!(decide (¬ (a0.yd.length : Int) = (a0.jm.length : Int)))) (PV.rp ((jn a0).cells.drop 0))))) (yp a0)) ?_
 refine GF (I (a0.jm.length : Int)) rfl (e_ (B (decide (¬ (a0.yd.length : Int) = (a0.jm.length : Int))))) (fun hb => qg (rep := (arV (n := 4) (iK .u64))) (xs := a0.jm) zd (gvp hb (e_ (gv (!(decide (¬ (a0.yd.length : Int) = (a0.jm.length : Int)))) (jg a0.jm))))) ?_
 refine GF (B (decide (¬ (a0.qv.length : Int) = (a0.jm.length : Int)))) rfl (e_ (B (decide (¬ (a0.yd.length : Int) = (a0.jm.length : Int))))) (fun hb => jh rfl (gvp hb (e_ (gv (!(decide (¬ (a0.yd.length : Int) = (a0.jm.length : Int)))) (I (a0.qv.length : Int))))) (gvp hb (e_ (gv (!(decide (¬ (a0.yd.length : Int) = (a0.jm.length : Int)))) (I (a0.jm.length : Int))))) yc) ?_
 refine Q1 (B ((decide (¬ (a0.yd.length : Int) = (a0.jm.length : Int))) || (decide (¬ (a0.qv.length : Int) = (a0.jm.length : Int))))) (yf (e_ (B (decide (¬ (a0.yd.length : Int) = (a0.jm.length : Int))))) rfl (e_ (gv (!(decide (¬ (a0.yd.length : Int) = (a0.jm.length : Int)))) (B (decide (¬ (a0.qv.length : Int) = (a0.jm.length : Int))))))) ?_
 refine Q1 _ (jb (e_ (B ((decide (¬ (a0.yd.length : Int) = (a0.jm.length : Int))) || (decide (¬ (a0.qv.length : Int) = (a0.jm.length : Int))))))) ?_
 refine GF (PV.rp ((jn a0).cells.drop 3)) rfl (e_ (B ((decide (¬ (a0.yd.length : Int) = (a0.jm.length : Int))) || (decide (¬ (a0.qv.length : Int) = (a0.jm.length : Int)))))) (fun hb => j8 zbi qi (by decide) f1) ?_
 refine GF (qk a0.qp) rfl (e_ (B ((decide (¬ (a0.yd.length : Int) = (a0.jm.length : Int))) || (decide (¬ (a0.qv.length : Int) = (a0.jm.length : Int)))))) (fun hb => jx qi (gvp hb (e_ (gv (!((decide (¬ (a0.yd.length : Int) = (a0.jm.length : Int))) || (decide (¬ (a0.qv.length : Int) = (a0.jm.length : Int))))) (PV.rp ((jn a0).cells.drop 3))))) (Zy a0)) ?_
 refine GF (I (a0.qp.length : Int)) rfl (e_ (B ((decide (¬ (a0.yd.length : Int) = (a0.jm.length : Int))) || (decide (¬ (a0.qv.length : Int) = (a0.jm.length : Int)))))) (fun hb => qg (rep := slI) (xs := a0.qp) vp (gvp hb (e_ (gv (!((decide (¬ (a0.yd.length : Int) = (a0.jm.length : Int))) || (decide (¬ (a0.qv.length : Int) = (a0.jm.length : Int))))) (qk a0.qp))))) ?_
 refine GF (PV.rp ((jn a0).cells.drop 0)) rfl (e_ (B ((decide (¬ (a0.yd.length : Int) = (a0.jm.length : Int))) || (decide (¬ (a0.qv.length : Int) = (a0.jm.length : Int)))))) (fun hb => j8 Jd y4 (by decide) f1) ?_
 refine GF (jg a0.jm) rfl (e_ (B ((decide (¬ (a0.yd.length : Int) = (a0.jm.length : Int))) || (decide (¬ (a0.qv.length : Int) = (a0.jm.length : Int)))))) (fun hb => jx y4 (gvp hb (e_ (gv (!((decide (¬ (a0.yd.length : Int) = (a0.jm.length : Int))) || (decide (¬ (a0.qv.length : Int) = (a0.jm.length : Int))))) (PV.rp ((jn a0).cells.drop 0))))) (yp a0)) ?_
 refine GF (I (a0.jm.length : Int)) rfl (e_ (B ((decide (¬ (a0.yd.length : Int) = (a0.jm.length : Int))) || (decide (¬ (a0.qv.length : Int) = (a0.jm.length : Int)))))) (fun hb => qg (rep := (arV (n := 4) (iK .u64))) (xs := a0.jm) zd (gvp hb (e_ (gv (!((decide (¬ (a0.yd.length : Int) = (a0.jm.length : Int))) || (decide (¬ (a0.qv.length : Int) = (a0.jm.length : Int))))) (jg a0.jm))))) ?_
 refine GF (B (decide (¬ (a0.qp.length : Int) = (a0.jm.length : Int)))) rfl (e_ (B ((decide (¬ (a0.yd.length : Int) = (a0.jm.length : Int))) || (decide (¬ (a0.qv.length : Int) = (a0.jm.length : Int)))))) (fun hb => jh rfl (gvp hb (e_ (gv (!((decide (¬ (a0.yd.length : Int) = (a0.jm.length : Int))) || (decide (¬ (a0.qv.length : Int) = (a0.jm.length : Int))))) (I (a0.qp.length : Int))))) (gvp hb (e_ (gv (!((decide (¬ (a0.yd.length : Int) = (a0.jm.length : Int))) || (decide (¬ (a0.qv.length : Int) = (a0.jm.length : Int))))) (I (a0.jm.length : Int))))) yc) ?_
 refine Q1 (B (((decide (¬ (a0.yd.length : Int) = (a0.jm.length : Int))) || (decide (¬ (a0.qv.length : Int) = (a0.jm.length : Int)))) || (decide (¬ (a0.qp.length : Int) = (a0.jm.length : Int))))) (yf (e_ (B ((decide (¬ (a0.yd.length : Int) = (a0.jm.length : Int))) || (decide (¬ (a0.qv.length : Int) = (a0.jm.length : Int)))))) rfl (e_ (gv (!((decide (¬ (a0.yd.length : Int) = (a0.jm.length : Int))) || (decide (¬ (a0.qv.length : Int) = (a0.jm.length : Int))))) (B (decide (¬ (a0.qp.length : Int) = (a0.jm.length : Int))))))) ?_
 refine Q1 _ (jb (e_ (B (((decide (¬ (a0.yd.length : Int) = (a0.jm.length : Int))) || (decide (¬ (a0.qv.length : Int) = (a0.jm.length : Int)))) || (decide (¬ (a0.qp.length : Int) = (a0.jm.length : Int))))))) ?_
 refine GF (jn a0) rfl (e_ (B (((decide (¬ (a0.yd.length : Int) = (a0.jm.length : Int))) || (decide (¬ (a0.qv.length : Int) = (a0.jm.length : Int)))) || (decide (¬ (a0.qp.length : Int) = (a0.jm.length : Int)))))) (fun hb => vw Qv f1 (yb _)) ?_
 refine GF (PV.rp ((jn a0).cells.drop 4)) rfl (e_ (B (((decide (¬ (a0.yd.length : Int) = (a0.jm.length : Int))) || (decide (¬ (a0.qv.length : Int) = (a0.jm.length : Int)))) || (decide (¬ (a0.qp.length : Int) = (a0.jm.length : Int)))))) (fun hb => j8 zd5 qh (by decide) f1) ?_
 refine GF (slI a0.Qc) rfl (e_ (B (((decide (¬ (a0.yd.length : Int) = (a0.jm.length : Int))) || (decide (¬ (a0.qv.length : Int) = (a0.jm.length : Int)))) || (decide (¬ (a0.qp.length : Int) = (a0.jm.length : Int)))))) (fun hb => jx qh (gvp hb (e_ (gv (!(((decide (¬ (a0.yd.length : Int) = (a0.jm.length : Int))) || (decide (¬ (a0.qv.length : Int) = (a0.jm.length : Int)))) || (decide (¬ (a0.qp.length : Int) = (a0.jm.length : Int))))) (PV.rp ((jn a0).cells.drop 4))))) (zc2 a0)) ?_
 obtain ⟨x4, hx4, h0⟩ := bs h0
 refine GFq (B x4) rfl (e_ (B (((decide (¬ (a0.yd.length : Int) = (a0.jm.length : Int))) || (decide (¬ (a0.qv.length : Int) = (a0.jm.length : Int)))) || (decide (¬ (a0.qp.length : Int) = (a0.jm.length : Int)))))) (fun hb => j0 (by kernel_rfl) (am (gvp hb (e_ (gv (!(((decide (¬ (a0.yd.length : Int) = (a0.jm.length : Int))) || (decide (¬ (a0.qv.length : Int) = (a0.jm.length : Int)))) || (decide (¬ (a0.qp.length : Int) = (a0.jm.length : Int))))) (jn a0)))) (am (gvp hb (e_ (gv (!(((decide (¬ (a0.yd.length : Int) = (a0.jm.length : Int))) || (decide (¬ (a0.qv.length : Int) = (a0.jm.length : Int)))) || (decide (¬ (a0.qp.length : Int) = (a0.jm.length : Int))))) (slI a0.Qc)))) (am0))) (js (yl _) (js (ye _) (j2))) (za3 (G.cond_pos hx4 hb))) ?_
 refine GF (B (!x4)) rfl (e_ (B (((decide (¬ (a0.yd.length : Int) = (a0.jm.length : Int))) || (decide (¬ (a0.qv.length : Int) = (a0.jm.length : Int)))) || (decide (¬ (a0.qp.length : Int) = (a0.jm.length : Int)))))) (fun hb => yn (gvp hb (e_ (gv (!(((decide (¬ (a0.yd.length : Int) = (a0.jm.length : Int))) || (decide (¬ (a0.qv.length : Int) = (a0.jm.length : Int)))) || (decide (¬ (a0.qp.length : Int) = (a0.jm.length : Int))))) (B x4))))) ?_
 refine Q1 (B ((((decide (¬ (a0.yd.length : Int) = (a0.jm.length : Int))) || (decide (¬ (a0.qv.length : Int) = (a0.jm.length : Int)))) || (decide (¬ (a0.qp.length : Int) = (a0.jm.length : Int)))) || (!x4))) (yf (e_ (B (((decide (¬ (a0.yd.length : Int) = (a0.jm.length : Int))) || (decide (¬ (a0.qv.length : Int) = (a0.jm.length : Int)))) || (decide (¬ (a0.qp.length : Int) = (a0.jm.length : Int)))))) rfl (e_ (gv (!(((decide (¬ (a0.yd.length : Int) = (a0.jm.length : Int))) || (decide (¬ (a0.qv.length : Int) = (a0.jm.length : Int)))) || (decide (¬ (a0.qp.length : Int) = (a0.jm.length : Int))))) (B (!x4))))) ?_
 refine PL.nil (hK3 _ _ ?_)
 refine A2 1 f1 35 (e_ (B ((((decide (¬ (a0.yd.length : Int) = (a0.jm.length : Int))) || (decide (¬ (a0.qv.length : Int) = (a0.jm.length : Int)))) || (decide (¬ (a0.qp.length : Int) = (a0.jm.length : Int)))) || (!x4)))) fun F f1 f35 => ?_
 rcases cz h0 with ⟨hb5, h0⟩ | ⟨hb5, h0⟩
 refine PC.condTb f35 hb5 ?_
 refine SR fun K6 hK6 => ?_
 refine Q1 _ (jf (e_ (B false))) ?_
 refine PL.nil (hK6 _ _ ?_)
 refine A1 2 (e_ (B false)) fun F f2 => ?_
 refine PC.ret ?_
 have h0 := pz h0
 subst h0
 exact fin (.inr rfl) (j9 Try.results34 f2) (.u _)
 refine PC.condFb f35 hb5 ?_
 refine PC.skip ?_
 refine hK2 _ _ ?_
 refine A1 1 f1 fun F f1 => ?_
 refine PC.seq fun K7 hK7 => ?_
 refine SR fun K8 hK8 => ?_
 refine Q1 _ (jf (e_ (I 0))) ?_
 refine PL.nil (hK8 _ _ ?_)
 refine A2 1 f1 3 (e_ (I 0)) fun F f1 f3 => ?_
 refine PC.block ?_
 obtain ⟨o11, ho11, h0⟩ := bs h0
 obtain ⟨B12, hB12, ho11⟩ := G.loop_some ho11
 refine PC.loop (fun m15 F H => ∃ s29 : Int, qw B12 m15 s29 = some o11 ∧ F 1 = (PV.rp (jn a0).cells) ∧ F 3 = (I s29)) (m := nn) ⟨0, ho11, f1, f3⟩ fun m15 F H hI => ?_
 obtain ⟨x10, ho11, f1, f3⟩ := hI
 obtain ⟨m15, rfl, st13, hs14, ho11⟩ := jw ho11
 rw [hB12] at hs14
 try dsimp only at hs14
 refine PC.seq fun K16 hK16 => ?_
 refine SR fun K17 hK17 => ?_
 refine Q1 _ (jb f3) ?_
 refine Q1 (PV.rp ((jn a0).cells.drop 0)) (j8 Jd y4 (by decide) f1) ?_
 refine Q1 (jg a0.jm) (jx y4 (e_ (PV.rp ((jn a0).cells.drop 0))) (yp a0)) ?_
 refine Q1 (I (a0.jm.length : Int)) (qg (rep := (arV (n := 4) (iK .u64))) (xs := a0.jm) zd (e_ (jg a0.jm))) ?_
 refine Q1 _ (jh rfl (e_ (I x10)) (e_ (I (a0.jm.length : Int))) jv) ?_
 refine PL.nil (hK17 _ _ ?_)
 refine A3 1 f1 3 f3 40 (e_ (B (decide (x10 < (a0.jm.length : Int))))) fun F f1 f3 f40 => ?_
 rcases cz hs14 with ⟨hb18, hs14⟩ | ⟨hb18, hs14⟩
 refine PC.condTb f40 hb18 ?_
 refine PC.skip ?_
 refine hK16 _ _ ?_
 refine A2 1 f1 3 f3 fun F f1 f3 => ?_
 refine PC.seq fun K19 hK19 => ?_
 refine PC.block ?_
 refine PC.seq fun K20 hK20 => ?_
 refine PC.regionQ mixed (by kernel_rfl) ?_
 refine Q2 (PV.rp ((jn a0).cells.drop 1)) (j8 zac qh (by decide) f1) ?_
 refine Q2 (slI a0.yd) (jx qh (e_ (PV.rp ((jn a0).cells.drop 1))) (V3 a0)) ?_
 refine Q2 _ (jb f3) ?_
 obtain ⟨x21, hx21, hs14⟩ := bs hs14
 refine Q2 (PV.rp (I x21).cells) (j1 (rep := I) (xs := a0.yd) vk (e_ (slI a0.yd)) (e_ (I x10)) hx21) ?_
 refine Q2 (I x21) (qr qz (e_ (PV.rp (I x21).cells))) ?_
 refine Q2 _ (jh rfl (e_ (I x21)) (e_ (I 0)) jv) ?_
 refine Q2 _ (jb (e_ (B (decide (x21 < 0))))) ?_
 refine HF_ (jn a0) rfl (e_ (B (decide (x21 < 0)))) (fun hb => vw Qv f1 (yb _)) ?_
 refine HF_ (PV.rp ((jn a0).cells.drop 3)) rfl (e_ (B (decide (x21 < 0)))) (fun hb => j8 zbi qi (by decide) f1) ?_
 refine HF_ (qk a0.qp) rfl (e_ (B (decide (x21 < 0)))) (fun hb => jx qi (gvp hb (e_ (gv (!(decide (x21 < 0))) (PV.rp ((jn a0).cells.drop 3))))) (Zy a0)) ?_
 refine HF_ (I x10) rfl (e_ (B (decide (x21 < 0)))) (fun hb => jb f3) ?_
 obtain ⟨x22, hx22, hs14⟩ := bs hs14
 refine HF_ (PV.rp (slI x22).cells) rfl (e_ (B (decide (x21 < 0)))) (fun hb => j1 (rep := slI) (xs := a0.qp) Jz (gvp hb (e_ (gv (!(decide (x21 < 0))) (qk a0.qp)))) (gvp hb (e_ (gv (!(decide (x21 < 0))) (I x10)))) (G.cond_pos hx22 hb)) ?_
 refine HF_ (slI x22) rfl (e_ (B (decide (x21 < 0)))) (fun hb => qr qh (gvp hb (e_ (gv (!(decide (x21 < 0))) (PV.rp (slI x22).cells))))) ?_
 obtain ⟨x23, hx23, hs14⟩ := bs hs14
 refine HFq (B x23) rfl (e_ (B (decide (x21 < 0)))) (fun hb => j0 (by kernel_rfl) (am (gvp hb (e_ (gv (!(decide (x21 < 0))) (jn a0)))) (am (gvp hb (e_ (gv (!(decide (x21 < 0))) (slI x22)))) (am0))) (js (yl _) (js (ye _) (j2))) (za3 (G.cond_pos hx23 hb))) ?_
 refine HF_ (B (!x23)) rfl (e_ (B (decide (x21 < 0)))) (fun hb => yn (gvp hb (e_ (gv (!(decide (x21 < 0))) (B x23))))) ?_
 refine Q2 (B ((decide (x21 < 0)) || (!x23))) (yf (e_ (B (decide (x21 < 0)))) rfl (e_ (gv (!(decide (x21 < 0))) (B (!x23))))) ?_
 refine QF.nil ?_
 refine hK20 _ _ ?_
 refine A3 1 f1 3 f3 58 (e_ (B ((decide (x21 < 0)) || (!x23)))) fun F f1 f3 f58 => ?_
 rcases cz hs14 with ⟨hb24, hs14⟩ | ⟨hb24, hs14⟩
 refine PC.condTb f58 hb24 ?_
 refine SR fun K25 hK25 => ?_
 refine Q1 _ (jf (e_ (B false))) ?_
 refine PL.nil (hK25 _ _ ?_)
 refine A1 2 (e_ (B false)) fun F f2 => ?_
 have hs14 := pz hs14
 subst hs14
 try dsimp only at ho11
 subst ho11
 try dsimp only at h0
 refine PC.ret ?_
 have h0 := pz h0
 subst h0
 exact fin (.inr rfl) (j9 Try.results34 f2) (.u _)
 refine PC.condFb f58 hb24 ?_
 refine PC.skip ?_
 refine hK19 _ _ ?_
 refine A2 1 f1 3 f3 fun F f1 f3 => ?_
 refine PC.region ?_
 refine Q1 _ (jb f3) ?_
 refine Q1 _ (jh rfl (e_ (I x10)) (e_ (I 1)) j3) ?_
 refine Q1 _ (jf (e_ (I (w64 (x10 + 1))))) ?_
 refine PL.nil ?_
 have hs14 := pz hs14
 subst hs14
 exact ⟨m15, Nat.lt_succ_self _, (w64 (x10 + 1)), ho11, f1, (e_ (I (w64 (x10 + 1))))⟩
 refine PC.condFb f40 hb18 ?_
 refine PC.exit ?_
 have hs14 := pz hs14
 subst hs14
 try dsimp only at ho11
 subst ho11
 try dsimp only at h0
 refine hK7 _ _ ?_
 refine PC.absF (fun F => True) trivial ?_
 intro F hI
 clear hI
 refine SR fun K26 hK26 => ?_
 refine Q1 _ (jf (e_ (B true))) ?_
 refine PL.nil (hK26 _ _ ?_)
 refine A1 2 (e_ (B true)) fun F f2 => ?_
 refine PC.ret ?_
 have h0 := pz h0
 subst h0
 exact fin (.inr rfl) (j9 Try.results34 f2) (.u _)
def Zt (a0 : (List (Arr 4 Int))) (a1 : Int) (a2 : Int) : G Bool :=
  G.bind (G.loop (σ := Int) (α := Unit ⊕ Bool) (fun x5 => G.cond (decide (x5 < (a0.length : Int))) (G.bind (G.lift (idx a0 x5)) fun x16 => G.bind (J5 x16 (IntKind.u8.wrap a1)) fun x17 => G.bind (G.lift (idx a0 x5)) fun x18 => G.bind (J5 x18 (IntKind.u8.wrap a2)) fun x19 => G.cond (x17 != x19) (G.pure (.inr (.inr false))) (G.pure (.inl (w64 (x5 + 1))))) (G.pure (.inr (.inl ())))) 0) fun o => match o with | .inl () => G.pure true | .inr r24 => G.pure r24
theorem zfr {nn : Nat} {a0 : (List (Arr 4 Int))} {a1 : Int} {a2 : Int} {r : Bool} (h0 : Zt a0 a1 a2 nn = some r) : PCall Try.prog 53 [jg a0, I a1, I a2] (· = B r) := by
 unfold Zt at h0
 refine PCall.intro' Try.func53 rfl Try.ntmps53 (by simp) fun W => ?_
 refine A3 0 (e_ (jg a0)) 1 (e_ (I a1)) 2 (e_ (I a2)) fun F f0 f1 f2 => ?_
 generalize PHeap.empty = H
 refine SR fun K1 hK1 => ?_
 refine Q1 _ (jf (e_ (B false))) ?_
 refine PL.nil (hK1 _ _ ?_)
 refine A3 0 f0 1 f1 2 f2 fun F f0 f1 f2 => ?_
 refine PC.seq fun K2 hK2 => ?_
 refine SR fun K3 hK3 => ?_
 refine Q1 _ (jf (e_ (I 0))) ?_
 refine PL.nil (hK3 _ _ ?_)
 refine A4 0 f0 1 f1 2 f2 7 (e_ (I 0)) fun F f0 f1 f2 f7 => ?_
 refine PC.block ?_
 obtain ⟨o6, ho6, h0⟩ := bs h0
 obtain ⟨B7, hB7, ho6⟩ := G.loop_some ho6
 refine PC.loop (fun m10 F H => ∃ s25 : Int, qw B7 m10 s25 = some o6 ∧ F 0 = (jg a0) ∧ F 1 = (I a1) ∧ F 2 = (I a2) ∧ F 7 = (I s25)) (m := nn) ⟨0, ho6, f0, f1, f2, f7⟩ fun m10 F H hI => ?_
 obtain ⟨x5, ho6, f0, f1, f2, f7⟩ := hI
 obtain ⟨m10, rfl, st8, hs9, ho6⟩ := jw ho6
 rw [hB7] at hs9
 try dsimp only at hs9
 refine PC.seq fun K11 hK11 => ?_
 refine SR fun K12 hK12 => ?_
 refine Q1 _ (jb f7) ?_
 refine Q1 _ (jb f0) ?_
 refine Q1 (I (a0.length : Int)) (qg (rep := (arV (n := 4) (iK .u64))) (xs := a0) zd (e_ (jg a0))) ?_
 refine Q1 _ (jh rfl (e_ (I x5)) (e_ (I (a0.length : Int))) jv) ?_
 refine PL.nil (hK12 _ _ ?_)
 refine A5 0 f0 1 f1 2 f2 7 f7 11 (e_ (B (decide (x5 < (a0.length : Int))))) fun F f0 f1 f2 f7 f11 => ?_
 rcases cz hs9 with ⟨hb13, hs9⟩ | ⟨hb13, hs9⟩
 refine PC.condTb f11 hb13 ?_
 refine PC.skip ?_
 refine hK11 _ _ ?_
 refine A4 0 f0 1 f1 2 f2 7 f7 fun F f0 f1 f2 f7 => ?_
 refine PC.seq fun K14 hK14 => ?_
 refine PC.block ?_
 refine PC.seq fun K15 hK15 => ?_
 refine PC.regionQ mixed (by kernel_rfl) ?_
 refine Q2 _ (jb f0) ?_
 refine Q2 _ (jb f7) ?_
 obtain ⟨x16, hx16, hs9⟩ := bs hs9
 refine Q2 (PV.rp ((arV (n := 4) (iK .u64)) x16).cells) (j1 (rep := (arV (n := 4) (iK .u64))) (xs := a0) zi0 (e_ (jg a0)) (e_ (I x5)) hx16) ?_
 refine Q2 ((arV (n := 4) (iK .u64)) x16) (vw qy (e_ (PV.rp ((arV (n := 4) (iK .u64)) x16).cells)) (jj _ _ (fun _ => rfl))) ?_
 refine Q2 _ (jb f1) ?_
 refine Q2 (U8 (IntKind.u8.wrap a1)) (Ja (by kernel_rfl) (by kernel_rfl) (e_ (I a1))) ?_
 obtain ⟨x17, hx17, hs9⟩ := bs hs9
 refine Q4 (B x17) (j0 (by kernel_rfl) (am (e_ ((arV (n := 4) (iK .u64)) x16)) (am (e_ (U8 (IntKind.u8.wrap a1))) (am0))) (js (vc _ (fun _ => (.u _))) (js (.u _) (j2))) (Qm hx17)) ?_
 refine Q2 _ (jb f0) ?_
 refine Q2 _ (jb f7) ?_
 obtain ⟨x18, hx18, hs9⟩ := bs hs9
 refine Q2 (PV.rp ((arV (n := 4) (iK .u64)) x18).cells) (j1 (rep := (arV (n := 4) (iK .u64))) (xs := a0) zi0 (e_ (jg a0)) (e_ (I x5)) hx18) ?_
 refine Q2 ((arV (n := 4) (iK .u64)) x18) (vw qy (e_ (PV.rp ((arV (n := 4) (iK .u64)) x18).cells)) (jj _ _ (fun _ => rfl))) ?_
 refine Q2 _ (jb f2) ?_
 refine Q2 (U8 (IntKind.u8.wrap a2)) (Ja (by kernel_rfl) (by kernel_rfl) (e_ (I a2))) ?_
 obtain ⟨x19, hx19, hs9⟩ := bs hs9
 refine Q4 (B x19) (j0 (by kernel_rfl) (am (e_ ((arV (n := 4) (iK .u64)) x18)) (am (e_ (U8 (IntKind.u8.wrap a2))) (am0))) (js (vc _ (fun _ => (.u _))) (js (.u _) (j2))) (Qm hx19)) ?_
 refine Q2 _ (jh rfl (e_ (B x17)) (e_ (B x19)) (b_neB _ _ (by kernel_rfl))) ?_
 refine QF.nil ?_
 refine hK15 _ _ ?_
 refine A5 0 f0 1 f1 2 f2 7 f7 28 (e_ (B (x17 != x19))) fun F f0 f1 f2 f7 f28 => ?_
 rcases cz hs9 with ⟨hb20, hs9⟩ | ⟨hb20, hs9⟩
 refine PC.condTb f28 hb20 ?_
 refine SR fun K21 hK21 => ?_
 refine Q1 _ (jf (e_ (B false))) ?_
 refine PL.nil (hK21 _ _ ?_)
 refine A1 6 (e_ (B false)) fun F f6 => ?_
 have hs9 := pz hs9
 subst hs9
 try dsimp only at ho6
 subst ho6
 try dsimp only at h0
 refine PC.ret ?_
 have h0 := pz h0
 subst h0
 exact fin (.inr rfl) (j9 Try.results53 f6) (.u _)
 refine PC.condFb f28 hb20 ?_
 refine PC.skip ?_
 refine hK14 _ _ ?_
 refine A4 0 f0 1 f1 2 f2 7 f7 fun F f0 f1 f2 f7 => ?_
 refine PC.region ?_
 refine Q1 _ (jb f7) ?_
 refine Q1 _ (jh rfl (e_ (I x5)) (e_ (I 1)) j3) ?_
 refine Q1 _ (jf (e_ (I (w64 (x5 + 1))))) ?_
 refine PL.nil ?_
 have hs9 := pz hs9
 subst hs9
 exact ⟨m10, Nat.lt_succ_self _, (w64 (x5 + 1)), ho6, f0, f1, f2, (e_ (I (w64 (x5 + 1))))⟩
 refine PC.condFb f11 hb13 ?_
 refine PC.exit ?_
 have hs9 := pz hs9
 subst hs9
 try dsimp only at ho6
 subst ho6
 try dsimp only at h0
 refine hK2 _ _ ?_
 refine PC.absF (fun F => True) trivial ?_
 intro F hI
 clear hI
 refine SR fun K22 hK22 => ?_
 refine Q1 _ (jf (e_ (B true))) ?_
 refine PL.nil (hK22 _ _ ?_)
 refine A1 6 (e_ (B true)) fun F f6 => ?_
 refine PC.ret ?_
 have h0 := pz h0
 subst h0
 exact fin (.inr rfl) (j9 Try.results53 f6) (.u _)
def zdc (a0 : (List (Arr 4 Int))) : G ((Arr 256 Int) × Int) :=
  G.bind (G.loop (σ := (Int × Int × (Arr 256 Int))) (α := (Int × (Arr 256 Int))) (fun (x13, x14, x15) => G.cond (decide (x14 < 256)) (G.bind (α := (Int × (Arr 256 Int))) (G.bind (G.loop (σ := Int) (α := Int) (fun x33 => G.bind (Zt a0 x33 x14) fun x41 => G.cond (!x41) (G.pure (.inl (w64 (x33 + 1)))) (G.pure (.inr x33))) 0) fun x53 => G.cond (decide (x53 < x14)) (G.bind (G.lift (idx x15.1 x53)) fun x58 => G.bind (G.lift (idx x15.1 x14)) fun x59 => G.pure (x13, (arS x15 x14 x58))) (G.bind (G.lift (idx x15.1 x14)) fun x62 => G.pure ((w64 (x13 + 1)), (arS x15 x14 (IntKind.u8.wrap x13))))) fun (x26, x27) => G.pure (.inl (x26, (w64 (x14 + 1)), x27))) (G.pure (.inr (x13, x15)))) (0, 0, (arZ 256 0))) fun (x68, x69) => G.pure (x69, x68)
theorem ziv {nn : Nat} {a0 : (List (Arr 4 Int))} {r : ((Arr 256 Int) × Int)} (h0 : zdc a0 nn = some r) : PCall Try.prog 35 [jg a0] (· = PV.tup [(arV (n := 256) U8) r.1, I r.2]) := by
 unfold zdc at h0
 refine PCall.intro' Try.func35 rfl Try.ntmps35 (by simp) fun W => ?_
 refine A1 0 (e_ (jg a0)) fun F f0 => ?_
 generalize PHeap.empty = H
 refine SR fun K1 hK1 => ?_
 refine PL.allocA 202 (cs := ((arV (n := 256) U8) (arZ 256 0)).cells) rfl rfl rfl (by decide) zf7 (by kernel_rfl) (by kernel_rfl) fun v202 H b202 fz2 => ?_
 refine Q1 _ (jf (e_ (I 0))) ?_
 refine PL.nil (hK1 _ _ ?_)
 refine A2 0 f0 2 (e_ (PV.pp 202 0 v202)) fun F f0 f2 => ?_
 refine SR fun K3 hK3 => ?_
 refine Q1 ((arV (n := 256) U8) (arZ 256 0)) (Jg (bm0) (by kernel_rfl)) ?_
 refine PL.allocA 204 (cs := ((arV (n := 256) U8) (arZ 256 0)).cells) rfl rfl rfl (by decide) zf7 (by kernel_rfl) (by kernel_rfl) fun v204 H b204 fz4 => ?_
 have b202 := (fz4 202 (by decide)).trans b202
 refine PL.storeA (ag := true) (cs' := ((arV (n := 256) U8) (arZ 256 0)).cells) (ps := ((arV (n := 256) U8) (arZ 256 0)).cells) rfl rfl (fun _ h => by cases h) (e_ (PV.pp 204 0 v204)) b204 y5 (e_ ((arV (n := 256) U8) (arZ 256 0))) (v8 _ _ _ (fun _ => rfl)) rfl (jj _ _ (fun _ => rfl)) (by rw [(jj _ _ (fun _ => rfl))]; exact Nat.le_of_ble_eq_true rfl) (vz (N := 256) (jj _ _ (fun _ => rfl)) (jj _ _ (fun _ => rfl))) fun H b204 fz5 => ?_
 have b202 := (fz5 202 (by decide)).trans b202
 refine PL.nil (hK3 _ _ ?_)
 refine A3 0 f0 2 f2 4 (e_ (PV.pp 204 0 v204)) fun F f0 f2 f4 => ?_
 refine SR fun K6 hK6 => ?_
 refine Q1 _ (jf (e_ (I 0))) ?_
 refine PL.nil (hK6 _ _ ?_)
 refine A4 0 f0 2 f2 4 f4 5 (e_ (I 0)) fun F f0 f2 f4 f5 => ?_
 refine PC.seq fun K7 hK7 => ?_
 refine SR fun K8 hK8 => ?_
 refine Q1 _ (jf (e_ (I 0))) ?_
 refine PL.nil (hK8 _ _ ?_)
 refine A5 0 f0 2 f2 4 f4 5 f5 6 (e_ (I 0)) fun F f0 f2 f4 f5 f6 => ?_
 refine PC.block ?_
 obtain ⟨o16, ho16, h0⟩ := bs h0
 obtain ⟨B17, hB17, ho16⟩ := G.loop_some ho16
 refine PC.loop (fun m20 F H => ∃ s72 : (Int × Int × (Arr 256 Int)), qw B17 m20 s72 = some o16 ∧ F 0 = (jg a0) ∧ F 2 = (PV.pp 202 0 v202) ∧ F 4 = (PV.pp 204 0 v204) ∧ F 5 = (I s72.1) ∧ F 6 = (I s72.2.1) ∧ H 202 = ⟨v202, some (.box 22 ((arV (n := 256) U8) (arZ 256 0)).cells)⟩ ∧ H 204 = ⟨v204, some (.box 22 ((arV (n := 256) U8) s72.2.2).cells)⟩) (m := nn) ⟨(0, 0, (arZ 256 0)), ho16, f0, f2, f4, f5, f6, b202, b204⟩ fun m20 F H hI => ?_
 obtain ⟨⟨x13, x14, x15⟩, ho16, f0, f2, f4, f5, f6, b202, b204⟩ := hI
 obtain ⟨m20, rfl, st18, hs19, ho16⟩ := jw ho16
 rw [hB17] at hs19
 try dsimp only at hs19
 refine PC.seq fun K21 hK21 => ?_
 refine SR fun K22 hK22 => ?_
 refine Q1 _ (jb f6) ?_
 refine Q1 _ (jh rfl (e_ (I x14)) (e_ (I 256)) jv) ?_
 refine PL.nil (hK22 _ _ ?_)
 refine A6 0 f0 2 f2 4 f4 5 f5 6 f6 10 (e_ (B (decide (x14 < 256)))) fun F f0 f2 f4 f5 f6 f10 => ?_
 rcases cz hs19 with ⟨hb23, hs19⟩ | ⟨hb23, hs19⟩
 refine PC.condTb f10 hb23 ?_
 refine PC.skip ?_
 refine hK21 _ _ ?_
 refine A5 0 f0 2 f2 4 f4 5 f5 6 f6 fun F f0 f2 f4 f5 f6 => ?_
 obtain ⟨o25, ho25, hs19⟩ := bs hs19
 refine PC.seqM (fun F H => ∃ s65 : (Int × (Arr 256 Int)), o25 = s65 ∧ F 0 = (jg a0) ∧ F 2 = (PV.pp 202 0 v202) ∧ F 4 = (PV.pp 204 0 v204) ∧ F 5 = (I s65.1) ∧ F 6 = (I x14) ∧ H 202 = ⟨v202, some (.box 22 ((arV (n := 256) U8) (arZ 256 0)).cells)⟩ ∧ H 204 = ⟨v204, some (.box 22 ((arV (n := 256) U8) s65.2).cells)⟩) ?_ ?_
 refine PC.block ?_
 refine SR fun K28 hK28 => ?_
 refine Q1 _ (jf (e_ (I 0))) ?_
 refine PL.nil (hK28 _ _ ?_)
 refine A6 0 f0 2 f2 4 f4 5 f5 6 f6 7 (e_ (I 0)) fun F f0 f2 f4 f5 f6 f7 => ?_
 refine PC.seq fun K29 hK29 => ?_
 refine PC.block ?_
 obtain ⟨o34, ho34, ho25⟩ := bs ho25
 obtain ⟨B35, hB35, ho34⟩ := G.loop_some ho34
 refine PC.loop (fun m38 F H => ∃ s64 : Int, qw B35 m38 s64 = some o34 ∧ F 0 = (jg a0) ∧ F 2 = (PV.pp 202 0 v202) ∧ F 4 = (PV.pp 204 0 v204) ∧ F 5 = (I x13) ∧ F 6 = (I x14) ∧ F 7 = (I s64) ∧ H 202 = ⟨v202, some (.box 22 ((arV (n := 256) U8) (arZ 256 0)).cells)⟩ ∧ H 204 = ⟨v204, some (.box 22 ((arV (n := 256) U8) x15).cells)⟩) (m := nn) ⟨0, ho34, f0, f2, f4, f5, f6, f7, b202, b204⟩ fun m38 F H hI => ?_
 obtain ⟨x33, ho34, f0, f2, f4, f5, f6, f7, b202, b204⟩ := hI
 obtain ⟨m38, rfl, st36, hs37, ho34⟩ := jw ho34
 rw [hB35] at hs37
 try dsimp only at hs37
 refine PC.seq fun K39 hK39 => ?_
 refine SR fun K40 hK40 => ?_
 refine Q1 _ (jb f0) ?_
 refine Q1 _ (jb f7) ?_
 refine Q1 _ (jb f6) ?_
 obtain ⟨x41, hx41, hs37⟩ := bs hs37
 refine Q3 (B x41) (j0 (by kernel_rfl) (am (e_ (jg a0)) (am (e_ (I x33)) (am (e_ (I x14)) (am0)))) (js (vq _) (js (.u _) (js (.u _) (j2)))) (zfr hx41)) ?_
 refine Q1 (B (!x41)) (yn (e_ (B x41))) ?_
 refine PL.nil (hK40 _ _ ?_)
 refine A7 0 f0 2 f2 4 f4 5 f5 6 f6 7 f7 17 (e_ (B (!x41))) fun F f0 f2 f4 f5 f6 f7 f17 => ?_
 rcases cz hs37 with ⟨hb42, hs37⟩ | ⟨hb42, hs37⟩
 refine PC.condTb f17 hb42 ?_
 refine PC.skip ?_
 refine hK39 _ _ ?_
 refine A6 0 f0 2 f2 4 f4 5 f5 6 f6 7 f7 fun F f0 f2 f4 f5 f6 f7 => ?_
 refine PC.block ?_
 refine PC.region ?_
 refine Q1 _ (jb f7) ?_
 refine Q1 _ (jh rfl (e_ (I x33)) (e_ (I 1)) j3) ?_
 refine Q1 _ (jf (e_ (I (w64 (x33 + 1))))) ?_
 refine PL.nil ?_
 have hs37 := pz hs37
 subst hs37
 exact ⟨m38, Nat.lt_succ_self _, (w64 (x33 + 1)), ho34, f0, f2, f4, f5, f6, (e_ (I (w64 (x33 + 1)))), b202, b204⟩
 refine PC.condFb f17 hb42 ?_
 refine PC.exit ?_
 have hs37 := pz hs37
 subst hs37
 try dsimp only at ho34
 subst ho34
 try dsimp only at ho25
 refine hK29 _ _ ?_
 refine A6 0 f0 2 f2 4 f4 5 f5 6 f6 7 f7 fun F f0 f2 f4 f5 f6 f7 => ?_
 refine PC.seq fun K43 hK43 => ?_
 refine SR fun K44 hK44 => ?_
 refine Q1 _ (jb f7) ?_
 refine Q1 _ (jb f6) ?_
 refine Q1 _ (jh rfl (e_ (I x33)) (e_ (I x14)) jv) ?_
 refine PL.nil (hK44 _ _ ?_)
 refine A7 0 f0 2 f2 4 f4 5 f5 6 f6 7 f7 22 (e_ (B (decide (x33 < x14)))) fun F f0 f2 f4 f5 f6 f7 f22 => ?_
 rcases cz ho25 with ⟨hb45, ho25⟩ | ⟨hb45, ho25⟩
 refine PC.condTb f22 hb45 ?_
 refine SR fun K46 hK46 => ?_
 refine Q1 _ (jb f6) ?_
 refine Q1 _ (jb f7) ?_
 obtain ⟨x47, hx47, ho25⟩ := bs ho25
 refine Q1 (PV.pp 204 ((x33 : Int).toNat * 1) v204) (zao (rep := U8) (a := x15) Yf f4 b204 (e_ (I x33)) hx47) ?_
 refine Q1 (U8 x47) (vm Zm (e_ (PV.pp 204 ((x33 : Int).toNat * 1) v204)) b204 (zjf hx47)) ?_
 obtain ⟨x48, hx48, ho25⟩ := bs ho25
 refine Q1 (PV.pp 204 ((x14 : Int).toNat * 1) v204) (zao (rep := U8) (a := x15) Yf f4 b204 (e_ (I x14)) hx48) ?_
 refine PL.stB (rep := U8) (u' := x47) rfl rfl (fun _ h => by cases h) (e_ (PV.pp 204 ((x14 : Int).toNat * 1) v204)) b204 Zm hx48 (e_ (U8 x47)) (fun _ => rfl) rfl fun H b204 fz49 => ?_
 have b202 := (fz49 202 (by decide)).trans b202
 refine PL.nil (hK46 _ _ ?_)
 refine A5 0 f0 2 f2 4 f4 5 f5 6 f6 fun F f0 f2 f4 f5 f6 => ?_
 refine PC.exit ?_
 have ho25 := pz ho25
 subst ho25
 exact ⟨(x13, (arS x15 x14 x47)), rfl, f0, f2, f4, f5, f6, b202, b204⟩
 refine PC.condFb f22 hb45 ?_
 refine PC.skip ?_
 refine hK43 _ _ ?_
 refine A5 0 f0 2 f2 4 f4 5 f5 6 f6 fun F f0 f2 f4 f5 f6 => ?_
 refine SR fun K50 hK50 => ?_
 refine Q1 _ (jb f6) ?_
 refine Q1 _ (jb f5) ?_
 refine Q1 (U8 (IntKind.u8.wrap x13)) (Ja (by kernel_rfl) (by kernel_rfl) (e_ (I x13))) ?_
 obtain ⟨x51, hx51, ho25⟩ := bs ho25
 refine Q1 (PV.pp 204 ((x14 : Int).toNat * 1) v204) (zao (rep := U8) (a := x15) Yf f4 b204 (e_ (I x14)) hx51) ?_
 refine PL.stB (rep := U8) (u' := (IntKind.u8.wrap x13)) rfl rfl (fun _ h => by cases h) (e_ (PV.pp 204 ((x14 : Int).toNat * 1) v204)) b204 Zm hx51 (e_ (U8 (IntKind.u8.wrap x13))) (fun _ => rfl) rfl fun H b204 fz52 => ?_
 have b202 := (fz52 202 (by decide)).trans b202
 refine PL.nil (hK50 _ _ ?_)
 refine A5 0 f0 2 f2 4 f4 5 f5 6 f6 fun F f0 f2 f4 f5 f6 => ?_
 refine PC.region ?_
 refine Q1 _ (jb f5) ?_
 refine Q1 _ (jh rfl (e_ (I x13)) (e_ (I 1)) j3) ?_
 refine Q1 _ (jf (e_ (I (w64 (x13 + 1))))) ?_
 refine PL.nil ?_
 have ho25 := pz ho25
 subst ho25
 exact ⟨((w64 (x13 + 1)), (arS x15 x14 (IntKind.u8.wrap x13))), rfl, f0, f2, f4, (e_ (I (w64 (x13 + 1)))), f6, b202, b204⟩
 intro F H hI
 obtain ⟨⟨x26, x27⟩, ho, f0, f2, f4, f5, f6, b202, b204⟩ := hI
 have ho := ho.symm
 subst ho
 try dsimp only at hs19
 refine PC.region ?_
 refine Q1 _ (jb f6) ?_
 refine Q1 _ (jh rfl (e_ (I x14)) (e_ (I 1)) j3) ?_
 refine Q1 _ (jf (e_ (I (w64 (x14 + 1))))) ?_
 refine PL.nil ?_
 have hs19 := pz hs19
 subst hs19
 exact ⟨m20, Nat.lt_succ_self _, (x26, (w64 (x14 + 1)), x27), ho16, f0, f2, f4, f5, (e_ (I (w64 (x14 + 1)))), b202, b204⟩
 refine PC.condFb f10 hb23 ?_
 refine PC.exit ?_
 have hs19 := pz hs19
 subst hs19
 try dsimp only at ho16
 subst ho16
 try dsimp only at h0
 refine hK7 _ _ ?_
 refine A3 2 f2 4 f4 5 f5 fun F f2 f4 f5 => ?_
 refine SR fun K66 hK66 => ?_
 refine Q1 ((arV (n := 256) U8) x15) (vm y5 f4 b204 (yo (jj _ _ (fun _ => rfl)))) ?_
 refine Q1 _ (jb f5) ?_
 refine PL.storeA (ag := true) (cs' := ((arV (n := 256) U8) x15).cells) (ps := ((arV (n := 256) U8) x15).cells) rfl rfl (fun _ h => by cases h) f2 b202 y5 (e_ ((arV (n := 256) U8) x15)) (v8 _ _ _ (fun _ => rfl)) rfl (jj _ _ (fun _ => rfl)) (by rw [(jj _ _ (fun _ => rfl))]; exact Nat.le_of_ble_eq_true rfl) (vz (N := 256) (jj _ _ (fun _ => rfl)) (jj _ _ (fun _ => rfl))) fun H b202 fz67 => ?_
 have b204 := (fz67 204 (by decide)).trans b204
 refine Q1 _ (jf (e_ (I x13))) ?_
 refine PL.nil (hK66 _ _ ?_)
 refine A2 2 f2 3 (e_ (I x13)) fun F f2 f3 => ?_
 refine PC.ret ?_
 have h0 := pz h0
 subst h0
 exact fin (p0 := PV.tup [((arV (n := 256) U8) x15), (I x13)]) (.inr rfl) (Yq (rs := [.cell 2 22, .tmp 3]) Try.results35 (by decide) (rlc (zf y5 f2 b202 (yo (jj _ _ (fun _ => rfl)))) (rlc (Jy f3) (rl0)))) (.tup _ (js (vc _ (fun _ => (.u _))) (js (.u _) (j2))))
def Vs (a0 : (Arr 256 Int)) (a1 : Int) : G (List Int) :=
  G.bind (G.loop (σ := (Int × (List Int))) (α := (List Int)) (fun (x10, x11) => G.cond (decide (x10 < 256)) (G.bind (α := (List Int)) (G.bind (G.lift (idx a0.1 x10)) fun x26 => G.cond (decide ((w64 x26) = a1)) (G.bind (G.lift (app 1 x11 ([(IntKind.u8.wrap x10)] : List Int))) fun x28 => G.pure x28) (G.pure x11)) fun x23 => G.pure (.inl ((w64 (x10 + 1)), x23))) (G.pure (.inr x11))) (0, [])) fun x33 => G.pure x33
theorem ze5 {nn : Nat} {a0 : (Arr 256 Int)} {a1 : Int} {r : (List Int)} (h0 : Vs a0 a1 nn = some r) : PCall Try.prog 36 [(arV (n := 256) U8) a0, I a1] (· = PV.fr 5 1 (r.map U8)) := by
 unfold Vs at h0
 refine PCall.intro' Try.func36 rfl Try.ntmps36 (by simp) fun W => ?_
 refine A2 0 (e_ ((arV (n := 256) U8) a0)) 1 (e_ (I a1)) fun F f0 f1 => ?_
 generalize PHeap.empty = H
 refine SR fun K1 hK1 => ?_
 refine Q3 (PV.rp ((arV (n := 256) U8) a0).cells) (zk f0 (v8 _ _ _ (fun _ => rfl))) ?_
 refine Q1 (PV.u (.slice none 0 0)) (jf rfl) ?_
 have o1004 : ownL 5 1 U8 H 1004 (PV.u (.slice none 0 0)) [] := ownL.nil _ _
 refine PL.nil (hK1 _ _ ?_)
 refine A2 1 f1 2 (e_ (PV.rp ((arV (n := 256) U8) a0).cells)) fun F f1 f2 => ?_
 refine SR fun K2 hK2 => ?_
 refine PL.litO (rep := U8) (xs := []) 1004 rfl rfl rfl (by decide) zbn rfl (by decide) (bm0) rfl rfl fun q3 H o1004 fz4 => ?_
 refine Q1 _ (jf (e_ q3)) ?_
 refine PL.nil (hK2 _ _ ?_)
 refine A3 1 f1 2 f2 5 (e_ q3) fun F f1 f2 f5 => ?_
 refine PC.seq fun K5 hK5 => ?_
 refine SR fun K6 hK6 => ?_
 refine Q1 _ (jf (e_ (I 0))) ?_
 refine PL.nil (hK6 _ _ ?_)
 refine A4 1 f1 2 f2 5 f5 6 (e_ (I 0)) fun F f1 f2 f5 f6 => ?_
 refine PC.block ?_
 obtain ⟨o13, ho13, h0⟩ := bs h0
 obtain ⟨B14, hB14, ho13⟩ := G.loop_some ho13
 refine PC.loop (fun m17 F H => ∃ s36 : (Int × (List Int)), ∃ q12, qw B14 m17 s36 = some o13 ∧ F 1 = (I a1) ∧ F 2 = (PV.rp ((arV (n := 256) U8) a0).cells) ∧ F 5 = q12 ∧ F 6 = (I s36.1) ∧ ownL 5 1 U8 H 1004 q12 s36.2) (m := nn) ⟨(0, []), q3, ho13, f1, f2, f5, f6, o1004⟩ fun m17 F H hI => ?_
 obtain ⟨⟨x10, x11⟩, q12, ho13, f1, f2, f5, f6, o1004⟩ := hI
 obtain ⟨m17, rfl, st15, hs16, ho13⟩ := jw ho13
 rw [hB14] at hs16
 try dsimp only at hs16
 refine PC.seq fun K18 hK18 => ?_
 refine SR fun K19 hK19 => ?_
 refine Q1 _ (jb f6) ?_
 refine Q1 _ (jh rfl (e_ (I x10)) (e_ (I 256)) jv) ?_
 refine PL.nil (hK19 _ _ ?_)
 refine A5 1 f1 2 f2 5 f5 6 f6 9 (e_ (B (decide (x10 < 256)))) fun F f1 f2 f5 f6 f9 => ?_
 rcases cz hs16 with ⟨hb20, hs16⟩ | ⟨hb20, hs16⟩
 refine PC.condTb f9 hb20 ?_
 refine PC.skip ?_
 refine hK18 _ _ ?_
 refine A4 1 f1 2 f2 5 f5 6 f6 fun F f1 f2 f5 f6 => ?_
 obtain ⟨o22, ho22, hs16⟩ := bs hs16
 refine PC.seqM (fun F H => ∃ s31 : (List Int), ∃ q24, o22 = s31 ∧ F 1 = (I a1) ∧ F 2 = (PV.rp ((arV (n := 256) U8) a0).cells) ∧ F 5 = q24 ∧ F 6 = (I x10) ∧ ownL 5 1 U8 H 1004 q24 s31) ?_ ?_
 refine PC.block ?_
 refine SR fun K25 hK25 => ?_
 refine Q1 _ (jb f6) ?_
 obtain ⟨x26, hx26, ho22⟩ := bs ho22
 refine Q1 (PV.rp (((arV (n := 256) U8) a0).cells.drop ((x10 : Int).toNat * 1))) (zcg (rep := U8) (a := a0) Yf f2 (e_ (I x10)) hx26) ?_
 refine Q1 (U8 x26) (jx Zm (e_ (PV.rp (((arV (n := 256) U8) a0).cells.drop ((x10 : Int).toNat * 1)))) (zb0 hx26)) ?_
 refine Q1 (I (w64 x26)) (Jc (by kernel_rfl) (by kernel_rfl) (e_ (U8 x26))) ?_
 refine Q1 _ (jb f1) ?_
 refine Q1 _ (jh rfl (e_ (I (w64 x26))) (e_ (I a1)) j7) ?_
 refine PL.nil (hK25 _ _ ?_)
 refine A5 1 f1 2 f2 5 f5 6 f6 17 (e_ (B (decide ((w64 x26) = a1)))) fun F f1 f2 f5 f6 f17 => ?_
 rcases cz ho22 with ⟨hb27, ho22⟩ | ⟨hb27, ho22⟩
 refine PC.condTb f17 hb27 ?_
 refine PC.region ?_
 refine Q1 _ (jb f5) ?_
 refine Q1 _ (jb f6) ?_
 refine Q1 (U8 (IntKind.u8.wrap x10)) (Ja (by kernel_rfl) (by kernel_rfl) (e_ (I x10))) ?_
 refine Q3 (Zi ([(IntKind.u8.wrap x10)] : List Int)) (yx (rep := U8) (xs := [(IntKind.u8.wrap x10)]) zbn rfl (by decide) (bm (e_ (U8 (IntKind.u8.wrap x10))) (bm0)) rfl rfl) ?_
 obtain ⟨x28, hx28, ho22⟩ := bs ho22
 refine PL.appG (rep := U8) (ys := ([(IntKind.u8.wrap x10)] : List Int)) rfl rfl rfl (by decide) zbn (e_ q12) o1004 (e_ (Zi ([(IntKind.u8.wrap x10)] : List Int))) (fun _ => rfl) (lf1 (fun _ => rfl) (fun _ => rfl)) hx28 fun q29 H o1004 fz30 => ?_
 refine Q1 _ (jf (e_ q29)) ?_
 refine PL.nil ?_
 have ho22 := pz ho22
 subst ho22
 exact ⟨x28, q29, rfl, f1, f2, (e_ q29), f6, o1004⟩
 refine PC.condFb f17 hb27 ?_
 refine PC.skip ?_
 have ho22 := pz ho22
 subst ho22
 exact ⟨x11, q12, rfl, f1, f2, f5, f6, o1004⟩
 intro F H hI
 obtain ⟨x23, q24, ho, f1, f2, f5, f6, o1004⟩ := hI
 have ho := ho.symm
 subst ho
 try dsimp only at hs16
 refine PC.region ?_
 refine Q1 _ (jb f6) ?_
 refine Q1 _ (jh rfl (e_ (I x10)) (e_ (I 1)) j3) ?_
 refine Q1 _ (jf (e_ (I (w64 (x10 + 1))))) ?_
 refine PL.nil ?_
 have hs16 := pz hs16
 subst hs16
 exact ⟨m17, Nat.lt_succ_self _, ((w64 (x10 + 1)), x23), q24, ho13, f1, f2, f5, (e_ (I (w64 (x10 + 1)))), o1004⟩
 refine PC.condFb f9 hb20 ?_
 refine PC.exit ?_
 have hs16 := pz hs16
 subst hs16
 try dsimp only at ho13
 subst ho13
 try dsimp only at h0
 refine hK5 _ _ ?_
 refine A1 5 f5 fun F f5 => ?_
 refine SR fun K32 hK32 => ?_
 refine Q1 _ (jb f5) ?_
 refine Q1 _ (jf (e_ q12)) ?_
 refine PL.nil (hK32 _ _ ?_)
 refine A1 4 (e_ q12) fun F f4 => ?_
 refine PC.ret ?_
 have h0 := pz h0
 subst h0
 exact za (.inr rfl) (j9 Try.results36 f4) o1004 (fun _ => rfl)
theorem zfu {nn : Nat} {a0 : (Arr 256 Int)} {a1 : Int} {r : (List Int)} (h0 : Vs a0 a1 nn = some r) : PCall Try.prog 36 [(arV (n := 256) U8) a0, I a1] (· = Zi r) := (ze5 h0).forget
def Yo (a0 : jy) (a1 : (List Int)) (a2 : Int) : G (List Int) :=
  G.bind (G.loop (σ := (Int × (List Int))) (α := (List Int)) (fun (x10, x11) => G.cond (decide (x10 < (a0.jm.length : Int))) (G.bind (α := (List Int)) (G.bind (Zo a1 x10) fun x26 => G.bind (G.cond x26 (G.lift (idx a0.jm x10)) (G.pure (arZ 4 0))) fun x27 => G.bind (G.cond x26 (J5 x27 a2) (G.pure false)) fun x28 => G.cond (x26 && x28) (G.bind (G.lift (app 8 x11 ([x10] : List Int))) fun x30 => G.pure x30) (G.pure x11)) fun x23 => G.pure (.inl ((w64 (x10 + 1)), x23))) (G.pure (.inr x11))) (0, [])) fun x35 => G.pure x35
theorem zcb {nn : Nat} {a0 : jy} {a1 : (List Int)} {a2 : Int} {r : (List Int)} (h0 : Yo a0 a1 a2 nn = some r) : PCall Try.prog 54 [jn a0, slI a1, U8 a2] (· = PV.fr 3 1 (r.map I)) := by
 unfold Yo at h0
 refine PCall.intro' Try.func54 rfl Try.ntmps54 (by simp) fun W => ?_
 refine A3 0 (e_ (jn a0)) 1 (e_ (slI a1)) 2 (e_ (U8 a2)) fun F f0 f1 f2 => ?_
 generalize PHeap.empty = H
 refine SR fun K1 hK1 => ?_
 refine Q3 (PV.rp (jn a0).cells) (zk f0 (zw _ _)) ?_
 refine Q1 (PV.u (.slice none 0 0)) (jf rfl) ?_
 have o1006 : ownL 3 1 I H 1006 (PV.u (.slice none 0 0)) [] := ownL.nil _ _
 refine PL.nil (hK1 _ _ ?_)
 refine A3 1 f1 2 f2 3 (e_ (PV.rp (jn a0).cells)) fun F f1 f2 f3 => ?_
 refine SR fun K2 hK2 => ?_
 refine PL.litO (rep := I) (xs := []) 1006 rfl rfl rfl (by decide) qj rfl (by decide) (bm0) rfl rfl fun q3 H o1006 fz4 => ?_
 refine Q1 _ (jf (e_ q3)) ?_
 refine PL.nil (hK2 _ _ ?_)
 refine A4 1 f1 2 f2 3 f3 7 (e_ q3) fun F f1 f2 f3 f7 => ?_
 refine PC.seq fun K5 hK5 => ?_
 refine SR fun K6 hK6 => ?_
 refine Q1 _ (jf (e_ (I 0))) ?_
 refine PL.nil (hK6 _ _ ?_)
 refine A5 1 f1 2 f2 3 f3 7 f7 8 (e_ (I 0)) fun F f1 f2 f3 f7 f8 => ?_
 refine PC.block ?_
 obtain ⟨o13, ho13, h0⟩ := bs h0
 obtain ⟨B14, hB14, ho13⟩ := G.loop_some ho13
 refine PC.loop (fun m17 F H => ∃ s38 : (Int × (List Int)), ∃ q12, qw B14 m17 s38 = some o13 ∧ F 1 = (slI a1) ∧ F 2 = (U8 a2) ∧ F 3 = (PV.rp (jn a0).cells) ∧ F 7 = q12 ∧ F 8 = (I s38.1) ∧ ownL 3 1 I H 1006 q12 s38.2) (m := nn) ⟨(0, []), q3, ho13, f1, f2, f3, f7, f8, o1006⟩ fun m17 F H hI => ?_
 obtain ⟨⟨x10, x11⟩, q12, ho13, f1, f2, f3, f7, f8, o1006⟩ := hI
 obtain ⟨m17, rfl, st15, hs16, ho13⟩ := jw ho13
 rw [hB14] at hs16
 try dsimp only at hs16
 refine PC.seq fun K18 hK18 => ?_
 refine SR fun K19 hK19 => ?_
 refine Q1 _ (jb f8) ?_
 refine Q1 (PV.rp ((jn a0).cells.drop 0)) (j8 Jd y4 (by decide) f3) ?_
 refine Q1 (jg a0.jm) (jx y4 (e_ (PV.rp ((jn a0).cells.drop 0))) (yp a0)) ?_
 refine Q1 (I (a0.jm.length : Int)) (qg (rep := (arV (n := 4) (iK .u64))) (xs := a0.jm) zd (e_ (jg a0.jm))) ?_
 refine Q1 _ (jh rfl (e_ (I x10)) (e_ (I (a0.jm.length : Int))) jv) ?_
 refine PL.nil (hK19 _ _ ?_)
 refine A6 1 f1 2 f2 3 f3 7 f7 8 f8 14 (e_ (B (decide (x10 < (a0.jm.length : Int))))) fun F f1 f2 f3 f7 f8 f14 => ?_
 rcases cz hs16 with ⟨hb20, hs16⟩ | ⟨hb20, hs16⟩
 refine PC.condTb f14 hb20 ?_
 refine PC.skip ?_
 refine hK18 _ _ ?_
 refine A5 1 f1 2 f2 3 f3 7 f7 8 f8 fun F f1 f2 f3 f7 f8 => ?_
 obtain ⟨o22, ho22, hs16⟩ := bs hs16
 refine PC.seqM (fun F H => ∃ s33 : (List Int), ∃ q24, o22 = s33 ∧ F 1 = (slI a1) ∧ F 2 = (U8 a2) ∧ F 3 = (PV.rp (jn a0).cells) ∧ F 7 = q24 ∧ F 8 = (I x10) ∧ ownL 3 1 I H 1006 q24 s33) ?_ ?_
 refine PC.block ?_
 refine SR fun K25 hK25 => ?_
 refine Q1 _ (jb f1) ?_
 refine Q1 _ (jb f8) ?_
 obtain ⟨x26, hx26, ho22⟩ := bs ho22
 refine Q3 (B x26) (j0 (by kernel_rfl) (am (e_ (slI a1)) (am (e_ (I x10)) (am0))) (js (ye _) (js (.u _) (j2))) (zcy hx26)) ?_
 refine Q1 _ (jb (e_ (B x26))) ?_
 refine GT (PV.rp ((jn a0).cells.drop 0)) rfl (e_ (B x26)) (fun hb => j8 Jd y4 (by decide) f3) ?_
 refine GT (jg a0.jm) rfl (e_ (B x26)) (fun hb => jx y4 (gvp hb (e_ (gv x26 (PV.rp ((jn a0).cells.drop 0))))) (yp a0)) ?_
 refine GT (I x10) rfl (e_ (B x26)) (fun hb => jb f8) ?_
 obtain ⟨x27, hx27, ho22⟩ := bs ho22
 refine GT (PV.rp ((arV (n := 4) (iK .u64)) x27).cells) rfl (e_ (B x26)) (fun hb => j1 (rep := (arV (n := 4) (iK .u64))) (xs := a0.jm) zi0 (gvp hb (e_ (gv x26 (jg a0.jm)))) (gvp hb (e_ (gv x26 (I x10)))) (G.cond_pos hx27 hb)) ?_
 refine GT ((arV (n := 4) (iK .u64)) x27) rfl (e_ (B x26)) (fun hb => vw qy (gvp hb (e_ (gv x26 (PV.rp ((arV (n := 4) (iK .u64)) x27).cells)))) (jj _ _ (fun _ => rfl))) ?_
 refine GT (U8 a2) rfl (e_ (B x26)) (fun hb => jb f2) ?_
 obtain ⟨x28, hx28, ho22⟩ := bs ho22
 refine GTq (B x28) rfl (e_ (B x26)) (fun hb => j0 (by kernel_rfl) (am (gvp hb (e_ (gv x26 ((arV (n := 4) (iK .u64)) x27)))) (am (gvp hb (e_ (gv x26 (U8 a2)))) (am0))) (js (vc _ (fun _ => (.u _))) (js (.u _) (j2))) (Qm (G.cond_pos hx28 hb))) ?_
 refine Q1 (B (x26 && x28)) (vt (e_ (B x26)) (e_ (gv x26 (B x28))) rfl) ?_
 refine PL.nil (hK25 _ _ ?_)
 refine A6 1 f1 2 f2 3 f3 7 f7 8 f8 28 (e_ (B (x26 && x28))) fun F f1 f2 f3 f7 f8 f28 => ?_
 rcases cz ho22 with ⟨hb29, ho22⟩ | ⟨hb29, ho22⟩
 refine PC.condTb f28 hb29 ?_
 refine PC.region ?_
 refine Q1 _ (jb f7) ?_
 refine Q1 _ (jb f8) ?_
 refine Q3 (slI ([x10] : List Int)) (yx (rep := I) (xs := [x10]) qj rfl (by decide) (bm (e_ (I x10)) (bm0)) rfl rfl) ?_
 obtain ⟨x30, hx30, ho22⟩ := bs ho22
 refine PL.appG (rep := I) (ys := ([x10] : List Int)) rfl rfl rfl (by decide) qj (e_ q12) o1006 (e_ (slI ([x10] : List Int))) (fun _ => rfl) (lf1 (fun _ => rfl) (fun _ => rfl)) hx30 fun q31 H o1006 fz32 => ?_
 refine Q1 _ (jf (e_ q31)) ?_
 refine PL.nil ?_
 have ho22 := pz ho22
 subst ho22
 exact ⟨x30, q31, rfl, f1, f2, f3, (e_ q31), f8, o1006⟩
 refine PC.condFb f28 hb29 ?_
 refine PC.skip ?_
 have ho22 := pz ho22
 subst ho22
 exact ⟨x11, q12, rfl, f1, f2, f3, f7, f8, o1006⟩
 intro F H hI
 obtain ⟨x23, q24, ho, f1, f2, f3, f7, f8, o1006⟩ := hI
 have ho := ho.symm
 subst ho
 try dsimp only at hs16
 refine PC.region ?_
 refine Q1 _ (jb f8) ?_
 refine Q1 _ (jh rfl (e_ (I x10)) (e_ (I 1)) j3) ?_
 refine Q1 _ (jf (e_ (I (w64 (x10 + 1))))) ?_
 refine PL.nil ?_
 have hs16 := pz hs16
 subst hs16
 exact ⟨m17, Nat.lt_succ_self _, ((w64 (x10 + 1)), x23), q24, ho13, f1, f2, f3, f7, (e_ (I (w64 (x10 + 1)))), o1006⟩
 refine PC.condFb f14 hb20 ?_
 refine PC.exit ?_
 have hs16 := pz hs16
 subst hs16
 try dsimp only at ho13
 subst ho13
 try dsimp only at h0
 refine hK5 _ _ ?_
 refine A1 7 f7 fun F f7 => ?_
 refine SR fun K34 hK34 => ?_
 refine Q1 _ (jb f7) ?_
 refine Q1 _ (jf (e_ q12)) ?_
 refine PL.nil (hK34 _ _ ?_)
 refine A1 6 (e_ q12) fun F f6 => ?_
 refine PC.ret ?_
 have h0 := pz h0
 subst h0
 exact za (.inr rfl) (j9 Try.results54 f6) o1006 (fun _ => rfl)
def Yl (a0 : jy) (a1 : (List Int)) (a2 : Int) : G (List Int) :=
  G.bind (Js a0) fun x7 => G.cond (!x7) (G.pure []) (G.bind (G.loop (σ := (Int × (List Int))) (α := (List Int)) (fun (x15, x16) => G.cond (decide (x15 < (a1.length : Int))) (G.bind (α := (List Int)) (G.bind (G.lift (idx a1 x15)) fun x31 => G.bind (G.cond (decide (0 ≤ x31)) (G.lift (idx a1 x15)) (G.pure 0)) fun x32 => G.cond ((decide (0 ≤ x31)) && (decide (x32 < (a0.jm.length : Int)))) (G.bind (G.lift (idx a1 x15)) fun x34 => G.bind (G.lift (idx a0.qp x34)) fun x35 => G.bind (G.lift (app 8 x16 x35)) fun x36 => G.pure x36) (G.pure x16)) fun x28 => G.pure (.inl ((w64 (x15 + 1)), x28))) (G.pure (.inr x16))) (0, [])) fun x45 => G.bind (Yo a0 x45 a2) fun x49 => G.pure x49)
theorem zgp {nn : Nat} {a0 : jy} {a1 : (List Int)} {a2 : Int} {r : (List Int)} (h0 : Yl a0 a1 a2 nn = some r) : PCall Try.prog 37 [jn a0, slI a1, U8 a2] (· = PV.fr 3 1 (r.map I)) := by
 unfold Yl at h0
 refine PCall.intro' Try.func37 rfl Try.ntmps37 (by simp) fun W => ?_
 refine A3 0 (e_ (jn a0)) 1 (e_ (slI a1)) 2 (e_ (U8 a2)) fun F f0 f1 f2 => ?_
 generalize PHeap.empty = H
 refine SR fun K1 hK1 => ?_
 refine Q3 (PV.rp (jn a0).cells) (zk f0 (zw _ _)) ?_
 refine Q1 (PV.u (.slice none 0 0)) (jf rfl) ?_
 have o1006 : ownL 3 1 I H 1006 (PV.u (.slice none 0 0)) [] := ownL.nil _ _
 refine PL.nil (hK1 _ _ ?_)
 refine A3 1 f1 2 f2 3 (e_ (PV.rp (jn a0).cells)) fun F f1 f2 f3 => ?_
 refine SR fun K2 hK2 => ?_
 refine PL.litO (rep := I) (xs := []) 1006 rfl rfl rfl (by decide) qj rfl (by decide) (bm0) rfl rfl fun q3 H o1006 fz4 => ?_
 refine Q1 _ (jf (e_ q3)) ?_
 refine PL.nil (hK2 _ _ ?_)
 refine A4 1 f1 2 f2 3 f3 7 (e_ q3) fun F f1 f2 f3 f7 => ?_
 refine PC.seq fun K5 hK5 => ?_
 refine SR fun K6 hK6 => ?_
 refine Q1 (jn a0) (vw Qv f3 (yb _)) ?_
 obtain ⟨x7, hx7, h0⟩ := bs h0
 refine Q3 (B x7) (j0 (by kernel_rfl) (am (e_ (jn a0)) (am0)) (js (yl _) (j2)) (Qs hx7)) ?_
 refine Q1 (B (!x7)) (yn (e_ (B x7))) ?_
 refine PL.nil (hK6 _ _ ?_)
 refine A5 1 f1 2 f2 3 f3 7 f7 12 (e_ (B (!x7))) fun F f1 f2 f3 f7 f12 => ?_
 rcases cz h0 with ⟨hb8, h0⟩ | ⟨hb8, h0⟩
 refine PC.condTb f12 hb8 ?_
 refine SR fun K9 hK9 => ?_
 refine Q1 _ (jb f7) ?_
 refine Q1 _ (jf (e_ q3)) ?_
 refine PL.nil (hK9 _ _ ?_)
 refine A1 6 (e_ q3) fun F f6 => ?_
 refine PC.ret ?_
 have h0 := pz h0
 subst h0
 exact za (.inr rfl) (j9 Try.results37 f6) o1006 (fun _ => rfl)
 refine PC.condFb f12 hb8 ?_
 refine PC.skip ?_
 refine hK5 _ _ ?_
 refine A4 1 f1 2 f2 3 f3 7 f7 fun F f1 f2 f3 f7 => ?_
 refine PC.seq fun K10 hK10 => ?_
 refine SR fun K11 hK11 => ?_
 refine Q1 _ (jf (e_ (I 0))) ?_
 refine PL.nil (hK11 _ _ ?_)
 refine A5 1 f1 2 f2 3 f3 7 f7 8 (e_ (I 0)) fun F f1 f2 f3 f7 f8 => ?_
 refine PC.block ?_
 obtain ⟨o18, ho18, h0⟩ := bs h0
 obtain ⟨B19, hB19, ho18⟩ := G.loop_some ho18
 refine PC.loop (fun m22 F H => ∃ s52 : (Int × (List Int)), ∃ q17, qw B19 m22 s52 = some o18 ∧ F 1 = (slI a1) ∧ F 2 = (U8 a2) ∧ F 3 = (PV.rp (jn a0).cells) ∧ F 7 = q17 ∧ F 8 = (I s52.1) ∧ ownL 3 1 I H 1006 q17 s52.2) (m := nn) ⟨(0, []), q3, ho18, f1, f2, f3, f7, f8, o1006⟩ fun m22 F H hI => ?_
 obtain ⟨⟨x15, x16⟩, q17, ho18, f1, f2, f3, f7, f8, o1006⟩ := hI
 obtain ⟨m22, rfl, st20, hs21, ho18⟩ := jw ho18
 rw [hB19] at hs21
 try dsimp only at hs21
 refine PC.seq fun K23 hK23 => ?_
 refine SR fun K24 hK24 => ?_
 refine Q1 _ (jb f8) ?_
 refine Q1 _ (jb f1) ?_
 refine Q1 (I (a1.length : Int)) (qg (rep := I) (xs := a1) ql (e_ (slI a1))) ?_
 refine Q1 _ (jh rfl (e_ (I x15)) (e_ (I (a1.length : Int))) jv) ?_
 refine PL.nil (hK24 _ _ ?_)
 refine A6 1 f1 2 f2 3 f3 7 f7 8 f8 17 (e_ (B (decide (x15 < (a1.length : Int))))) fun F f1 f2 f3 f7 f8 f17 => ?_
 rcases cz hs21 with ⟨hb25, hs21⟩ | ⟨hb25, hs21⟩
 refine PC.condTb f17 hb25 ?_
 refine PC.skip ?_
 refine hK23 _ _ ?_
 refine A5 1 f1 2 f2 3 f3 7 f7 8 f8 fun F f1 f2 f3 f7 f8 => ?_
 obtain ⟨o27, ho27, hs21⟩ := bs hs21
 refine PC.seqM (fun F H => ∃ s39 : (List Int), ∃ q29, o27 = s39 ∧ F 1 = (slI a1) ∧ F 2 = (U8 a2) ∧ F 3 = (PV.rp (jn a0).cells) ∧ F 7 = q29 ∧ F 8 = (I x15) ∧ ownL 3 1 I H 1006 q29 s39) ?_ ?_
 refine PC.block ?_
 refine PC.seq fun K30 hK30 => ?_
 refine PC.regionQ mixed (by kernel_rfl) ?_
 refine Q2 _ (jb f1) ?_
 refine Q2 _ (jb f8) ?_
 obtain ⟨x31, hx31, ho27⟩ := bs ho27
 refine Q2 (PV.rp (I x31).cells) (j1 (rep := I) (xs := a1) vk (e_ (slI a1)) (e_ (I x15)) hx31) ?_
 refine Q2 (I x31) (qr qz (e_ (PV.rp (I x31).cells))) ?_
 refine Q2 _ (jh rfl (e_ (I x31)) (e_ (I 0)) vr) ?_
 refine Q2 _ (jb (e_ (B (decide (0 ≤ x31))))) ?_
 refine HT (slI a1) rfl (e_ (B (decide (0 ≤ x31)))) (fun hb => jb f1) ?_
 refine HT (I x15) rfl (e_ (B (decide (0 ≤ x31)))) (fun hb => jb f8) ?_
 obtain ⟨x32, hx32, ho27⟩ := bs ho27
 refine HT (PV.rp (I x32).cells) rfl (e_ (B (decide (0 ≤ x31)))) (fun hb => j1 (rep := I) (xs := a1) vk (gvp hb (e_ (gv (decide (0 ≤ x31)) (slI a1)))) (gvp hb (e_ (gv (decide (0 ≤ x31)) (I x15)))) (G.cond_pos hx32 hb)) ?_
 refine HT (I x32) rfl (e_ (B (decide (0 ≤ x31)))) (fun hb => qr qz (gvp hb (e_ (gv (decide (0 ≤ x31)) (PV.rp (I x32).cells))))) ?_
 refine HT (PV.rp ((jn a0).cells.drop 0)) rfl (e_ (B (decide (0 ≤ x31)))) (fun hb => j8 Jd y4 (by decide) f3) ?_
 refine HT (jg a0.jm) rfl (e_ (B (decide (0 ≤ x31)))) (fun hb => jx y4 (gvp hb (e_ (gv (decide (0 ≤ x31)) (PV.rp ((jn a0).cells.drop 0))))) (yp a0)) ?_
 refine HT (I (a0.jm.length : Int)) rfl (e_ (B (decide (0 ≤ x31)))) (fun hb => qg (rep := (arV (n := 4) (iK .u64))) (xs := a0.jm) zd (gvp hb (e_ (gv (decide (0 ≤ x31)) (jg a0.jm))))) ?_
 refine HT (B (decide (x32 < (a0.jm.length : Int)))) rfl (e_ (B (decide (0 ≤ x31)))) (fun hb => jh rfl (gvp hb (e_ (gv (decide (0 ≤ x31)) (I x32)))) (gvp hb (e_ (gv (decide (0 ≤ x31)) (I (a0.jm.length : Int))))) jv) ?_
 refine Q2 (B ((decide (0 ≤ x31)) && (decide (x32 < (a0.jm.length : Int))))) (vt (e_ (B (decide (0 ≤ x31)))) (e_ (gv (decide (0 ≤ x31)) (B (decide (x32 < (a0.jm.length : Int)))))) rfl) ?_
 refine QF.nil ?_
 refine hK30 _ _ ?_
 refine A6 1 f1 2 f2 3 f3 7 f7 8 f8 34 (e_ (B ((decide (0 ≤ x31)) && (decide (x32 < (a0.jm.length : Int)))))) fun F f1 f2 f3 f7 f8 f34 => ?_
 rcases cz ho27 with ⟨hb33, ho27⟩ | ⟨hb33, ho27⟩
 refine PC.condTb f34 hb33 ?_
 refine PC.regionT 9 mixed (by kernel_rfl) ?_
 refine Q2 _ (jb f7) ?_
 refine Q2 (PV.rp ((jn a0).cells.drop 3)) (j8 zbi qi (by decide) f3) ?_
 refine Q2 (qk a0.qp) (jx qi (e_ (PV.rp ((jn a0).cells.drop 3))) (Zy a0)) ?_
 refine Q2 _ (jb f1) ?_
 refine Q2 _ (jb f8) ?_
 obtain ⟨x34, hx34, ho27⟩ := bs ho27
 refine Q2 (PV.rp (I x34).cells) (j1 (rep := I) (xs := a1) vk (e_ (slI a1)) (e_ (I x15)) hx34) ?_
 refine Q2 (I x34) (qr qz (e_ (PV.rp (I x34).cells))) ?_
 obtain ⟨x35, hx35, ho27⟩ := bs ho27
 refine Q2 (PV.rp (slI x35).cells) (j1 (rep := slI) (xs := a0.qp) Jz (e_ (qk a0.qp)) (e_ (I x34)) hx35) ?_
 refine Q2 (slI x35) (qr qh (e_ (PV.rp (slI x35).cells))) ?_
 refine QF.nil ?_
 obtain ⟨x36, hx36, ho27⟩ := bs ho27
 refine PL.appG (rep := I) (ys := x35) rfl rfl rfl (by decide) qj (e_ q17) o1006 (e_ (slI x35)) (fun _ => rfl) (lf1 (fun _ => rfl) (fun _ => rfl)) hx36 fun q37 H o1006 fz38 => ?_
 refine Q1 _ (jf (e_ q37)) ?_
 refine PL.nil ?_
 have ho27 := pz ho27
 subst ho27
 exact ⟨x36, q37, rfl, f1, f2, f3, (e_ q37), f8, o1006⟩
 refine PC.condFb f34 hb33 ?_
 refine PC.skip ?_
 have ho27 := pz ho27
 subst ho27
 exact ⟨x16, q17, rfl, f1, f2, f3, f7, f8, o1006⟩
 intro F H hI
 obtain ⟨x28, q29, ho, f1, f2, f3, f7, f8, o1006⟩ := hI
 have ho := ho.symm
 subst ho
 try dsimp only at hs21
 refine PC.region ?_
 refine Q1 _ (jb f8) ?_
 refine Q1 _ (jh rfl (e_ (I x15)) (e_ (I 1)) j3) ?_
 refine Q1 _ (jf (e_ (I (w64 (x15 + 1))))) ?_
 refine PL.nil ?_
 have hs21 := pz hs21
 subst hs21
 exact ⟨m22, Nat.lt_succ_self _, ((w64 (x15 + 1)), x28), q29, ho18, f1, f2, f3, f7, (e_ (I (w64 (x15 + 1)))), o1006⟩
 refine PC.condFb f17 hb25 ?_
 refine PC.exit ?_
 have hs21 := pz hs21
 subst hs21
 try dsimp only at ho18
 subst ho18
 try dsimp only at h0
 refine hK10 _ _ ?_
 refine A3 2 f2 3 f3 7 f7 fun F f2 f3 f7 => ?_
 refine PC.seq fun K40 hK40 => ?_
 refine PC.freezeL (rep := I) 7 f7 o1006 (fun _ => rfl) fun H fz41 => ?_
 refine PC.region ?_
 refine Q1 (jn a0) (vw Qv f3 (yb _)) ?_
 refine Q1 _ (jb (e_ (slI x16))) ?_
 refine Q1 _ (jb f2) ?_
 obtain ⟨x42, hx42, h0⟩ := bs h0
 refine PL.callG (rep := I) (enc := (Value.int .i64)) 1006 rfl rfl rfl (by decide) (by kernel_rfl) (am (e_ (jn a0)) (am (e_ (slI x16)) (am (e_ (U8 a2)) (am0)))) (Yr (zcu _) (Yr (zdr _) (Yr (.u _) (zkn)))) (zcb hx42) (fun _ => rfl) fun q43 H o1006 fz44 => ?_
 refine Q1 _ (jf (e_ q43)) ?_
 refine PL.nil (hK40 _ _ ?_)
 refine A1 6 (e_ q43) fun F f6 => ?_
 refine PC.ret ?_
 have h0 := pz h0
 subst h0
 exact za (.inr rfl) (j9 Try.results37 f6) o1006 (fun _ => rfl)
theorem zgo {nn : Nat} {a0 : jy} {a1 : (List Int)} {a2 : Int} {r : (List Int)} (h0 : Yl a0 a1 a2 nn = some r) : PCall Try.prog 37 [jn a0, slI a1, U8 a2] (· = slI r) := (zgp h0).forget
def V4 (a0 : jy) (a1 : Int) : G (List Int) :=
  G.bind (Js a0) fun x4 => G.cond (!x4) (G.pure []) (G.bind (Yo a0 a0.Qc a1) fun x10 => G.pure x10)
theorem zfl {nn : Nat} {a0 : jy} {a1 : Int} {r : (List Int)} (h0 : V4 a0 a1 nn = some r) : PCall Try.prog 38 [jn a0, U8 a1] (· = PV.fr 3 1 (r.map I)) := by
 unfold V4 at h0
 refine PCall.intro' Try.func38 rfl Try.ntmps38 (by simp) fun W => ?_
 refine A2 0 (e_ (jn a0)) 1 (e_ (U8 a1)) fun F f0 f1 => ?_
 generalize PHeap.empty = H
 refine SR fun K1 hK1 => ?_
 refine Q3 (PV.rp (jn a0).cells) (zk f0 (zw _ _)) ?_
 refine Q1 (PV.u (.slice none 0 0)) (jf rfl) ?_
 have o1004 : ownL 3 1 I H 1004 (PV.u (.slice none 0 0)) [] := ownL.nil _ _
 refine PL.nil (hK1 _ _ ?_)
 refine A2 1 f1 2 (e_ (PV.rp (jn a0).cells)) fun F f1 f2 => ?_
 refine PC.seq fun K2 hK2 => ?_
 refine SR fun K3 hK3 => ?_
 refine Q1 (jn a0) (vw Qv f2 (yb _)) ?_
 obtain ⟨x4, hx4, h0⟩ := bs h0
 refine Q3 (B x4) (j0 (by kernel_rfl) (am (e_ (jn a0)) (am0)) (js (yl _) (j2)) (Qs hx4)) ?_
 refine Q1 (B (!x4)) (yn (e_ (B x4))) ?_
 refine PL.nil (hK3 _ _ ?_)
 refine A3 1 f1 2 f2 7 (e_ (B (!x4))) fun F f1 f2 f7 => ?_
 rcases cz h0 with ⟨hb5, h0⟩ | ⟨hb5, h0⟩
 refine PC.condTb f7 hb5 ?_
 refine SR fun K6 hK6 => ?_
 refine PL.litO (rep := I) (xs := []) 1004 rfl rfl rfl (by decide) qj rfl (by decide) (bm0) rfl rfl fun q7 H o1004 fz8 => ?_
 refine Q1 _ (jf (e_ q7)) ?_
 refine PL.nil (hK6 _ _ ?_)
 refine A1 4 (e_ q7) fun F f4 => ?_
 refine PC.ret ?_
 have h0 := pz h0
 subst h0
 exact za (.inr rfl) (j9 Try.results38 f4) o1004 (fun _ => rfl)
 refine PC.condFb f7 hb5 ?_
 refine PC.skip ?_
 refine hK2 _ _ ?_
 refine A2 1 f1 2 f2 fun F f1 f2 => ?_
 refine SR fun K9 hK9 => ?_
 refine Q1 (jn a0) (vw Qv f2 (yb _)) ?_
 refine Q1 (PV.rp ((jn a0).cells.drop 4)) (j8 zd5 qh (by decide) f2) ?_
 refine Q1 (slI a0.Qc) (jx qh (e_ (PV.rp ((jn a0).cells.drop 4))) (zc2 a0)) ?_
 refine Q1 _ (jb f1) ?_
 obtain ⟨x10, hx10, h0⟩ := bs h0
 refine PL.callG (rep := I) (enc := (Value.int .i64)) 1004 rfl rfl rfl (by decide) (by kernel_rfl) (am (e_ (jn a0)) (am (e_ (slI a0.Qc)) (am (e_ (U8 a1)) (am0)))) (Yr (zcu _) (Yr (zdr _) (Yr (.u _) (zkn)))) (zcb hx10) (fun _ => rfl) fun q11 H o1004 fz12 => ?_
 refine Q1 _ (jf (e_ q11)) ?_
 refine PL.nil (hK9 _ _ ?_)
 refine A1 4 (e_ q11) fun F f4 => ?_
 refine PC.ret ?_
 have h0 := pz h0
 subst h0
 exact za (.inr rfl) (j9 Try.results38 f4) o1004 (fun _ => rfl)
theorem zfo {nn : Nat} {a0 : jy} {a1 : Int} {r : (List Int)} (h0 : V4 a0 a1 nn = some r) : PCall Try.prog 38 [jn a0, U8 a1] (· = slI r) := (zfl h0).forget
def zg (a0 : (List Int)) (a1 : (List Int)) : G Bool :=
  G.cond (decide (¬ (a0.length : Int) = (a1.length : Int))) (G.pure false) (G.bind (G.loop (σ := Int) (α := Unit ⊕ Bool) (fun x9 => G.cond (decide (x9 < (a0.length : Int))) (G.bind (G.lift (idx a0 x9)) fun x20 => G.bind (G.lift (idx a1 x9)) fun x21 => G.cond (decide (¬ x20 = x21)) (G.pure (.inr (.inr false))) (G.pure (.inl (w64 (x9 + 1))))) (G.pure (.inr (.inl ())))) 0) fun o => match o with | .inl () => G.pure true | .inr r26 => G.pure r26)
theorem zby {nn : Nat} {a0 : (List Int)} {a1 : (List Int)} {r : Bool} (h0 : zg a0 a1 nn = some r) : PCall Try.prog 16 [slI a0, slI a1] (· = B r) := by
 unfold zg at h0
 refine PCall.intro' Try.func16 rfl Try.ntmps16 (by simp) fun W => ?_
 refine A2 0 (e_ (slI a0)) 1 (e_ (slI a1)) fun F f0 f1 => ?_
 generalize PHeap.empty = H
 refine SR fun K1 hK1 => ?_
 refine Q1 _ (jf (e_ (B false))) ?_
 refine PL.nil (hK1 _ _ ?_)
 refine A2 0 f0 1 f1 fun F f0 f1 => ?_
 refine PC.seq fun K2 hK2 => ?_
 refine SR fun K3 hK3 => ?_
 refine Q1 _ (jb f0) ?_
 refine Q1 (I (a0.length : Int)) (qg (rep := I) (xs := a0) ql (e_ (slI a0))) ?_
 refine Q1 _ (jb f1) ?_
 refine Q1 (I (a1.length : Int)) (qg (rep := I) (xs := a1) ql (e_ (slI a1))) ?_
 refine Q1 _ (jh rfl (e_ (I (a0.length : Int))) (e_ (I (a1.length : Int))) yc) ?_
 refine PL.nil (hK3 _ _ ?_)
 refine A3 0 f0 1 f1 10 (e_ (B (decide (¬ (a0.length : Int) = (a1.length : Int))))) fun F f0 f1 f10 => ?_
 rcases cz h0 with ⟨hb4, h0⟩ | ⟨hb4, h0⟩
 refine PC.condTb f10 hb4 ?_
 refine SR fun K5 hK5 => ?_
 refine Q1 _ (jf (e_ (B false))) ?_
 refine PL.nil (hK5 _ _ ?_)
 refine A1 4 (e_ (B false)) fun F f4 => ?_
 refine PC.ret ?_
 have h0 := pz h0
 subst h0
 exact fin (.inr rfl) (j9 Try.results16 f4) (.u _)
 refine PC.condFb f10 hb4 ?_
 refine PC.skip ?_
 refine hK2 _ _ ?_
 refine A2 0 f0 1 f1 fun F f0 f1 => ?_
 refine PC.seq fun K6 hK6 => ?_
 refine SR fun K7 hK7 => ?_
 refine Q1 _ (jf (e_ (I 0))) ?_
 refine PL.nil (hK7 _ _ ?_)
 refine A3 0 f0 1 f1 5 (e_ (I 0)) fun F f0 f1 f5 => ?_
 refine PC.block ?_
 obtain ⟨o10, ho10, h0⟩ := bs h0
 obtain ⟨B11, hB11, ho10⟩ := G.loop_some ho10
 refine PC.loop (fun m14 F H => ∃ s27 : Int, qw B11 m14 s27 = some o10 ∧ F 0 = (slI a0) ∧ F 1 = (slI a1) ∧ F 5 = (I s27)) (m := nn) ⟨0, ho10, f0, f1, f5⟩ fun m14 F H hI => ?_
 obtain ⟨x9, ho10, f0, f1, f5⟩ := hI
 obtain ⟨m14, rfl, st12, hs13, ho10⟩ := jw ho10
 rw [hB11] at hs13
 try dsimp only at hs13
 refine PC.seq fun K15 hK15 => ?_
 refine SR fun K16 hK16 => ?_
 refine Q1 _ (jb f5) ?_
 refine Q1 _ (jb f0) ?_
 refine Q1 (I (a0.length : Int)) (qg (rep := I) (xs := a0) ql (e_ (slI a0))) ?_
 refine Q1 _ (jh rfl (e_ (I x9)) (e_ (I (a0.length : Int))) jv) ?_
 refine PL.nil (hK16 _ _ ?_)
 refine A4 0 f0 1 f1 5 f5 14 (e_ (B (decide (x9 < (a0.length : Int))))) fun F f0 f1 f5 f14 => ?_
 rcases cz hs13 with ⟨hb17, hs13⟩ | ⟨hb17, hs13⟩
 refine PC.condTb f14 hb17 ?_
 refine PC.skip ?_
 refine hK15 _ _ ?_
 refine A3 0 f0 1 f1 5 f5 fun F f0 f1 f5 => ?_
 refine PC.seq fun K18 hK18 => ?_
 refine PC.block ?_
 refine PC.seq fun K19 hK19 => ?_
 refine PC.regionQ mixed (by kernel_rfl) ?_
 refine Q2 _ (jb f0) ?_
 refine Q2 _ (jb f5) ?_
 obtain ⟨x20, hx20, hs13⟩ := bs hs13
 refine Q2 (PV.rp (I x20).cells) (j1 (rep := I) (xs := a0) vk (e_ (slI a0)) (e_ (I x9)) hx20) ?_
 refine Q2 (I x20) (qr qz (e_ (PV.rp (I x20).cells))) ?_
 refine Q2 _ (jb f1) ?_
 refine Q2 _ (jb f5) ?_
 obtain ⟨x21, hx21, hs13⟩ := bs hs13
 refine Q2 (PV.rp (I x21).cells) (j1 (rep := I) (xs := a1) vk (e_ (slI a1)) (e_ (I x9)) hx21) ?_
 refine Q2 (I x21) (qr qz (e_ (PV.rp (I x21).cells))) ?_
 refine Q2 _ (jh rfl (e_ (I x20)) (e_ (I x21)) yc) ?_
 refine QF.nil ?_
 refine hK19 _ _ ?_
 refine A4 0 f0 1 f1 5 f5 25 (e_ (B (decide (¬ x20 = x21)))) fun F f0 f1 f5 f25 => ?_
 rcases cz hs13 with ⟨hb22, hs13⟩ | ⟨hb22, hs13⟩
 refine PC.condTb f25 hb22 ?_
 refine SR fun K23 hK23 => ?_
 refine Q1 _ (jf (e_ (B false))) ?_
 refine PL.nil (hK23 _ _ ?_)
 refine A1 4 (e_ (B false)) fun F f4 => ?_
 have hs13 := pz hs13
 subst hs13
 try dsimp only at ho10
 subst ho10
 try dsimp only at h0
 refine PC.ret ?_
 have h0 := pz h0
 subst h0
 exact fin (.inr rfl) (j9 Try.results16 f4) (.u _)
 refine PC.condFb f25 hb22 ?_
 refine PC.skip ?_
 refine hK18 _ _ ?_
 refine A3 0 f0 1 f1 5 f5 fun F f0 f1 f5 => ?_
 refine PC.region ?_
 refine Q1 _ (jb f5) ?_
 refine Q1 _ (jh rfl (e_ (I x9)) (e_ (I 1)) j3) ?_
 refine Q1 _ (jf (e_ (I (w64 (x9 + 1))))) ?_
 refine PL.nil ?_
 have hs13 := pz hs13
 subst hs13
 exact ⟨m14, Nat.lt_succ_self _, (w64 (x9 + 1)), ho10, f0, f1, (e_ (I (w64 (x9 + 1))))⟩
 refine PC.condFb f14 hb17 ?_
 refine PC.exit ?_
 have hs13 := pz hs13
 subst hs13
 try dsimp only at ho10
 subst ho10
 try dsimp only at h0
 refine hK6 _ _ ?_
 refine PC.absF (fun F => True) trivial ?_
 intro F hI
 clear hI
 refine SR fun K24 hK24 => ?_
 refine Q1 _ (jf (e_ (B true))) ?_
 refine PL.nil (hK24 _ _ ?_)
 refine A1 4 (e_ (B true)) fun F f4 => ?_
 refine PC.ret ?_
 have h0 := pz h0
 subst h0
 exact fin (.inr rfl) (j9 Try.results16 f4) (.u _)
def zat (a0 : (List (List Int))) (a1 : (List Int)) : G Int :=
  G.bind (G.loop (σ := Int) (α := Unit ⊕ Int) (fun x5 => G.cond (decide (x5 < (a0.length : Int))) (G.bind (G.lift (idx a0 x5)) fun x16 => G.bind (zg x16 a1) fun x17 => G.cond x17 (G.pure (.inr (.inr x5))) (G.pure (.inl (w64 (x5 + 1))))) (G.pure (.inr (.inl ())))) 0) fun o => match o with | .inl () => G.pure (-1) | .inr r22 => G.pure r22
theorem zf2 {nn : Nat} {a0 : (List (List Int))} {a1 : (List Int)} {r : Int} (h0 : zat a0 a1 nn = some r) : PCall Try.prog 39 [qk a0, slI a1] (· = I r) := by
 unfold zat at h0
 refine PCall.intro' Try.func39 rfl Try.ntmps39 (by simp) fun W => ?_
 refine A2 0 (e_ (qk a0)) 1 (e_ (slI a1)) fun F f0 f1 => ?_
 generalize PHeap.empty = H
 refine SR fun K1 hK1 => ?_
 refine Q1 _ (jf (e_ (I 0))) ?_
 refine PL.nil (hK1 _ _ ?_)
 refine A2 0 f0 1 f1 fun F f0 f1 => ?_
 refine PC.seq fun K2 hK2 => ?_
 refine SR fun K3 hK3 => ?_
 refine Q1 _ (jf (e_ (I 0))) ?_
 refine PL.nil (hK3 _ _ ?_)
 refine A3 0 f0 1 f1 5 (e_ (I 0)) fun F f0 f1 f5 => ?_
 refine PC.block ?_
 obtain ⟨o6, ho6, h0⟩ := bs h0
 obtain ⟨B7, hB7, ho6⟩ := G.loop_some ho6
 refine PC.loop (fun m10 F H => ∃ s23 : Int, qw B7 m10 s23 = some o6 ∧ F 0 = (qk a0) ∧ F 1 = (slI a1) ∧ F 5 = (I s23)) (m := nn) ⟨0, ho6, f0, f1, f5⟩ fun m10 F H hI => ?_
 obtain ⟨x5, ho6, f0, f1, f5⟩ := hI
 obtain ⟨m10, rfl, st8, hs9, ho6⟩ := jw ho6
 rw [hB7] at hs9
 try dsimp only at hs9
 refine PC.seq fun K11 hK11 => ?_
 refine SR fun K12 hK12 => ?_
 refine Q1 _ (jb f5) ?_
 refine Q1 _ (jb f0) ?_
 refine Q1 (I (a0.length : Int)) (qg (rep := slI) (xs := a0) vp (e_ (qk a0))) ?_
 refine Q1 _ (jh rfl (e_ (I x5)) (e_ (I (a0.length : Int))) jv) ?_
 refine PL.nil (hK12 _ _ ?_)
 refine A4 0 f0 1 f1 5 f5 9 (e_ (B (decide (x5 < (a0.length : Int))))) fun F f0 f1 f5 f9 => ?_
 rcases cz hs9 with ⟨hb13, hs9⟩ | ⟨hb13, hs9⟩
 refine PC.condTb f9 hb13 ?_
 refine PC.skip ?_
 refine hK11 _ _ ?_
 refine A3 0 f0 1 f1 5 f5 fun F f0 f1 f5 => ?_
 refine PC.seq fun K14 hK14 => ?_
 refine PC.block ?_
 refine SR fun K15 hK15 => ?_
 refine Q1 _ (jb f0) ?_
 refine Q1 _ (jb f5) ?_
 obtain ⟨x16, hx16, hs9⟩ := bs hs9
 refine Q1 (PV.rp (slI x16).cells) (j1 (rep := slI) (xs := a0) Jz (e_ (qk a0)) (e_ (I x5)) hx16) ?_
 refine Q1 (slI x16) (qr qh (e_ (PV.rp (slI x16).cells))) ?_
 refine Q1 _ (jb f1) ?_
 obtain ⟨x17, hx17, hs9⟩ := bs hs9
 refine Q3 (B x17) (j0 (by kernel_rfl) (am (e_ (slI x16)) (am (e_ (slI a1)) (am0))) (js (ye _) (js (ye _) (j2))) (zby hx17)) ?_
 refine PL.nil (hK15 _ _ ?_)
 refine A4 0 f0 1 f1 5 f5 17 (e_ (B x17)) fun F f0 f1 f5 f17 => ?_
 rcases cz hs9 with ⟨hb18, hs9⟩ | ⟨hb18, hs9⟩
 refine PC.condTb f17 hb18 ?_
 refine SR fun K19 hK19 => ?_
 refine Q1 _ (jb f5) ?_
 refine Q1 _ (jf (e_ (I x5))) ?_
 refine PL.nil (hK19 _ _ ?_)
 refine A1 4 (e_ (I x5)) fun F f4 => ?_
 have hs9 := pz hs9
 subst hs9
 try dsimp only at ho6
 subst ho6
 try dsimp only at h0
 refine PC.ret ?_
 have h0 := pz h0
 subst h0
 exact fin (.inr rfl) (j9 Try.results39 f4) (.u _)
 refine PC.condFb f17 hb18 ?_
 refine PC.skip ?_
 refine hK14 _ _ ?_
 refine A3 0 f0 1 f1 5 f5 fun F f0 f1 f5 => ?_
 refine PC.region ?_
 refine Q1 _ (jb f5) ?_
 refine Q1 _ (jh rfl (e_ (I x5)) (e_ (I 1)) j3) ?_
 refine Q1 _ (jf (e_ (I (w64 (x5 + 1))))) ?_
 refine PL.nil ?_
 have hs9 := pz hs9
 subst hs9
 exact ⟨m10, Nat.lt_succ_self _, (w64 (x5 + 1)), ho6, f0, f1, (e_ (I (w64 (x5 + 1))))⟩
 refine PC.condFb f9 hb13 ?_
 refine PC.exit ?_
 have hs9 := pz hs9
 subst hs9
 try dsimp only at ho6
 subst ho6
 try dsimp only at h0
 refine hK2 _ _ ?_
 refine PC.absF (fun F => True) trivial ?_
 intro F hI
 clear hI
 refine SR fun K20 hK20 => ?_
 refine Q1 _ (jf (e_ (I (-1)))) ?_
 refine PL.nil (hK20 _ _ ?_)
 refine A1 4 (e_ (I (-1))) fun F f4 => ?_
 refine PC.ret ?_
 have h0 := pz h0
 subst h0
 exact fin (.inr rfl) (j9 Try.results39 f4) (.u _)
def Z1 (a0 : jy) (a1 : (List Int)) : G Int :=
  G.bind (Js a0) fun x5 => G.cond (!x5) (G.pure (-1)) (G.bind (G.loop (σ := (Int × Int)) (α := Int) (fun (x12, x13) => G.cond (decide (x13 < (a1.length : Int))) (G.bind (α := Int) (G.bind (G.lift (idx a1 x13)) fun x26 => G.bind (G.cond (decide (0 ≤ x26)) (G.lift (idx a1 x13)) (G.pure 0)) fun x27 => G.bind (G.cond ((decide (0 ≤ x26)) && (decide (x27 < (a0.jm.length : Int)))) (G.lift (idx a1 x13)) (G.pure 0)) fun x28 => G.bind (G.cond ((decide (0 ≤ x26)) && (decide (x27 < (a0.jm.length : Int)))) (G.lift (idx a0.qv x28)) (G.pure false)) fun x29 => G.bind (G.cond ((((decide (0 ≤ x26)) && (decide (x27 < (a0.jm.length : Int)))) && x29) && (!(decide (x12 < 0)))) (G.lift (idx a1 x13)) (G.pure 0)) fun x30 => G.bind (G.cond ((((decide (0 ≤ x26)) && (decide (x27 < (a0.jm.length : Int)))) && x29) && (!(decide (x12 < 0)))) (G.lift (idx a0.yd x30)) (G.pure 0)) fun x31 => G.cond ((((decide (0 ≤ x26)) && (decide (x27 < (a0.jm.length : Int)))) && x29) && ((decide (x12 < 0)) || (decide (x31 < x12)))) (G.bind (G.lift (idx a1 x13)) fun x33 => G.bind (G.lift (idx a0.yd x33)) fun x34 => G.pure x34) (G.pure x12)) fun x24 => G.pure (.inl (x24, (w64 (x13 + 1))))) (G.pure (.inr x12))) ((-1), 0)) fun x37 => G.pure x37)
theorem zfe {nn : Nat} {a0 : jy} {a1 : (List Int)} {r : Int} (h0 : Z1 a0 a1 nn = some r) : PCall Try.prog 40 [jn a0, slI a1] (· = I r) := by
 unfold Z1 at h0
 refine PCall.intro' Try.func40 rfl Try.ntmps40 (by simp) fun W => ?_
 refine A2 0 (e_ (jn a0)) 1 (e_ (slI a1)) fun F f0 f1 => ?_
 generalize PHeap.empty = H
 refine SR fun K1 hK1 => ?_
 refine Q3 (PV.rp (jn a0).cells) (zk f0 (zw _ _)) ?_
 refine Q1 _ (jf (e_ (I 0))) ?_
 refine PL.nil (hK1 _ _ ?_)
 refine A2 1 f1 2 (e_ (PV.rp (jn a0).cells)) fun F f1 f2 => ?_
 refine SR fun K2 hK2 => ?_
 refine Q1 _ (jf (e_ (I (-1)))) ?_
 refine PL.nil (hK2 _ _ ?_)
 refine A3 1 f1 2 f2 5 (e_ (I (-1))) fun F f1 f2 f5 => ?_
 refine PC.seq fun K3 hK3 => ?_
 refine SR fun K4 hK4 => ?_
 refine Q1 (jn a0) (vw Qv f2 (yb _)) ?_
 obtain ⟨x5, hx5, h0⟩ := bs h0
 refine Q3 (B x5) (j0 (by kernel_rfl) (am (e_ (jn a0)) (am0)) (js (yl _) (j2)) (Qs hx5)) ?_
 refine Q1 (B (!x5)) (yn (e_ (B x5))) ?_
 refine PL.nil (hK4 _ _ ?_)
 refine A4 1 f1 2 f2 5 f5 9 (e_ (B (!x5))) fun F f1 f2 f5 f9 => ?_
 rcases cz h0 with ⟨hb6, h0⟩ | ⟨hb6, h0⟩
 refine PC.condTb f9 hb6 ?_
 refine SR fun K7 hK7 => ?_
 refine Q1 _ (jb f5) ?_
 refine Q1 _ (jf (e_ (I (-1)))) ?_
 refine PL.nil (hK7 _ _ ?_)
 refine A1 4 (e_ (I (-1))) fun F f4 => ?_
 refine PC.ret ?_
 have h0 := pz h0
 subst h0
 exact fin (.inr rfl) (j9 Try.results40 f4) (.u _)
 refine PC.condFb f9 hb6 ?_
 refine PC.skip ?_
 refine hK3 _ _ ?_
 refine A3 1 f1 2 f2 5 f5 fun F f1 f2 f5 => ?_
 refine PC.seq fun K8 hK8 => ?_
 refine SR fun K9 hK9 => ?_
 refine Q1 _ (jf (e_ (I 0))) ?_
 refine PL.nil (hK9 _ _ ?_)
 refine A4 1 f1 2 f2 5 f5 6 (e_ (I 0)) fun F f1 f2 f5 f6 => ?_
 refine PC.block ?_
 obtain ⟨o14, ho14, h0⟩ := bs h0
 obtain ⟨B15, hB15, ho14⟩ := G.loop_some ho14
 refine PC.loop (fun m18 F H => ∃ s39 : (Int × Int), qw B15 m18 s39 = some o14 ∧ F 1 = (slI a1) ∧ F 2 = (PV.rp (jn a0).cells) ∧ F 5 = (I s39.1) ∧ F 6 = (I s39.2)) (m := nn) ⟨((-1), 0), ho14, f1, f2, f5, f6⟩ fun m18 F H hI => ?_
 obtain ⟨⟨x12, x13⟩, ho14, f1, f2, f5, f6⟩ := hI
 obtain ⟨m18, rfl, st16, hs17, ho14⟩ := jw ho14
 rw [hB15] at hs17
 try dsimp only at hs17
 refine PC.seq fun K19 hK19 => ?_
 refine SR fun K20 hK20 => ?_
 refine Q1 _ (jb f6) ?_
 refine Q1 _ (jb f1) ?_
 refine Q1 (I (a1.length : Int)) (qg (rep := I) (xs := a1) ql (e_ (slI a1))) ?_
 refine Q1 _ (jh rfl (e_ (I x13)) (e_ (I (a1.length : Int))) jv) ?_
 refine PL.nil (hK20 _ _ ?_)
 refine A5 1 f1 2 f2 5 f5 6 f6 14 (e_ (B (decide (x13 < (a1.length : Int))))) fun F f1 f2 f5 f6 f14 => ?_
 rcases cz hs17 with ⟨hb21, hs17⟩ | ⟨hb21, hs17⟩
 refine PC.condTb f14 hb21 ?_
 refine PC.skip ?_
 refine hK19 _ _ ?_
 refine A4 1 f1 2 f2 5 f5 6 f6 fun F f1 f2 f5 f6 => ?_
 obtain ⟨o23, ho23, hs17⟩ := bs hs17
 refine PC.seqM (fun F H => ∃ s35 : Int, o23 = s35 ∧ F 1 = (slI a1) ∧ F 2 = (PV.rp (jn a0).cells) ∧ F 5 = (I s35) ∧ F 6 = (I x13)) ?_ ?_
 refine PC.block ?_
 refine PC.seq fun K25 hK25 => ?_
 refine PC.regionQ mixed (by kernel_rfl) ?_
 refine Q2 _ (jb f1) ?_
 refine Q2 _ (jb f6) ?_
 obtain ⟨x26, hx26, ho23⟩ := bs ho23
 refine Q2 (PV.rp (I x26).cells) (j1 (rep := I) (xs := a1) vk (e_ (slI a1)) (e_ (I x13)) hx26) ?_
 refine Q2 (I x26) (qr qz (e_ (PV.rp (I x26).cells))) ?_
 refine Q2 _ (jh rfl (e_ (I x26)) (e_ (I 0)) vr) ?_
 refine Q2 _ (jb (e_ (B (decide (0 ≤ x26))))) ?_
 refine HT (slI a1) rfl (e_ (B (decide (0 ≤ x26)))) (fun hb => jb f1) ?_
 refine HT (I x13) rfl (e_ (B (decide (0 ≤ x26)))) (fun hb => jb f6) ?_
 obtain ⟨x27, hx27, ho23⟩ := bs ho23
 refine HT (PV.rp (I x27).cells) rfl (e_ (B (decide (0 ≤ x26)))) (fun hb => j1 (rep := I) (xs := a1) vk (gvp hb (e_ (gv (decide (0 ≤ x26)) (slI a1)))) (gvp hb (e_ (gv (decide (0 ≤ x26)) (I x13)))) (G.cond_pos hx27 hb)) ?_
 refine HT (I x27) rfl (e_ (B (decide (0 ≤ x26)))) (fun hb => qr qz (gvp hb (e_ (gv (decide (0 ≤ x26)) (PV.rp (I x27).cells))))) ?_
 refine HT (PV.rp ((jn a0).cells.drop 0)) rfl (e_ (B (decide (0 ≤ x26)))) (fun hb => j8 Jd y4 (by decide) f2) ?_
 refine HT (jg a0.jm) rfl (e_ (B (decide (0 ≤ x26)))) (fun hb => jx y4 (gvp hb (e_ (gv (decide (0 ≤ x26)) (PV.rp ((jn a0).cells.drop 0))))) (yp a0)) ?_
 refine HT (I (a0.jm.length : Int)) rfl (e_ (B (decide (0 ≤ x26)))) (fun hb => qg (rep := (arV (n := 4) (iK .u64))) (xs := a0.jm) zd (gvp hb (e_ (gv (decide (0 ≤ x26)) (jg a0.jm))))) ?_
 refine HT (B (decide (x27 < (a0.jm.length : Int)))) rfl (e_ (B (decide (0 ≤ x26)))) (fun hb => jh rfl (gvp hb (e_ (gv (decide (0 ≤ x26)) (I x27)))) (gvp hb (e_ (gv (decide (0 ≤ x26)) (I (a0.jm.length : Int))))) jv) ?_
 refine Q2 (B ((decide (0 ≤ x26)) && (decide (x27 < (a0.jm.length : Int))))) (vt (e_ (B (decide (0 ≤ x26)))) (e_ (gv (decide (0 ≤ x26)) (B (decide (x27 < (a0.jm.length : Int)))))) rfl) ?_
 refine Q2 _ (jb (e_ (B ((decide (0 ≤ x26)) && (decide (x27 < (a0.jm.length : Int))))))) ?_
 refine HT (PV.rp ((jn a0).cells.drop 2)) rfl (e_ (B ((decide (0 ≤ x26)) && (decide (x27 < (a0.jm.length : Int)))))) (fun hb => j8 zdv zca (by decide) f2) ?_
 refine HT (slB a0.qv) rfl (e_ (B ((decide (0 ≤ x26)) && (decide (x27 < (a0.jm.length : Int)))))) (fun hb => jx zca (gvp hb (e_ (gv ((decide (0 ≤ x26)) && (decide (x27 < (a0.jm.length : Int)))) (PV.rp ((jn a0).cells.drop 2))))) (zcr a0)) ?_
 refine HT (slI a1) rfl (e_ (B ((decide (0 ≤ x26)) && (decide (x27 < (a0.jm.length : Int)))))) (fun hb => jb f1) ?_
 refine HT (I x13) rfl (e_ (B ((decide (0 ≤ x26)) && (decide (x27 < (a0.jm.length : Int)))))) (fun hb => jb f6) ?_
 obtain ⟨x28, hx28, ho23⟩ := bs ho23
 refine HT (PV.rp (I x28).cells) rfl (e_ (B ((decide (0 ≤ x26)) && (decide (x27 < (a0.jm.length : Int)))))) (fun hb => j1 (rep := I) (xs := a1) vk (gvp hb (e_ (gv ((decide (0 ≤ x26)) && (decide (x27 < (a0.jm.length : Int)))) (slI a1)))) (gvp hb (e_ (gv ((decide (0 ≤ x26)) && (decide (x27 < (a0.jm.length : Int)))) (I x13)))) (G.cond_pos hx28 hb)) ?_
 refine HT (I x28) rfl (e_ (B ((decide (0 ≤ x26)) && (decide (x27 < (a0.jm.length : Int)))))) (fun hb => qr qz (gvp hb (e_ (gv ((decide (0 ≤ x26)) && (decide (x27 < (a0.jm.length : Int)))) (PV.rp (I x28).cells))))) ?_
 obtain ⟨x29, hx29, ho23⟩ := bs ho23
 refine HT (PV.rp (B x29).cells) rfl (e_ (B ((decide (0 ≤ x26)) && (decide (x27 < (a0.jm.length : Int)))))) (fun hb => j1 (rep := B) (xs := a0.qv) Zz (gvp hb (e_ (gv ((decide (0 ≤ x26)) && (decide (x27 < (a0.jm.length : Int)))) (slB a0.qv)))) (gvp hb (e_ (gv ((decide (0 ≤ x26)) && (decide (x27 < (a0.jm.length : Int)))) (I x28)))) (G.cond_pos hx29 hb)) ?_
 refine HT (B x29) rfl (e_ (B ((decide (0 ≤ x26)) && (decide (x27 < (a0.jm.length : Int)))))) (fun hb => qr zc0 (gvp hb (e_ (gv ((decide (0 ≤ x26)) && (decide (x27 < (a0.jm.length : Int)))) (PV.rp (B x29).cells))))) ?_
 refine Q2 (B (((decide (0 ≤ x26)) && (decide (x27 < (a0.jm.length : Int)))) && x29)) (vt (e_ (B ((decide (0 ≤ x26)) && (decide (x27 < (a0.jm.length : Int)))))) (e_ (gv ((decide (0 ≤ x26)) && (decide (x27 < (a0.jm.length : Int)))) (B x29))) rfl) ?_
 refine Q2 _ (jb (e_ (B (((decide (0 ≤ x26)) && (decide (x27 < (a0.jm.length : Int)))) && x29)))) ?_
 refine HT (I x12) rfl (e_ (B (((decide (0 ≤ x26)) && (decide (x27 < (a0.jm.length : Int)))) && x29))) (fun hb => jb f5) ?_
 refine HT (B (decide (x12 < 0))) rfl (e_ (B (((decide (0 ≤ x26)) && (decide (x27 < (a0.jm.length : Int)))) && x29))) (fun hb => jh rfl (gvp hb (e_ (gv (((decide (0 ≤ x26)) && (decide (x27 < (a0.jm.length : Int)))) && x29) (I x12)))) (e_ (I 0)) jv) ?_
 refine HT (B (decide (x12 < 0))) rfl (e_ (B (((decide (0 ≤ x26)) && (decide (x27 < (a0.jm.length : Int)))) && x29))) (fun hb => jb (gvp hb (e_ (gv (((decide (0 ≤ x26)) && (decide (x27 < (a0.jm.length : Int)))) && x29) (B (decide (x12 < 0))))))) ?_
 refine QF.gq (p := (PV.rp ((jn a0).cells.drop 1))) (c := (((decide (0 ≤ x26)) && (decide (x27 < (a0.jm.length : Int)))) && x29)) (c' := ((((decide (0 ≤ x26)) && (decide (x27 < (a0.jm.length : Int)))) && x29) && (!(decide (x12 < 0))))) rfl rfl (e_ (gv (((decide (0 ≤ x26)) && (decide (x27 < (a0.jm.length : Int)))) && x29) (B (decide (x12 < 0))))) (zm _ _) (j4 (by decide)) (fun hb => ju (j8 zac qh (by decide) f2)) ?_
 refine QF.gq (p := (slI a0.yd)) (c := (((decide (0 ≤ x26)) && (decide (x27 < (a0.jm.length : Int)))) && x29)) (c' := ((((decide (0 ≤ x26)) && (decide (x27 < (a0.jm.length : Int)))) && x29) && (!(decide (x12 < 0))))) rfl rfl (e_ (gv (((decide (0 ≤ x26)) && (decide (x27 < (a0.jm.length : Int)))) && x29) (B (decide (x12 < 0))))) (zm _ _) (j4 (by decide)) (fun hb => ju (jx qh (gvp hb (e_ (gv ((((decide (0 ≤ x26)) && (decide (x27 < (a0.jm.length : Int)))) && x29) && (!(decide (x12 < 0)))) (PV.rp ((jn a0).cells.drop 1))))) (V3 a0))) ?_
 refine QF.gq (p := (slI a1)) (c := (((decide (0 ≤ x26)) && (decide (x27 < (a0.jm.length : Int)))) && x29)) (c' := ((((decide (0 ≤ x26)) && (decide (x27 < (a0.jm.length : Int)))) && x29) && (!(decide (x12 < 0))))) rfl rfl (e_ (gv (((decide (0 ≤ x26)) && (decide (x27 < (a0.jm.length : Int)))) && x29) (B (decide (x12 < 0))))) (zm _ _) (j4 (by decide)) (fun hb => ju (jb f1)) ?_
 refine QF.gq (p := (I x13)) (c := (((decide (0 ≤ x26)) && (decide (x27 < (a0.jm.length : Int)))) && x29)) (c' := ((((decide (0 ≤ x26)) && (decide (x27 < (a0.jm.length : Int)))) && x29) && (!(decide (x12 < 0))))) rfl rfl (e_ (gv (((decide (0 ≤ x26)) && (decide (x27 < (a0.jm.length : Int)))) && x29) (B (decide (x12 < 0))))) (zm _ _) (j4 (by decide)) (fun hb => ju (jb f6)) ?_
 obtain ⟨x30, hx30, ho23⟩ := bs ho23
 refine QF.gq (p := (PV.rp (I x30).cells)) (c := (((decide (0 ≤ x26)) && (decide (x27 < (a0.jm.length : Int)))) && x29)) (c' := ((((decide (0 ≤ x26)) && (decide (x27 < (a0.jm.length : Int)))) && x29) && (!(decide (x12 < 0))))) rfl rfl (e_ (gv (((decide (0 ≤ x26)) && (decide (x27 < (a0.jm.length : Int)))) && x29) (B (decide (x12 < 0))))) (zm _ _) (j4 (by decide)) (fun hb => ju (j1 (rep := I) (xs := a1) vk (gvp hb (e_ (gv ((((decide (0 ≤ x26)) && (decide (x27 < (a0.jm.length : Int)))) && x29) && (!(decide (x12 < 0)))) (slI a1)))) (gvp hb (e_ (gv ((((decide (0 ≤ x26)) && (decide (x27 < (a0.jm.length : Int)))) && x29) && (!(decide (x12 < 0)))) (I x13)))) (G.cond_pos hx30 hb))) ?_
 refine QF.gq (p := (I x30)) (c := (((decide (0 ≤ x26)) && (decide (x27 < (a0.jm.length : Int)))) && x29)) (c' := ((((decide (0 ≤ x26)) && (decide (x27 < (a0.jm.length : Int)))) && x29) && (!(decide (x12 < 0))))) rfl rfl (e_ (gv (((decide (0 ≤ x26)) && (decide (x27 < (a0.jm.length : Int)))) && x29) (B (decide (x12 < 0))))) (zm _ _) (j4 (by decide)) (fun hb => ju (qr qz (gvp hb (e_ (gv ((((decide (0 ≤ x26)) && (decide (x27 < (a0.jm.length : Int)))) && x29) && (!(decide (x12 < 0)))) (PV.rp (I x30).cells)))))) ?_
 obtain ⟨x31, hx31, ho23⟩ := bs ho23
 refine QF.gq (p := (PV.rp (I x31).cells)) (c := (((decide (0 ≤ x26)) && (decide (x27 < (a0.jm.length : Int)))) && x29)) (c' := ((((decide (0 ≤ x26)) && (decide (x27 < (a0.jm.length : Int)))) && x29) && (!(decide (x12 < 0))))) rfl rfl (e_ (gv (((decide (0 ≤ x26)) && (decide (x27 < (a0.jm.length : Int)))) && x29) (B (decide (x12 < 0))))) (zm _ _) (j4 (by decide)) (fun hb => ju (j1 (rep := I) (xs := a0.yd) vk (gvp hb (e_ (gv ((((decide (0 ≤ x26)) && (decide (x27 < (a0.jm.length : Int)))) && x29) && (!(decide (x12 < 0)))) (slI a0.yd)))) (gvp hb (e_ (gv ((((decide (0 ≤ x26)) && (decide (x27 < (a0.jm.length : Int)))) && x29) && (!(decide (x12 < 0)))) (I x30)))) (G.cond_pos hx31 hb))) ?_
 refine QF.gq (p := (I x31)) (c := (((decide (0 ≤ x26)) && (decide (x27 < (a0.jm.length : Int)))) && x29)) (c' := ((((decide (0 ≤ x26)) && (decide (x27 < (a0.jm.length : Int)))) && x29) && (!(decide (x12 < 0))))) rfl rfl (e_ (gv (((decide (0 ≤ x26)) && (decide (x27 < (a0.jm.length : Int)))) && x29) (B (decide (x12 < 0))))) (zm _ _) (j4 (by decide)) (fun hb => ju (qr qz (gvp hb (e_ (gv ((((decide (0 ≤ x26)) && (decide (x27 < (a0.jm.length : Int)))) && x29) && (!(decide (x12 < 0)))) (PV.rp (I x31).cells)))))) ?_
 refine QF.gq (p := (I x12)) (c := (((decide (0 ≤ x26)) && (decide (x27 < (a0.jm.length : Int)))) && x29)) (c' := ((((decide (0 ≤ x26)) && (decide (x27 < (a0.jm.length : Int)))) && x29) && (!(decide (x12 < 0))))) rfl rfl (e_ (gv (((decide (0 ≤ x26)) && (decide (x27 < (a0.jm.length : Int)))) && x29) (B (decide (x12 < 0))))) (zm _ _) (j4 (by decide)) (fun hb => ju (jb f5)) ?_
 refine QF.gq (p := (B (decide (x31 < x12)))) (c := (((decide (0 ≤ x26)) && (decide (x27 < (a0.jm.length : Int)))) && x29)) (c' := ((((decide (0 ≤ x26)) && (decide (x27 < (a0.jm.length : Int)))) && x29) && (!(decide (x12 < 0))))) rfl rfl (e_ (gv (((decide (0 ≤ x26)) && (decide (x27 < (a0.jm.length : Int)))) && x29) (B (decide (x12 < 0))))) (zm _ _) (j4 (by decide)) (fun hb => ju (jh rfl (gvp hb (e_ (gv ((((decide (0 ≤ x26)) && (decide (x27 < (a0.jm.length : Int)))) && x29) && (!(decide (x12 < 0)))) (I x31)))) (gvp hb (e_ (gv ((((decide (0 ≤ x26)) && (decide (x27 < (a0.jm.length : Int)))) && x29) && (!(decide (x12 < 0)))) (I x12)))) jv)) ?_
 refine HT (B ((decide (x12 < 0)) || (decide (x31 < x12)))) rfl (e_ (B (((decide (0 ≤ x26)) && (decide (x27 < (a0.jm.length : Int)))) && x29))) (fun hb => zgs hb (gvp hb (e_ (gv (((decide (0 ≤ x26)) && (decide (x27 < (a0.jm.length : Int)))) && x29) (B (decide (x12 < 0)))))) rfl (e_ (gv ((((decide (0 ≤ x26)) && (decide (x27 < (a0.jm.length : Int)))) && x29) && (!(decide (x12 < 0)))) (B (decide (x31 < x12)))))) ?_
 refine Q2 (B ((((decide (0 ≤ x26)) && (decide (x27 < (a0.jm.length : Int)))) && x29) && ((decide (x12 < 0)) || (decide (x31 < x12))))) (vt (e_ (B (((decide (0 ≤ x26)) && (decide (x27 < (a0.jm.length : Int)))) && x29))) (e_ (gv (((decide (0 ≤ x26)) && (decide (x27 < (a0.jm.length : Int)))) && x29) (B ((decide (x12 < 0)) || (decide (x31 < x12)))))) rfl) ?_
 refine QF.nil ?_
 refine hK25 _ _ ?_
 refine A5 1 f1 2 f2 5 f5 6 f6 57 (e_ (B ((((decide (0 ≤ x26)) && (decide (x27 < (a0.jm.length : Int)))) && x29) && ((decide (x12 < 0)) || (decide (x31 < x12)))))) fun F f1 f2 f5 f6 f57 => ?_
 rcases cz ho23 with ⟨hb32, ho23⟩ | ⟨hb32, ho23⟩
 refine PC.condTb f57 hb32 ?_
 refine PC.regionQ mixed (by kernel_rfl) ?_
 refine Q2 (PV.rp ((jn a0).cells.drop 1)) (j8 zac qh (by decide) f2) ?_
 refine Q2 (slI a0.yd) (jx qh (e_ (PV.rp ((jn a0).cells.drop 1))) (V3 a0)) ?_
 refine Q2 _ (jb f1) ?_
 refine Q2 _ (jb f6) ?_
 obtain ⟨x33, hx33, ho23⟩ := bs ho23
 refine Q2 (PV.rp (I x33).cells) (j1 (rep := I) (xs := a1) vk (e_ (slI a1)) (e_ (I x13)) hx33) ?_
 refine Q2 (I x33) (qr qz (e_ (PV.rp (I x33).cells))) ?_
 obtain ⟨x34, hx34, ho23⟩ := bs ho23
 refine Q2 (PV.rp (I x34).cells) (j1 (rep := I) (xs := a0.yd) vk (e_ (slI a0.yd)) (e_ (I x33)) hx34) ?_
 refine Q2 (I x34) (qr qz (e_ (PV.rp (I x34).cells))) ?_
 refine Q2 _ (jf (e_ (I x34))) ?_
 refine QF.nil ?_
 have ho23 := pz ho23
 subst ho23
 exact ⟨x34, rfl, f1, f2, (e_ (I x34)), f6⟩
 refine PC.condFb f57 hb32 ?_
 refine PC.skip ?_
 have ho23 := pz ho23
 subst ho23
 exact ⟨x12, rfl, f1, f2, f5, f6⟩
 intro F H hI
 obtain ⟨x24, ho, f1, f2, f5, f6⟩ := hI
 have ho := ho.symm
 subst ho
 try dsimp only at hs17
 refine PC.region ?_
 refine Q1 _ (jb f6) ?_
 refine Q1 _ (jh rfl (e_ (I x13)) (e_ (I 1)) j3) ?_
 refine Q1 _ (jf (e_ (I (w64 (x13 + 1))))) ?_
 refine PL.nil ?_
 have hs17 := pz hs17
 subst hs17
 exact ⟨m18, Nat.lt_succ_self _, (x24, (w64 (x13 + 1))), ho14, f1, f2, f5, (e_ (I (w64 (x13 + 1))))⟩
 refine PC.condFb f14 hb21 ?_
 refine PC.exit ?_
 have hs17 := pz hs17
 subst hs17
 try dsimp only at ho14
 subst ho14
 try dsimp only at h0
 refine hK8 _ _ ?_
 refine A1 5 f5 fun F f5 => ?_
 refine SR fun K36 hK36 => ?_
 refine Q1 _ (jb f5) ?_
 refine Q1 _ (jf (e_ (I x12))) ?_
 refine PL.nil (hK36 _ _ ?_)
 refine A1 4 (e_ (I x12)) fun F f4 => ?_
 refine PC.ret ?_
 have h0 := pz h0
 subst h0
 exact fin (.inr rfl) (j9 Try.results40 f4) (.u _)
def Z5 (a0 : jy) (a1 : Int) : G (jd × Int × Int) :=
  G.bind (Js a0) fun x6 => G.cond (!x6) (G.pure ((⟨((⟨(arZ 256 0), 0, [], []⟩ : jd).jp), ((⟨(arZ 256 0), 0, [], []⟩ : jd).ji), ((⟨(arZ 256 0), 0, [], []⟩ : jd).je), ((⟨(arZ 256 0), 0, [], []⟩ : jd).jl)⟩ : jd), 0, 3)) (G.cond ((decide (a1 < 1)) || (decide (4096 < a1))) (G.pure ((⟨((⟨(arZ 256 0), 0, [], []⟩ : jd).jp), ((⟨(arZ 256 0), 0, [], []⟩ : jd).ji), ((⟨(arZ 256 0), 0, [], []⟩ : jd).je), ((⟨(arZ 256 0), 0, [], []⟩ : jd).jl)⟩ : jd), 0, 2)) (G.bind (zdc a0.jm) fun x19 => G.bind (G.loop (σ := (Int × (List (List Int)) × (List (List Int)) × (List Int))) (α := ((List (List Int)) × (List (List Int)) × (List Int)) ⊕ (jd × Int × Int)) (fun (x40, x41, x43, x45) => G.cond (decide (x40 < (x41.length : Int))) (G.bind (G.loop (σ := (Int × (List (List Int)) × (List Int))) (α := ((List (List Int)) × (List Int)) ⊕ (jd × Int × Int)) (fun (x76, x77, x79) => G.cond (decide (x76 < x19.2)) (G.bind (Vs x19.1 x76) fun x91 => G.bind (G.lift (idx x91 0)) fun x92 => G.bind (G.lift (idx x77 x40)) fun x94 => G.bind (Yl a0 x94 x92) fun x95 => G.bind (α := (List Int)) (G.cond (decide (x40 = 0)) (G.bind (V4 a0 x92) fun x125 => G.pure x125) (G.pure x95)) fun x98 => G.bind (zat x77 x98) fun x100 => G.bind (α := (Int × (List (List Int)))) (G.cond (decide ((x98.length : Int) = 0)) (G.pure ((-1), x77)) (G.cond (decide (x100 < 0)) (G.bind (G.lift (app 24 x77 ([x98] : List (List Int)))) fun x119 => G.pure ((x77.length : Int), x119)) (G.pure (x100, x77)))) fun (x103, x104) => G.cond (decide (a1 < (x104.length : Int))) (G.pure (.inr (.inr ((⟨((⟨(arZ 256 0), 0, [], []⟩ : jd).jp), ((⟨(arZ 256 0), 0, [], []⟩ : jd).ji), ((⟨(arZ 256 0), 0, [], []⟩ : jd).je), ((⟨(arZ 256 0), 0, [], []⟩ : jd).jl)⟩ : jd), 0, 16)))) (G.bind (G.lift (app 8 x79 ([x103] : List Int))) fun x111 => G.pure (.inl ((w64 (x76 + 1)), x104, x111)))) (G.pure (.inr (.inl (x77, x79))))) (0, x41, [])) fun o => match o with | .inl (x139, x141) => G.bind (G.lift (app 24 x43 ([x141] : List (List Int)))) fun x145 => G.bind (G.lift (idx x139 x40)) fun x149 => G.bind (Z1 a0 x149) fun x150 => G.bind (G.lift (app 8 x45 ([x150] : List Int))) fun x151 => G.pure (.inl ((w64 (x40 + 1)), x139, x145, x151)) | .inr r155 => G.pure (.inr (.inr r155))) (G.pure (.inr (.inl (x41, x43, x45))))) (0, [([] : List Int)], [], [])) fun o => match o with | .inl (x161, x163, x165) => G.pure ((⟨((⟨x19.1, x19.2, x163, x165⟩ : jd).jp), ((⟨x19.1, x19.2, x163, x165⟩ : jd).ji), ((⟨x19.1, x19.2, x163, x165⟩ : jd).je), ((⟨x19.1, x19.2, x163, x165⟩ : jd).jl)⟩ : jd), (x161.length : Int), 0) | .inr r171 => G.pure r171))
theorem zfa {nn : Nat} {a0 : jy} {a1 : Int} {r : (jd × Int × Int)} (h0 : Z5 a0 a1 nn = some r) : PCall Try.prog 26 [jn a0, I a1] (· = PV.tup [jc r.1, I r.2.1, I r.2.2]) := by
 unfold Z5 at h0
 refine PCall.intro' Try.func26 rfl Try.ntmps26 (by simp) fun W => ?_
 refine A2 0 (e_ (jn a0)) 1 (e_ (I a1)) fun F f0 f1 => ?_
 generalize PHeap.empty = H
 refine SR fun K1 hK1 => ?_
 refine Q3 (PV.rp (jn a0).cells) (zk f0 (zw _ _)) ?_
 refine PL.allocA 204 (cs := (((arV (n := 256) U8) (arZ 256 0)).cells ++ [(I 0), (PV.u (.slice none 0 0)), (PV.u (.slice none 0 0))])) rfl rfl rfl (by decide) Y8 (by kernel_rfl) (by kernel_rfl) fun v204 H b204 fz2 => ?_
 refine PL.recell (cs' := (((arV (n := 256) U8) (arZ 256 0)).cells ++ [(I 0), (qk []), (slI [])])) b204 (WeakL.app (WeakL.refl _) (WeakL.cons (Weak.refl _) (WeakL.cons (Weak.nil _) (WeakL.cons (Weak.nil _) (WeakL.nil))))) fun H b204 fz3 => ?_
 refine Q1 _ (jf (e_ (I 0))) ?_
 refine Q1 _ (jf (e_ (I 0))) ?_
 refine PL.nil (hK1 _ _ ?_)
 refine A3 1 f1 2 (e_ (PV.rp (jn a0).cells)) 4 (e_ (PV.pp 204 0 v204)) fun F f1 f2 f4 => ?_
 refine PC.seq fun K4 hK4 => ?_
 refine SR fun K5 hK5 => ?_
 refine Q1 (jn a0) (vw Qv f2 (yb _)) ?_
 obtain ⟨x6, hx6, h0⟩ := bs h0
 refine Q3 (B x6) (j0 (by kernel_rfl) (am (e_ (jn a0)) (am0)) (js (yl _) (j2)) (Qs hx6)) ?_
 refine Q1 (B (!x6)) (yn (e_ (B x6))) ?_
 refine PL.nil (hK5 _ _ ?_)
 refine A4 1 f1 2 f2 4 f4 17 (e_ (B (!x6))) fun F f1 f2 f4 f17 => ?_
 rcases cz h0 with ⟨hb7, h0⟩ | ⟨hb7, h0⟩
 refine PC.condTb f17 hb7 ?_
 refine SR fun K8 hK8 => ?_
 refine Q3 (jc (⟨(arZ 256 0), 0, [], []⟩ : jd)) (zlv (p := (PV.agg (((arV (n := 256) U8) (arZ 256 0)).cells ++ [(I 0), (PV.u (.slice none 0 0)), (PV.u (.slice none 0 0))]))) (bm0) (by kernel_rfl) (Weak.agg (WeakL.app (WeakL.refl _) (WeakL.cons (Weak.refl _) (WeakL.cons (Weak.nil _) (WeakL.cons (Weak.nil _) (WeakL.nil))))))) ?_
 refine PL.storeA (ag := true) (cs' := (((arV (n := 256) U8) ((⟨(arZ 256 0), 0, [], []⟩ : jd).jp)).cells ++ [(I ((⟨(arZ 256 0), 0, [], []⟩ : jd).ji)), (qk ((⟨(arZ 256 0), 0, [], []⟩ : jd).je)), (slI ((⟨(arZ 256 0), 0, [], []⟩ : jd).jl))])) (ps := (((arV (n := 256) U8) ((⟨(arZ 256 0), 0, [], []⟩ : jd).jp)).cells ++ [(I ((⟨(arZ 256 0), 0, [], []⟩ : jd).ji)), (qk ((⟨(arZ 256 0), 0, [], []⟩ : jd).je)), (slI ((⟨(arZ 256 0), 0, [], []⟩ : jd).jl))])) rfl rfl (fun _ h => by cases h) f4 b204 v7 (e_ (jc (⟨(arZ 256 0), 0, [], []⟩ : jd))) (qt _ _) rfl (qb (jj _ _ (fun _ => rfl)) rfl) (by rw [(qb (jj _ _ (fun _ => rfl)) rfl)]; exact Nat.le_of_ble_eq_true rfl) (vz (N := 256 + (3)) (qb (jj _ _ (fun _ => rfl)) rfl) (qb (jj _ _ (fun _ => rfl)) rfl)) fun H b204 fz9 => ?_
 refine Q1 _ (jf (e_ (I 0))) ?_
 refine Q1 _ (jf (e_ (I 3))) ?_
 refine PL.nil (hK8 _ _ ?_)
 refine A3 4 f4 5 (e_ (I 0)) 6 (e_ (I 3)) fun F f4 f5 f6 => ?_
 refine PC.ret ?_
 have h0 := pz h0
 subst h0
 exact fin (p0 := PV.tup [(jc (⟨((⟨(arZ 256 0), 0, [], []⟩ : jd).jp), ((⟨(arZ 256 0), 0, [], []⟩ : jd).ji), ((⟨(arZ 256 0), 0, [], []⟩ : jd).je), ((⟨(arZ 256 0), 0, [], []⟩ : jd).jl)⟩ : jd)), (I 0), (I 3)]) (.inr rfl) (Yq (rs := [.cell 4 26, .tmp 5, .tmp 6]) Try.results26 (by decide) (rlc (zf v7 f4 b204 (yo (qe (⟨((⟨(arZ 256 0), 0, [], []⟩ : jd).jp), ((⟨(arZ 256 0), 0, [], []⟩ : jd).ji), ((⟨(arZ 256 0), 0, [], []⟩ : jd).je), ((⟨(arZ 256 0), 0, [], []⟩ : jd).jl)⟩ : jd)))) (rlc (Jy f5) (rlc (Jy f6) (rl0))))) (.tup _ (js (qa _) (js (.u _) (js (.u _) (j2)))))
 refine PC.condFb f17 hb7 ?_
 refine PC.skip ?_
 refine hK4 _ _ ?_
 refine A3 1 f1 2 f2 4 f4 fun F f1 f2 f4 => ?_
 refine PC.seq fun K10 hK10 => ?_
 refine SR fun K11 hK11 => ?_
 refine Q1 _ (jb f1) ?_
 refine Q1 _ (jh rfl (e_ (I a1)) (e_ (I 1)) jv) ?_
 refine Q1 _ (jb (e_ (B (decide (a1 < 1))))) ?_
 refine GF (I a1) rfl (e_ (B (decide (a1 < 1)))) (fun hb => jb f1) ?_
 refine GF (B (decide (4096 < a1))) rfl (e_ (B (decide (a1 < 1)))) (fun hb => jh rfl (gvp hb (e_ (gv (!(decide (a1 < 1))) (I a1)))) (e_ (I 4096)) J4) ?_
 refine Q1 (B ((decide (a1 < 1)) || (decide (4096 < a1)))) (yf (e_ (B (decide (a1 < 1)))) rfl (e_ (gv (!(decide (a1 < 1))) (B (decide (4096 < a1)))))) ?_
 refine PL.nil (hK11 _ _ ?_)
 refine A4 1 f1 2 f2 4 f4 24 (e_ (B ((decide (a1 < 1)) || (decide (4096 < a1))))) fun F f1 f2 f4 f24 => ?_
 rcases cz h0 with ⟨hb12, h0⟩ | ⟨hb12, h0⟩
 refine PC.condTb f24 hb12 ?_
 refine SR fun K13 hK13 => ?_
 refine Q3 (jc (⟨(arZ 256 0), 0, [], []⟩ : jd)) (zlv (p := (PV.agg (((arV (n := 256) U8) (arZ 256 0)).cells ++ [(I 0), (PV.u (.slice none 0 0)), (PV.u (.slice none 0 0))]))) (bm0) (by kernel_rfl) (Weak.agg (WeakL.app (WeakL.refl _) (WeakL.cons (Weak.refl _) (WeakL.cons (Weak.nil _) (WeakL.cons (Weak.nil _) (WeakL.nil))))))) ?_
 refine PL.storeA (ag := true) (cs' := (((arV (n := 256) U8) ((⟨(arZ 256 0), 0, [], []⟩ : jd).jp)).cells ++ [(I ((⟨(arZ 256 0), 0, [], []⟩ : jd).ji)), (qk ((⟨(arZ 256 0), 0, [], []⟩ : jd).je)), (slI ((⟨(arZ 256 0), 0, [], []⟩ : jd).jl))])) (ps := (((arV (n := 256) U8) ((⟨(arZ 256 0), 0, [], []⟩ : jd).jp)).cells ++ [(I ((⟨(arZ 256 0), 0, [], []⟩ : jd).ji)), (qk ((⟨(arZ 256 0), 0, [], []⟩ : jd).je)), (slI ((⟨(arZ 256 0), 0, [], []⟩ : jd).jl))])) rfl rfl (fun _ h => by cases h) f4 b204 v7 (e_ (jc (⟨(arZ 256 0), 0, [], []⟩ : jd))) (qt _ _) rfl (qb (jj _ _ (fun _ => rfl)) rfl) (by rw [(qb (jj _ _ (fun _ => rfl)) rfl)]; exact Nat.le_of_ble_eq_true rfl) (vz (N := 256 + (3)) (qb (jj _ _ (fun _ => rfl)) rfl) (qb (jj _ _ (fun _ => rfl)) rfl)) fun H b204 fz14 => ?_
 refine Q1 _ (jf (e_ (I 0))) ?_
 refine Q1 _ (jf (e_ (I 2))) ?_
 refine PL.nil (hK13 _ _ ?_)
 refine A3 4 f4 5 (e_ (I 0)) 6 (e_ (I 2)) fun F f4 f5 f6 => ?_
 refine PC.ret ?_
 have h0 := pz h0
 subst h0
 exact fin (p0 := PV.tup [(jc (⟨((⟨(arZ 256 0), 0, [], []⟩ : jd).jp), ((⟨(arZ 256 0), 0, [], []⟩ : jd).ji), ((⟨(arZ 256 0), 0, [], []⟩ : jd).je), ((⟨(arZ 256 0), 0, [], []⟩ : jd).jl)⟩ : jd)), (I 0), (I 2)]) (.inr rfl) (Yq (rs := [.cell 4 26, .tmp 5, .tmp 6]) Try.results26 (by decide) (rlc (zf v7 f4 b204 (yo (qe (⟨((⟨(arZ 256 0), 0, [], []⟩ : jd).jp), ((⟨(arZ 256 0), 0, [], []⟩ : jd).ji), ((⟨(arZ 256 0), 0, [], []⟩ : jd).je), ((⟨(arZ 256 0), 0, [], []⟩ : jd).jl)⟩ : jd)))) (rlc (Jy f5) (rlc (Jy f6) (rl0))))) (.tup _ (js (qa _) (js (.u _) (js (.u _) (j2)))))
 refine PC.condFb f24 hb12 ?_
 refine PC.skip ?_
 refine hK10 _ _ ?_
 refine A3 1 f1 2 f2 4 f4 fun F f1 f2 f4 => ?_
 refine SR fun K15 hK15 => ?_
 refine Q1 (PV.agg (((arV (n := 256) U8) (arZ 256 0)).cells ++ [(I 0), (PV.u (.slice none 0 0)), (PV.u (.slice none 0 0))])) (Jg (bm0) (by kernel_rfl)) ?_
 refine PL.allocA 207 (cs := (((arV (n := 256) U8) (arZ 256 0)).cells ++ [(I 0), (PV.u (.slice none 0 0)), (PV.u (.slice none 0 0))])) rfl rfl rfl (by decide) Y8 (by kernel_rfl) (by kernel_rfl) fun v207 H b207 fz16 => ?_
 have b204 := (fz16 204 (by decide)).trans b204
 have o1092 : ownL 24 1 slI H 1092 (PV.u (.slice none 0 0)) [] := ownL.nil _ _
 have o1098 : ownL 3 1 I H 1098 (PV.u (.slice none 0 0)) [] := ownL.nil _ _
 refine PL.storeA (ag := true) (cs' := (((arV (n := 256) U8) (arZ 256 0)).cells ++ [(I 0), (PV.u (.slice none 0 0)), (PV.u (.slice none 0 0))])) (ps := (((arV (n := 256) U8) (arZ 256 0)).cells ++ [(I 0), (PV.u (.slice none 0 0)), (PV.u (.slice none 0 0))])) rfl rfl (fun _ h => by cases h) (e_ (PV.pp 207 0 v207)) b207 v7 (e_ (PV.agg (((arV (n := 256) U8) (arZ 256 0)).cells ++ [(I 0), (PV.u (.slice none 0 0)), (PV.u (.slice none 0 0))]))) (zjk (zet _ _ _ (fun _ => rfl)) rfl) rfl (qb (jj _ _ (fun _ => rfl)) rfl) (by rw [(qb (jj _ _ (fun _ => rfl)) rfl)]; exact Nat.le_of_ble_eq_true rfl) (vz (N := 256 + (3)) (qb (jj _ _ (fun _ => rfl)) rfl) (qb (jj _ _ (fun _ => rfl)) rfl)) fun H b207 fz17 => ?_
 have b204 := (fz17 204 (by decide)).trans b204
 have o1092 := o1092.mono (fz17 1092 (by decide))
 have o1098 := o1098.mono (fz17 1098 (by decide))
 have o1092 : ownL 24 1 slI H 1092 (PV.u (.slice none 0 0)) [] := ownL.nil _ _
 have o1098 : ownL 3 1 I H 1098 (PV.u (.slice none 0 0)) [] := ownL.nil _ _
 refine PL.nil (hK15 _ _ ?_)
 refine A4 1 f1 2 f2 4 f4 7 (e_ (PV.pp 207 0 v207)) fun F f1 f2 f4 f7 => ?_
 refine SR fun K18 hK18 => ?_
 refine Q1 (PV.rp ((jn a0).cells.drop 0)) (j8 Jd y4 (by decide) f2) ?_
 refine Q1 (jg a0.jm) (jx y4 (e_ (PV.rp ((jn a0).cells.drop 0))) (yp a0)) ?_
 obtain ⟨x19, hx19, h0⟩ := bs h0
 refine Q3 (PV.tup [((arV (n := 256) U8) x19.1), (I x19.2)]) (j0 (by kernel_rfl) (am (e_ (jg a0.jm)) (am0)) (js (vq _) (j2)) (ziv hx19)) ?_
 refine Q1 _ (jb (e_ (PV.tup [((arV (n := 256) U8) x19.1), (I x19.2)]))) ?_
 refine Q1 _ (vj (e_ (PV.tup [((arV (n := 256) U8) x19.1), (I x19.2)])) rfl) ?_
 refine Q1 _ (vj (e_ (PV.tup [((arV (n := 256) U8) x19.1), (I x19.2)])) rfl) ?_
 refine Q1 (PV.pp 207 0 v207) (yu Q7 y5 (by decide) f7 b207) ?_
 refine PL.storeA (ag := true) (cs' := (((arV (n := 256) U8) x19.1).cells ++ [(I 0), (PV.u (.slice none 0 0)), (PV.u (.slice none 0 0))])) (ps := ((arV (n := 256) U8) x19.1).cells) rfl rfl (fun _ h => by cases h) (e_ (PV.pp 207 0 v207)) b207 y5 (e_ ((arV (n := 256) U8) x19.1)) (v8 _ _ _ (fun _ => rfl)) rfl (jj _ _ (fun _ => rfl)) (by rw [(qb (jj _ _ (fun _ => rfl)) rfl)]; exact Nat.le_of_ble_eq_true rfl) (sm_l (jj _ _ (fun _ => rfl)) (jj _ _ (fun _ => rfl))) fun H b207 fz20 => ?_
 have b204 := (fz20 204 (by decide)).trans b204
 have o1092 := o1092.mono (fz20 1092 (by decide))
 have o1098 := o1098.mono (fz20 1098 (by decide))
 refine Q1 (PV.pp 207 256 v207) (yu Qk qz (by decide) f7 b207) ?_
 refine PL.storeA (ag := false) (cs' := (((arV (n := 256) U8) x19.1).cells ++ [(I x19.2), (PV.u (.slice none 0 0)), (PV.u (.slice none 0 0))])) (ps := [(I x19.2)]) rfl rfl (fun _ h => by cases h) (e_ (PV.pp 207 256 v207)) b207 qz (e_ (I x19.2)) rfl rfl rfl (by rw [(qb (jj _ _ (fun _ => rfl)) rfl)]; exact Nat.le_of_ble_eq_true rfl) (zli (m := 256) (i := 0) (jj _ _ (fun _ => rfl)) rfl) fun H b207 fz21 => ?_
 have b204 := (fz21 204 (by decide)).trans b204
 have o1092 := o1092.mono (fz21 1092 (by decide))
 have o1098 := o1098.mono (fz21 1098 (by decide))
 refine PL.nil (hK18 _ _ ?_)
 refine A4 1 f1 2 f2 4 f4 7 f7 fun F f1 f2 f4 f7 => ?_
 refine SR fun K22 hK22 => ?_
 refine Q3 (slI ([] : List Int)) (yx (rep := I) (xs := []) qj rfl (by decide) (bm0) rfl rfl) ?_
 refine PL.litO (rep := slI) (xs := [([] : List Int)]) 1008 rfl rfl rfl (by decide) Qh rfl (by decide) (bm (e_ (slI ([] : List Int))) (bm0)) rfl rfl fun q23 H o1008 fz24 => ?_
 have b204 := (fz24 204 (by decide)).trans b204
 have b207 := (fz24 207 (by decide)).trans b207
 have o1092 := o1092.mono (fz24 1092 (by decide))
 have o1098 := o1098.mono (fz24 1098 (by decide))
 refine Q1 _ (jf (e_ q23)) ?_
 refine PL.nil (hK22 _ _ ?_)
 refine A5 1 f1 2 f2 4 f4 7 f7 8 (e_ q23) fun F f1 f2 f4 f7 f8 => ?_
 refine PC.seq fun K25 hK25 => ?_
 refine SR fun K26 hK26 => ?_
 refine Q1 _ (jf (e_ (I 0))) ?_
 refine PL.nil (hK26 _ _ ?_)
 refine A6 1 f1 2 f2 4 f4 7 f7 8 f8 9 (e_ (I 0)) fun F f1 f2 f4 f7 f8 f9 => ?_
 refine PC.block ?_
 obtain ⟨o47, ho47, h0⟩ := bs h0
 obtain ⟨B48, hB48, ho47⟩ := G.loop_some ho47
 refine PC.loop (fun m51 F H => ∃ s172 : (Int × (List (List Int)) × (List (List Int)) × (List Int)), ∃ q42, ∃ q44, ∃ q46, qw B48 m51 s172 = some o47 ∧ F 1 = (I a1) ∧ F 2 = (PV.rp (jn a0).cells) ∧ F 4 = (PV.pp 204 0 v204) ∧ F 7 = (PV.pp 207 0 v207) ∧ F 8 = q42 ∧ F 9 = (I s172.1) ∧ H 204 = ⟨v204, some (.box 26 (((arV (n := 256) U8) (arZ 256 0)).cells ++ [(I 0), (qk []), (slI [])]))⟩ ∧ H 207 = ⟨v207, some (.box 26 (((arV (n := 256) U8) x19.1).cells ++ [(I x19.2), q44, q46]))⟩ ∧ ownL 24 1 slI H 1008 q42 s172.2.1 ∧ ownL 24 1 slI H 1092 q44 s172.2.2.1 ∧ ownL 3 1 I H 1098 q46 s172.2.2.2) (m := nn) ⟨(0, [([] : List Int)], [], []), q23, (PV.u (.slice none 0 0)), (PV.u (.slice none 0 0)), ho47, f1, f2, f4, f7, f8, f9, b204, b207, o1008, o1092, o1098⟩ fun m51 F H hI => ?_
 obtain ⟨⟨x40, x41, x43, x45⟩, q42, q44, q46, ho47, f1, f2, f4, f7, f8, f9, b204, b207, o1008, o1092, o1098⟩ := hI
 obtain ⟨m51, rfl, st49, hs50, ho47⟩ := jw ho47
 rw [hB48] at hs50
 try dsimp only at hs50
 refine PC.seq fun K52 hK52 => ?_
 refine SR fun K53 hK53 => ?_
 refine Q1 _ (jb f9) ?_
 refine Q1 _ (jb f8) ?_
 refine Q1 (I (x41.length : Int)) (Vu vp o1008 (e_ q42)) ?_
 refine Q1 _ (jh rfl (e_ (I x40)) (e_ (I (x41.length : Int))) jv) ?_
 refine PL.nil (hK53 _ _ ?_)
 refine A7 1 f1 2 f2 4 f4 7 f7 8 f8 9 f9 40 (e_ (B (decide (x40 < (x41.length : Int))))) fun F f1 f2 f4 f7 f8 f9 f40 => ?_
 rcases cz hs50 with ⟨hb54, hs50⟩ | ⟨hb54, hs50⟩
 refine PC.condTb f40 hb54 ?_
 refine PC.skip ?_
 refine hK52 _ _ ?_
 refine A6 1 f1 2 f2 4 f4 7 f7 8 f8 9 f9 fun F f1 f2 f4 f7 f8 f9 => ?_
 refine PC.seq fun K55 hK55 => ?_
 refine PC.block ?_
 refine SR fun K56 hK56 => ?_
 refine PL.litO (rep := I) (xs := []) 1010 rfl rfl rfl (by decide) qj rfl (by decide) (bm0) rfl rfl fun q57 H o1010 fz58 => ?_
 have b204 := (fz58 204 (by decide)).trans b204
 have b207 := (fz58 207 (by decide)).trans b207
 have o1092 := o1092.mono (fz58 1092 (by decide))
 have o1098 := o1098.mono (fz58 1098 (by decide))
 have o1008 := o1008.mono (fz58 1008 (by decide))
 refine Q1 _ (jf (e_ q57)) ?_
 refine PL.nil (hK56 _ _ ?_)
 refine A7 1 f1 2 f2 4 f4 7 f7 8 f8 9 f9 10 (e_ q57) fun F f1 f2 f4 f7 f8 f9 f10 => ?_
 refine PC.seq fun K59 hK59 => ?_
 refine SR fun K60 hK60 => ?_
 refine Q1 _ (jf (e_ (I 0))) ?_
 refine PL.nil (hK60 _ _ ?_)
 refine A8 1 f1 2 f2 4 f4 7 f7 8 f8 9 f9 10 f10 11 (e_ (I 0)) fun F f1 f2 f4 f7 f8 f9 f10 f11 => ?_
 refine PC.block ?_
 obtain ⟨o81, ho81, hs50⟩ := bs hs50
 obtain ⟨B82, hB82, ho81⟩ := G.loop_some ho81
 refine PC.loop (fun m85 F H => ∃ s156 : (Int × (List (List Int)) × (List Int)), ∃ q78, ∃ q80, qw B82 m85 s156 = some o81 ∧ F 1 = (I a1) ∧ F 2 = (PV.rp (jn a0).cells) ∧ F 4 = (PV.pp 204 0 v204) ∧ F 7 = (PV.pp 207 0 v207) ∧ F 8 = q78 ∧ F 9 = (I x40) ∧ F 10 = q80 ∧ F 11 = (I s156.1) ∧ H 204 = ⟨v204, some (.box 26 (((arV (n := 256) U8) (arZ 256 0)).cells ++ [(I 0), (qk []), (slI [])]))⟩ ∧ H 207 = ⟨v207, some (.box 26 (((arV (n := 256) U8) x19.1).cells ++ [(I x19.2), q44, q46]))⟩ ∧ ownL 24 1 slI H 1008 q78 s156.2.1 ∧ ownL 3 1 I H 1010 q80 s156.2.2 ∧ ownL 24 1 slI H 1092 q44 x43 ∧ ownL 3 1 I H 1098 q46 x45) (m := nn) ⟨(0, x41, []), q42, q57, ho81, f1, f2, f4, f7, f8, f9, f10, f11, b204, b207, o1008, o1010, o1092, o1098⟩ fun m85 F H hI => ?_
 obtain ⟨⟨x76, x77, x79⟩, q78, q80, ho81, f1, f2, f4, f7, f8, f9, f10, f11, b204, b207, o1008, o1010, o1092, o1098⟩ := hI
 obtain ⟨m85, rfl, st83, hs84, ho81⟩ := jw ho81
 rw [hB82] at hs84
 try dsimp only at hs84
 refine PC.seq fun K86 hK86 => ?_
 refine SR fun K87 hK87 => ?_
 refine Q1 _ (jb f11) ?_
 refine Q1 (PV.pp 207 256 v207) (yu Qk qz (by decide) f7 b207) ?_
 refine Q1 (I x19.2) (vm qz (e_ (PV.pp 207 256 v207)) b207 (zhq (m := 256) (i := 0) (jj _ _ (fun _ => rfl)) rfl)) ?_
 refine Q1 _ (jh rfl (e_ (I x76)) (e_ (I x19.2)) jv) ?_
 refine PL.nil (hK87 _ _ ?_)
 refine A9 1 f1 2 f2 4 f4 7 f7 8 f8 9 f9 10 f10 11 f11 47 (e_ (B (decide (x76 < x19.2)))) fun F f1 f2 f4 f7 f8 f9 f10 f11 f47 => ?_
 rcases cz hs84 with ⟨hb88, hs84⟩ | ⟨hb88, hs84⟩
 refine PC.condTb f47 hb88 ?_
 refine PC.skip ?_
 refine hK86 _ _ ?_
 refine A8 1 f1 2 f2 4 f4 7 f7 8 f8 9 f9 10 f10 11 f11 fun F f1 f2 f4 f7 f8 f9 f10 f11 => ?_
 refine PC.seq fun K89 hK89 => ?_
 refine PC.block ?_
 refine SR fun K90 hK90 => ?_
 refine Q1 (PV.pp 207 0 v207) (yu Q7 y5 (by decide) f7 b207) ?_
 refine Q1 ((arV (n := 256) U8) x19.1) (vm y5 (e_ (PV.pp 207 0 v207)) b207 (ld_l (jj _ _ (fun _ => rfl)))) ?_
 refine Q1 _ (jb f11) ?_
 obtain ⟨x91, hx91, hs84⟩ := bs hs84
 refine Q3 (Zi x91) (j0 (by kernel_rfl) (am (e_ ((arV (n := 256) U8) x19.1)) (am (e_ (I x76)) (am0))) (js (vc _ (fun _ => (.u _))) (js (.u _) (j2))) (zfu hx91)) ?_
 obtain ⟨x92, hx92, hs84⟩ := bs hs84
 refine Q1 (PV.rp (U8 x92).cells) (j1 (rep := U8) (xs := x91) zky (e_ (Zi x91)) (e_ (I 0)) hx92) ?_
 refine Q1 (U8 x92) (qr Zm (e_ (PV.rp (U8 x92).cells))) ?_
 refine Q1 _ (jf (e_ (U8 x92))) ?_
 refine PL.nil (hK90 _ _ ?_)
 refine A9 1 f1 2 f2 4 f4 7 f7 8 f8 9 f9 10 f10 11 f11 12 (e_ (U8 x92)) fun F f1 f2 f4 f7 f8 f9 f10 f11 f12 => ?_
 refine PC.seq fun K93 hK93 => ?_
 refine PC.regionQ mixed (by kernel_rfl) ?_
 refine Q2 (jn a0) (vw Qv f2 (yb _)) ?_
 refine Q2 _ (jb f8) ?_
 refine Q2 _ (jb f9) ?_
 obtain ⟨x94, hx94, hs84⟩ := bs hs84
 refine Q2 (PV.pp 1008 ((x40 : Int).toNat * 1) (yh q78)) (z7 (rep := slI) Jz o1008 (e_ q78) (e_ (I x40)) hx94) ?_
 refine Q2 (slI x94) (zdd qh (e_ (PV.pp 1008 ((x40 : Int).toNat * 1) (yh q78))) o1008 hx94) ?_
 refine Q2 _ (jb f12) ?_
 obtain ⟨x95, hx95, hs84⟩ := bs hs84
 refine Q4 (slI x95) (j0 (by kernel_rfl) (am (e_ (jn a0)) (am (e_ (slI x94)) (am (e_ (U8 x92)) (am0)))) (js (yl _) (js (ye _) (js (.u _) (j2)))) (zgo hx95)) ?_
 refine Q2 _ (jf (e_ (slI x95))) ?_
 refine QF.nil ?_
 refine hK93 _ _ ?_
 refine A10 1 f1 2 f2 4 f4 7 f7 8 f8 9 f9 10 f10 11 f11 12 f12 13 (e_ (slI x95)) fun F f1 f2 f4 f7 f8 f9 f10 f11 f12 f13 => ?_
 obtain ⟨o97, ho97, hs84⟩ := bs hs84
 refine PC.seqM (fun F H => ∃ s126 : (List Int), o97 = s126 ∧ F 1 = (I a1) ∧ F 2 = (PV.rp (jn a0).cells) ∧ F 4 = (PV.pp 204 0 v204) ∧ F 7 = (PV.pp 207 0 v207) ∧ F 8 = q78 ∧ F 9 = (I x40) ∧ F 10 = q80 ∧ F 11 = (I x76) ∧ F 13 = (slI s126) ∧ H 204 = ⟨v204, some (.box 26 (((arV (n := 256) U8) (arZ 256 0)).cells ++ [(I 0), (qk []), (slI [])]))⟩ ∧ H 207 = ⟨v207, some (.box 26 (((arV (n := 256) U8) x19.1).cells ++ [(I x19.2), q44, q46]))⟩ ∧ ownL 24 1 slI H 1008 q78 x77 ∧ ownL 3 1 I H 1010 q80 x79 ∧ ownL 24 1 slI H 1092 q44 x43 ∧ ownL 3 1 I H 1098 q46 x45) ?_ ?_
 refine SR fun K123 hK123 => ?_
 refine Q1 _ (jb f9) ?_
 refine Q1 _ (jh rfl (e_ (I x40)) (e_ (I 0)) j7) ?_
 refine PL.nil (hK123 _ _ ?_)
 refine A11 1 f1 2 f2 4 f4 7 f7 8 f8 9 f9 10 f10 11 f11 12 f12 13 f13 64 (e_ (B (decide (x40 = 0)))) fun F f1 f2 f4 f7 f8 f9 f10 f11 f12 f13 f64 => ?_
 rcases cz ho97 with ⟨hb124, ho97⟩ | ⟨hb124, ho97⟩
 refine PC.condTb f64 hb124 ?_
 refine PC.region ?_
 refine Q1 (jn a0) (vw Qv f2 (yb _)) ?_
 refine Q1 _ (jb f12) ?_
 obtain ⟨x125, hx125, ho97⟩ := bs ho97
 refine Q3 (slI x125) (j0 (by kernel_rfl) (am (e_ (jn a0)) (am (e_ (U8 x92)) (am0))) (js (yl _) (js (.u _) (j2))) (zfo hx125)) ?_
 refine Q1 _ (jf (e_ (slI x125))) ?_
 refine PL.nil ?_
 have ho97 := pz ho97
 subst ho97
 exact ⟨x125, rfl, f1, f2, f4, f7, f8, f9, f10, f11, (e_ (slI x125)), b204, b207, o1008, o1010, o1092, o1098⟩
 refine PC.condFb f64 hb124 ?_
 refine PC.skip ?_
 have ho97 := pz ho97
 subst ho97
 exact ⟨x95, rfl, f1, f2, f4, f7, f8, f9, f10, f11, f13, b204, b207, o1008, o1010, o1092, o1098⟩
 intro F H hI
 obtain ⟨x98, ho, f1, f2, f4, f7, f8, f9, f10, f11, f13, b204, b207, o1008, o1010, o1092, o1098⟩ := hI
 have ho := ho.symm
 subst ho
 try dsimp only at hs84
 refine SR fun K99 hK99 => ?_
 refine Q1 _ (jb f8) ?_
 refine Q1 _ (jb f13) ?_
 obtain ⟨x100, hx100, hs84⟩ := bs hs84
 refine Q3 (I x100) (callS (by kernel_rfl) (am (e_ q78) (am (e_ (slI x98)) (am0))) (vlc (o1008.view2 (fun _ => rfl) (fun _ => (ye _))) (vlc (View.noP (ye _)) (vl0))) (.u _) (zf2 hx100)) ?_
 refine Q1 _ (jf (e_ (I x100))) ?_
 refine PL.nil (hK99 _ _ ?_)
 refine A10 1 f1 2 f2 4 f4 7 f7 8 f8 9 f9 10 f10 11 f11 13 f13 14 (e_ (I x100)) fun F f1 f2 f4 f7 f8 f9 f10 f11 f13 f14 => ?_
 obtain ⟨o102, ho102, hs84⟩ := bs hs84
 refine PC.seqM (fun F H => ∃ s122 : (Int × (List (List Int))), ∃ q105, o102 = s122 ∧ F 1 = (I a1) ∧ F 2 = (PV.rp (jn a0).cells) ∧ F 4 = (PV.pp 204 0 v204) ∧ F 7 = (PV.pp 207 0 v207) ∧ F 8 = q105 ∧ F 9 = (I x40) ∧ F 10 = q80 ∧ F 11 = (I x76) ∧ F 14 = (I s122.1) ∧ H 204 = ⟨v204, some (.box 26 (((arV (n := 256) U8) (arZ 256 0)).cells ++ [(I 0), (qk []), (slI [])]))⟩ ∧ H 207 = ⟨v207, some (.box 26 (((arV (n := 256) U8) x19.1).cells ++ [(I x19.2), q44, q46]))⟩ ∧ ownL 24 1 slI H 1008 q105 s122.2 ∧ ownL 3 1 I H 1010 q80 x79 ∧ ownL 24 1 slI H 1092 q44 x43 ∧ ownL 3 1 I H 1098 q46 x45) ?_ ?_
 refine SR fun K114 hK114 => ?_
 refine Q1 _ (jb f13) ?_
 refine Q1 (I (x98.length : Int)) (qg (rep := I) (xs := x98) ql (e_ (slI x98))) ?_
 refine Q1 _ (jh rfl (e_ (I (x98.length : Int))) (e_ (I 0)) j7) ?_
 refine PL.nil (hK114 _ _ ?_)
 refine A11 1 f1 2 f2 4 f4 7 f7 8 f8 9 f9 10 f10 11 f11 13 f13 14 f14 73 (e_ (B (decide ((x98.length : Int) = 0)))) fun F f1 f2 f4 f7 f8 f9 f10 f11 f13 f14 f73 => ?_
 rcases cz ho102 with ⟨hb115, ho102⟩ | ⟨hb115, ho102⟩
 refine PC.condTb f73 hb115 ?_
 refine PC.region ?_
 refine Q1 _ (jf (e_ (I (-1)))) ?_
 refine PL.nil ?_
 have ho102 := pz ho102
 subst ho102
 exact ⟨((-1), x77), q78, rfl, f1, f2, f4, f7, f8, f9, f10, f11, (e_ (I (-1))), b204, b207, o1008, o1010, o1092, o1098⟩
 refine PC.condFb f73 hb115 ?_
 refine SR fun K116 hK116 => ?_
 refine Q1 _ (jb f14) ?_
 refine Q1 _ (jh rfl (e_ (I x100)) (e_ (I 0)) jv) ?_
 refine PL.nil (hK116 _ _ ?_)
 refine A11 1 f1 2 f2 4 f4 7 f7 8 f8 9 f9 10 f10 11 f11 13 f13 14 f14 75 (e_ (B (decide (x100 < 0)))) fun F f1 f2 f4 f7 f8 f9 f10 f11 f13 f14 f75 => ?_
 rcases cz ho102 with ⟨hb117, ho102⟩ | ⟨hb117, ho102⟩
 refine PC.condTb f75 hb117 ?_
 refine SR fun K118 hK118 => ?_
 refine Q1 _ (jb f8) ?_
 refine Q1 (I (x77.length : Int)) (Vu vp o1008 (e_ q78)) ?_
 refine Q1 _ (jf (e_ (I (x77.length : Int)))) ?_
 refine PL.nil (hK118 _ _ ?_)
 refine A10 1 f1 2 f2 4 f4 7 f7 8 f8 9 f9 10 f10 11 f11 13 f13 14 (e_ (I (x77.length : Int))) fun F f1 f2 f4 f7 f8 f9 f10 f11 f13 f14 => ?_
 refine PC.region ?_
 refine Q1 _ (jb f8) ?_
 refine Q1 _ (jb f13) ?_
 refine Q3 (qk ([x98] : List (List Int))) (yx (rep := slI) (xs := [x98]) Qh rfl (by decide) (bm (e_ (slI x98)) (bm0)) rfl rfl) ?_
 obtain ⟨x119, hx119, ho102⟩ := bs ho102
 refine PL.appG (rep := slI) (ys := ([x98] : List (List Int))) rfl rfl rfl (by decide) Qh (e_ q78) o1008 (e_ (qk ([x98] : List (List Int)))) (fun _ => rfl) (lf1 (fun _ => rfl) (fun _ => rfl)) hx119 fun q120 H o1008 fz121 => ?_
 have b204 := (fz121 204 (by decide)).trans b204
 have b207 := (fz121 207 (by decide)).trans b207
 have o1092 := o1092.mono (fz121 1092 (by decide))
 have o1098 := o1098.mono (fz121 1098 (by decide))
 have o1010 := o1010.mono (fz121 1010 (by decide))
 refine Q1 _ (jf (e_ q120)) ?_
 refine PL.nil ?_
 have ho102 := pz ho102
 subst ho102
 exact ⟨((x77.length : Int), x119), q120, rfl, f1, f2, f4, f7, (e_ q120), f9, f10, f11, f14, b204, b207, o1008, o1010, o1092, o1098⟩
 refine PC.condFb f75 hb117 ?_
 refine PC.skip ?_
 have ho102 := pz ho102
 subst ho102
 exact ⟨(x100, x77), q78, rfl, f1, f2, f4, f7, f8, f9, f10, f11, f14, b204, b207, o1008, o1010, o1092, o1098⟩
 intro F H hI
 obtain ⟨⟨x103, x104⟩, q105, ho, f1, f2, f4, f7, f8, f9, f10, f11, f14, b204, b207, o1008, o1010, o1092, o1098⟩ := hI
 have ho := ho.symm
 subst ho
 try dsimp only at hs84
 refine PC.seq fun K106 hK106 => ?_
 refine SR fun K107 hK107 => ?_
 refine Q1 _ (jb f8) ?_
 refine Q1 (I (x104.length : Int)) (Vu vp o1008 (e_ q105)) ?_
 refine Q1 _ (jb f1) ?_
 refine Q1 _ (jh rfl (e_ (I (x104.length : Int))) (e_ (I a1)) J4) ?_
 refine PL.nil (hK107 _ _ ?_)
 refine A10 1 f1 2 f2 4 f4 7 f7 8 f8 9 f9 10 f10 11 f11 14 f14 85 (e_ (B (decide (a1 < (x104.length : Int))))) fun F f1 f2 f4 f7 f8 f9 f10 f11 f14 f85 => ?_
 rcases cz hs84 with ⟨hb108, hs84⟩ | ⟨hb108, hs84⟩
 refine PC.condTb f85 hb108 ?_
 refine SR fun K109 hK109 => ?_
 refine Q3 (jc (⟨(arZ 256 0), 0, [], []⟩ : jd)) (zlv (p := (PV.agg (((arV (n := 256) U8) (arZ 256 0)).cells ++ [(I 0), (PV.u (.slice none 0 0)), (PV.u (.slice none 0 0))]))) (bm0) (by kernel_rfl) (Weak.agg (WeakL.app (WeakL.refl _) (WeakL.cons (Weak.refl _) (WeakL.cons (Weak.nil _) (WeakL.cons (Weak.nil _) (WeakL.nil))))))) ?_
 refine PL.storeA (ag := true) (cs' := (((arV (n := 256) U8) ((⟨(arZ 256 0), 0, [], []⟩ : jd).jp)).cells ++ [(I ((⟨(arZ 256 0), 0, [], []⟩ : jd).ji)), (qk ((⟨(arZ 256 0), 0, [], []⟩ : jd).je)), (slI ((⟨(arZ 256 0), 0, [], []⟩ : jd).jl))])) (ps := (((arV (n := 256) U8) ((⟨(arZ 256 0), 0, [], []⟩ : jd).jp)).cells ++ [(I ((⟨(arZ 256 0), 0, [], []⟩ : jd).ji)), (qk ((⟨(arZ 256 0), 0, [], []⟩ : jd).je)), (slI ((⟨(arZ 256 0), 0, [], []⟩ : jd).jl))])) rfl rfl (fun _ h => by cases h) f4 b204 v7 (e_ (jc (⟨(arZ 256 0), 0, [], []⟩ : jd))) (qt _ _) rfl (qb (jj _ _ (fun _ => rfl)) rfl) (by rw [(qb (jj _ _ (fun _ => rfl)) rfl)]; exact Nat.le_of_ble_eq_true rfl) (vz (N := 256 + (3)) (qb (jj _ _ (fun _ => rfl)) rfl) (qb (jj _ _ (fun _ => rfl)) rfl)) fun H b204 fz110 => ?_
 have b207 := (fz110 207 (by decide)).trans b207
 have o1092 := o1092.mono (fz110 1092 (by decide))
 have o1098 := o1098.mono (fz110 1098 (by decide))
 have o1008 := o1008.mono (fz110 1008 (by decide))
 have o1010 := o1010.mono (fz110 1010 (by decide))
 refine Q1 _ (jf (e_ (I 0))) ?_
 refine Q1 _ (jf (e_ (I 16))) ?_
 refine PL.nil (hK109 _ _ ?_)
 refine A3 4 f4 5 (e_ (I 0)) 6 (e_ (I 16)) fun F f4 f5 f6 => ?_
 have hs84 := pz hs84
 subst hs84
 try dsimp only at ho81
 subst ho81
 try dsimp only at hs50
 have hs50 := pz hs50
 subst hs50
 try dsimp only at ho47
 subst ho47
 try dsimp only at h0
 refine PC.ret ?_
 have h0 := pz h0
 subst h0
 exact fin (p0 := PV.tup [(jc (⟨((⟨(arZ 256 0), 0, [], []⟩ : jd).jp), ((⟨(arZ 256 0), 0, [], []⟩ : jd).ji), ((⟨(arZ 256 0), 0, [], []⟩ : jd).je), ((⟨(arZ 256 0), 0, [], []⟩ : jd).jl)⟩ : jd)), (I 0), (I 16)]) (.inr rfl) (Yq (rs := [.cell 4 26, .tmp 5, .tmp 6]) Try.results26 (by decide) (rlc (zf v7 f4 b204 (yo (qe (⟨((⟨(arZ 256 0), 0, [], []⟩ : jd).jp), ((⟨(arZ 256 0), 0, [], []⟩ : jd).ji), ((⟨(arZ 256 0), 0, [], []⟩ : jd).je), ((⟨(arZ 256 0), 0, [], []⟩ : jd).jl)⟩ : jd)))) (rlc (Jy f5) (rlc (Jy f6) (rl0))))) (.tup _ (js (qa _) (js (.u _) (js (.u _) (j2)))))
 refine PC.condFb f85 hb108 ?_
 refine PC.skip ?_
 refine hK106 _ _ ?_
 refine A9 1 f1 2 f2 4 f4 7 f7 8 f8 9 f9 10 f10 11 f11 14 f14 fun F f1 f2 f4 f7 f8 f9 f10 f11 f14 => ?_
 refine PC.region ?_
 refine Q1 _ (jb f10) ?_
 refine Q1 _ (jb f14) ?_
 refine Q3 (slI ([x103] : List Int)) (yx (rep := I) (xs := [x103]) qj rfl (by decide) (bm (e_ (I x103)) (bm0)) rfl rfl) ?_
 obtain ⟨x111, hx111, hs84⟩ := bs hs84
 refine PL.appG (rep := I) (ys := ([x103] : List Int)) rfl rfl rfl (by decide) qj (e_ q80) o1010 (e_ (slI ([x103] : List Int))) (fun _ => rfl) (lf1 (fun _ => rfl) (fun _ => rfl)) hx111 fun q112 H o1010 fz113 => ?_
 have b204 := (fz113 204 (by decide)).trans b204
 have b207 := (fz113 207 (by decide)).trans b207
 have o1092 := o1092.mono (fz113 1092 (by decide))
 have o1098 := o1098.mono (fz113 1098 (by decide))
 have o1008 := o1008.mono (fz113 1008 (by decide))
 refine Q1 _ (jf (e_ q112)) ?_
 refine PL.nil (hK89 _ _ ?_)
 refine A8 1 f1 2 f2 4 f4 7 f7 8 f8 9 f9 10 (e_ q112) 11 f11 fun F f1 f2 f4 f7 f8 f9 f10 f11 => ?_
 refine PC.region ?_
 refine Q1 _ (jb f11) ?_
 refine Q1 _ (jh rfl (e_ (I x76)) (e_ (I 1)) j3) ?_
 refine Q1 _ (jf (e_ (I (w64 (x76 + 1))))) ?_
 refine PL.nil ?_
 have hs84 := pz hs84
 subst hs84
 exact ⟨m85, Nat.lt_succ_self _, ((w64 (x76 + 1)), x104, x111), q105, q112, ho81, f1, f2, f4, f7, f8, f9, f10, (e_ (I (w64 (x76 + 1)))), b204, b207, o1008, o1010, o1092, o1098⟩
 refine PC.condFb f47 hb88 ?_
 refine PC.exit ?_
 have hs84 := pz hs84
 subst hs84
 try dsimp only at ho81
 subst ho81
 try dsimp only at hs50
 refine hK59 _ _ ?_
 refine A7 1 f1 2 f2 4 f4 7 f7 8 f8 9 f9 10 f10 fun F f1 f2 f4 f7 f8 f9 f10 => ?_
 refine PC.seq fun K127 hK127 => ?_
 refine PC.freezeL (rep := I) 10 f10 o1010 (fun _ => rfl) fun H fz128 => ?_
 have b204 := (fz128 204 (by decide)).trans b204
 have b207 := (fz128 207 (by decide)).trans b207
 have o1092 := o1092.mono (fz128 1092 (by decide))
 have o1098 := o1098.mono (fz128 1098 (by decide))
 have o1008 := o1008.mono (fz128 1008 (by decide))
 refine PC.region ?_
 refine Q1 (PV.pp 207 257 v207) (yu vx qi (by decide) f7 b207) ?_
 refine Q1 q44 (vm qi (e_ (PV.pp 207 257 v207)) b207 (zhq (m := 256) (i := 1) (jj _ _ (fun _ => rfl)) rfl)) ?_
 refine Q1 _ (jb (e_ (slI x79))) ?_
 refine Q3 (qk ([x79] : List (List Int))) (yx (rep := slI) (xs := [x79]) Qh rfl (by decide) (bm (e_ (slI x79)) (bm0)) rfl rfl) ?_
 obtain ⟨x129, hx129, hs50⟩ := bs hs50
 refine PL.appG (rep := slI) (ys := ([x79] : List (List Int))) rfl rfl rfl (by decide) Qh (e_ q44) o1092 (e_ (qk ([x79] : List (List Int)))) (fun _ => rfl) (lf1 (fun _ => rfl) (fun _ => rfl)) hx129 fun q130 H o1092 fz131 => ?_
 have b204 := (fz131 204 (by decide)).trans b204
 have b207 := (fz131 207 (by decide)).trans b207
 have o1098 := o1098.mono (fz131 1098 (by decide))
 have o1008 := o1008.mono (fz131 1008 (by decide))
 refine Q1 (PV.pp 207 257 v207) (yu vx qi (by decide) f7 b207) ?_
 refine PL.storeA (ag := false) (cs' := (((arV (n := 256) U8) x19.1).cells ++ [(I x19.2), q130, q46])) (ps := [q130]) rfl rfl (fun _ h => by cases h) (e_ (PV.pp 207 257 v207)) b207 qi (e_ q130) (Zw o1092) (Jt o1092) rfl (by rw [(qb (jj _ _ (fun _ => rfl)) rfl)]; exact Nat.le_of_ble_eq_true rfl) (zli (m := 256) (i := 1) (jj _ _ (fun _ => rfl)) rfl) fun H b207 fz132 => ?_
 have b204 := (fz132 204 (by decide)).trans b204
 have o1092 := o1092.mono (fz132 1092 (by decide))
 have o1098 := o1098.mono (fz132 1098 (by decide))
 have o1008 := o1008.mono (fz132 1008 (by decide))
 refine PL.nil (hK127 _ _ ?_)
 refine A6 1 f1 2 f2 4 f4 7 f7 8 f8 9 f9 fun F f1 f2 f4 f7 f8 f9 => ?_
 refine PC.regionT 9 mixed (by kernel_rfl) ?_
 refine Q2 (PV.pp 207 258 v207) (yu ze qh (by decide) f7 b207) ?_
 refine Q2 q46 (vm qh (e_ (PV.pp 207 258 v207)) b207 (zhq (m := 256) (i := 2) (jj _ _ (fun _ => rfl)) rfl)) ?_
 refine Q2 (jn a0) (vw Qv f2 (yb _)) ?_
 refine Q2 _ (jb f8) ?_
 refine Q2 _ (jb f9) ?_
 obtain ⟨x133, hx133, hs50⟩ := bs hs50
 refine Q2 (PV.pp 1008 ((x40 : Int).toNat * 1) (yh q78)) (z7 (rep := slI) Jz o1008 (e_ q78) (e_ (I x40)) hx133) ?_
 refine Q2 (slI x133) (zdd qh (e_ (PV.pp 1008 ((x40 : Int).toNat * 1) (yh q78))) o1008 hx133) ?_
 obtain ⟨x134, hx134, hs50⟩ := bs hs50
 refine Q4 (I x134) (j0 (by kernel_rfl) (am (e_ (jn a0)) (am (e_ (slI x133)) (am0))) (js (yl _) (js (ye _) (j2))) (zfe hx134)) ?_
 refine Q4 (slI ([x134] : List Int)) (yx (rep := I) (xs := [x134]) qj rfl (by decide) (bm (e_ (I x134)) (bm0)) rfl rfl) ?_
 refine QF.nil ?_
 obtain ⟨x135, hx135, hs50⟩ := bs hs50
 refine PL.appG (rep := I) (ys := ([x134] : List Int)) rfl rfl rfl (by decide) qj (e_ q46) o1098 (e_ (slI ([x134] : List Int))) (fun _ => rfl) (lf1 (fun _ => rfl) (fun _ => rfl)) hx135 fun q136 H o1098 fz137 => ?_
 have b204 := (fz137 204 (by decide)).trans b204
 have b207 := (fz137 207 (by decide)).trans b207
 have o1092 := o1092.mono (fz137 1092 (by decide))
 have o1008 := o1008.mono (fz137 1008 (by decide))
 refine Q1 (PV.pp 207 258 v207) (yu ze qh (by decide) f7 b207) ?_
 refine PL.storeA (ag := false) (cs' := (((arV (n := 256) U8) x19.1).cells ++ [(I x19.2), q130, q136])) (ps := [q136]) rfl rfl (fun _ h => by cases h) (e_ (PV.pp 207 258 v207)) b207 qh (e_ q136) (Zw o1098) (Jt o1098) rfl (by rw [(qb (jj _ _ (fun _ => rfl)) rfl)]; exact Nat.le_of_ble_eq_true rfl) (zli (m := 256) (i := 2) (jj _ _ (fun _ => rfl)) rfl) fun H b207 fz138 => ?_
 have b204 := (fz138 204 (by decide)).trans b204
 have o1092 := o1092.mono (fz138 1092 (by decide))
 have o1098 := o1098.mono (fz138 1098 (by decide))
 have o1008 := o1008.mono (fz138 1008 (by decide))
 refine PL.nil (hK55 _ _ ?_)
 refine A6 1 f1 2 f2 4 f4 7 f7 8 f8 9 f9 fun F f1 f2 f4 f7 f8 f9 => ?_
 refine PC.region ?_
 refine Q1 _ (jb f9) ?_
 refine Q1 _ (jh rfl (e_ (I x40)) (e_ (I 1)) j3) ?_
 refine Q1 _ (jf (e_ (I (w64 (x40 + 1))))) ?_
 refine PL.nil ?_
 have hs50 := pz hs50
 subst hs50
 exact ⟨m51, Nat.lt_succ_self _, ((w64 (x40 + 1)), x77, x129, x135), q78, q130, q136, ho47, f1, f2, f4, f7, f8, (e_ (I (w64 (x40 + 1)))), b204, b207, o1008, o1092, o1098⟩
 refine PC.condFb f40 hb54 ?_
 refine PC.exit ?_
 have hs50 := pz hs50
 subst hs50
 try dsimp only at ho47
 subst ho47
 try dsimp only at h0
 refine hK25 _ _ ?_
 refine A3 4 f4 7 f7 8 f8 fun F f4 f7 f8 => ?_
 refine PC.seq fun K157 hK157 => ?_
 refine PC.freezeC (rep := slI) (cs' := (((arV (n := 256) U8) x19.1).cells ++ [(I x19.2), (qk x43), q46])) (i := 257) b207 (zlq (m := 256) (i := 1) (jj _ _ (fun _ => rfl)) rfl) o1092 (fun _ => rfl) (by decide) (zlp (m := 256) (i := 1) (jj _ _ (fun _ => rfl)) rfl) fun H b207 fz158 => ?_
 have b204 := (fz158 204 (by decide) (by decide)).trans b204
 have o1098 := o1098.mono (fz158 1098 (by decide) (by decide))
 have o1008 := o1008.mono (fz158 1008 (by decide) (by decide))
 refine PC.freezeC (rep := I) (cs' := (((arV (n := 256) U8) x19.1).cells ++ [(I x19.2), (qk x43), (slI x45)])) (i := 258) b207 (zlq (m := 256) (i := 2) (jj _ _ (fun _ => rfl)) rfl) o1098 (fun _ => rfl) (by decide) (zlp (m := 256) (i := 2) (jj _ _ (fun _ => rfl)) rfl) fun H b207 fz159 => ?_
 have b204 := (fz159 204 (by decide) (by decide)).trans b204
 have o1008 := o1008.mono (fz159 1008 (by decide) (by decide))
 refine PC.region ?_
 refine Q1 (jc (⟨x19.1, x19.2, x43, x45⟩ : jd)) (vm v7 f7 b207 (yo (qe (⟨x19.1, x19.2, x43, x45⟩ : jd)))) ?_
 refine Q1 _ (jb f8) ?_
 refine Q1 (I (x41.length : Int)) (Vu vp o1008 (e_ q42)) ?_
 refine PL.storeA (ag := true) (cs' := (((arV (n := 256) U8) ((⟨x19.1, x19.2, x43, x45⟩ : jd).jp)).cells ++ [(I ((⟨x19.1, x19.2, x43, x45⟩ : jd).ji)), (qk ((⟨x19.1, x19.2, x43, x45⟩ : jd).je)), (slI ((⟨x19.1, x19.2, x43, x45⟩ : jd).jl))])) (ps := (((arV (n := 256) U8) ((⟨x19.1, x19.2, x43, x45⟩ : jd).jp)).cells ++ [(I ((⟨x19.1, x19.2, x43, x45⟩ : jd).ji)), (qk ((⟨x19.1, x19.2, x43, x45⟩ : jd).je)), (slI ((⟨x19.1, x19.2, x43, x45⟩ : jd).jl))])) rfl rfl (fun _ h => by cases h) f4 b204 v7 (e_ (jc (⟨x19.1, x19.2, x43, x45⟩ : jd))) (qt _ _) rfl (qb (jj _ _ (fun _ => rfl)) rfl) (by rw [(qb (jj _ _ (fun _ => rfl)) rfl)]; exact Nat.le_of_ble_eq_true rfl) (vz (N := 256 + (3)) (qb (jj _ _ (fun _ => rfl)) rfl) (qb (jj _ _ (fun _ => rfl)) rfl)) fun H b204 fz160 => ?_
 have b207 := (fz160 207 (by decide)).trans b207
 have o1008 := o1008.mono (fz160 1008 (by decide))
 refine Q1 _ (jf (e_ (I (x41.length : Int)))) ?_
 refine Q1 _ (jf (e_ (I 0))) ?_
 refine PL.nil (hK157 _ _ ?_)
 refine A3 4 f4 5 (e_ (I (x41.length : Int))) 6 (e_ (I 0)) fun F f4 f5 f6 => ?_
 refine PC.ret ?_
 have h0 := pz h0
 subst h0
 exact fin (p0 := PV.tup [(jc (⟨((⟨x19.1, x19.2, x43, x45⟩ : jd).jp), ((⟨x19.1, x19.2, x43, x45⟩ : jd).ji), ((⟨x19.1, x19.2, x43, x45⟩ : jd).je), ((⟨x19.1, x19.2, x43, x45⟩ : jd).jl)⟩ : jd)), (I (x41.length : Int)), (I 0)]) (.inr rfl) (Yq (rs := [.cell 4 26, .tmp 5, .tmp 6]) Try.results26 (by decide) (rlc (zf v7 f4 b204 (yo (qe (⟨((⟨x19.1, x19.2, x43, x45⟩ : jd).jp), ((⟨x19.1, x19.2, x43, x45⟩ : jd).ji), ((⟨x19.1, x19.2, x43, x45⟩ : jd).je), ((⟨x19.1, x19.2, x43, x45⟩ : jd).jl)⟩ : jd)))) (rlc (Jy f5) (rlc (Jy f6) (rl0))))) (.tup _ (js (qa _) (js (.u _) (js (.u _) (j2)))))
def zav (a0 : (List ByteArray)) : G jd :=
  G.bind (G.loop (σ := (Int × (List q6))) (α := (List q6)) (fun (x16, x17) => G.cond (decide (x16 < (a0.length : Int))) (G.bind (G.lift (idx a0 x16)) fun x29 => G.bind (zam x29) fun x30 => G.bind (G.lift (app 48 x17 ([(⟨(⟨#[]⟩), x30.1, 0⟩ : q6)] : List q6))) fun x31 => G.pure (.inl ((w64 (x16 + 1)), x31))) (G.pure (.inr x17))) (0, [])) fun x43 => G.bind (zal x43) fun x47 => G.bind (Z5 x47 50) fun x48 => G.pure (⟨((⟨x48.1.jp, x48.1.ji, x48.1.je, x48.1.jl⟩ : jd).jp), ((⟨x48.1.jp, x48.1.ji, x48.1.je, x48.1.jl⟩ : jd).ji), ((⟨x48.1.jp, x48.1.ji, x48.1.je, x48.1.jl⟩ : jd).je), ((⟨x48.1.jp, x48.1.ji, x48.1.je, x48.1.jl⟩ : jd).jl)⟩ : jd)
theorem zdj {nn : Nat} {a0 : (List ByteArray)} {r : jd} (h0 : zav a0 nn = some r) : PCall Try.prog 15 [zhm a0] (· = jc r) := by
 unfold zav at h0
 refine PCall.intro' Try.func15 rfl Try.ntmps15 (by simp) fun W => ?_
 refine A1 0 (e_ (zhm a0)) fun F f0 => ?_
 generalize PHeap.empty = H
 refine SR fun K1 hK1 => ?_
 refine PL.allocA 202 (cs := (((arV (n := 256) U8) (arZ 256 0)).cells ++ [(I 0), (PV.u (.slice none 0 0)), (PV.u (.slice none 0 0))])) rfl rfl rfl (by decide) Y8 (by kernel_rfl) (by kernel_rfl) fun v202 H b202 fz2 => ?_
 refine PL.recell (cs' := (((arV (n := 256) U8) (arZ 256 0)).cells ++ [(I 0), (qk []), (slI [])])) b202 (WeakL.app (WeakL.refl _) (WeakL.cons (Weak.refl _) (WeakL.cons (Weak.nil _) (WeakL.cons (Weak.nil _) (WeakL.nil))))) fun H b202 fz3 => ?_
 refine PL.nil (hK1 _ _ ?_)
 refine A2 0 f0 2 (e_ (PV.pp 202 0 v202)) fun F f0 f2 => ?_
 refine SR fun K4 hK4 => ?_
 refine PL.litO (rep := qd) (xs := []) 1003 rfl rfl rfl (by decide) zga rfl (by decide) (bm0) rfl rfl fun q5 H o1003 fz6 => ?_
 have b202 := (fz6 202 (by decide)).trans b202
 refine Q1 _ (jf (e_ q5)) ?_
 refine PL.nil (hK4 _ _ ?_)
 refine A3 0 f0 2 f2 3 (e_ q5) fun F f0 f2 f3 => ?_
 refine PC.seq fun K7 hK7 => ?_
 refine SR fun K8 hK8 => ?_
 refine Q1 _ (jf (e_ (I 0))) ?_
 refine PL.nil (hK8 _ _ ?_)
 refine A4 0 f0 2 f2 3 f3 4 (e_ (I 0)) fun F f0 f2 f3 f4 => ?_
 refine PC.block ?_
 obtain ⟨o19, ho19, h0⟩ := bs h0
 obtain ⟨B20, hB20, ho19⟩ := G.loop_some ho19
 refine PC.loop (fun m23 F H => ∃ s54 : (Int × (List q6)), ∃ q18, qw B20 m23 s54 = some o19 ∧ F 0 = (zhm a0) ∧ F 2 = (PV.pp 202 0 v202) ∧ F 3 = q18 ∧ F 4 = (I s54.1) ∧ H 202 = ⟨v202, some (.box 26 (((arV (n := 256) U8) (arZ 256 0)).cells ++ [(I 0), (qk []), (slI [])]))⟩ ∧ ownL 59 3 qd H 1003 q18 s54.2) (m := nn) ⟨(0, []), q5, ho19, f0, f2, f3, f4, b202, o1003⟩ fun m23 F H hI => ?_
 obtain ⟨⟨x16, x17⟩, q18, ho19, f0, f2, f3, f4, b202, o1003⟩ := hI
 obtain ⟨m23, rfl, st21, hs22, ho19⟩ := jw ho19
 rw [hB20] at hs22
 try dsimp only at hs22
 refine PC.seq fun K24 hK24 => ?_
 refine SR fun K25 hK25 => ?_
 refine Q1 _ (jb f4) ?_
 refine Q1 _ (jb f0) ?_
 refine Q1 (I (a0.length : Int)) (qg (rep := S) (xs := a0) zlh (e_ (zhm a0))) ?_
 refine Q1 _ (jh rfl (e_ (I x16)) (e_ (I (a0.length : Int))) jv) ?_
 refine PL.nil (hK25 _ _ ?_)
 refine A5 0 f0 2 f2 3 f3 4 f4 15 (e_ (B (decide (x16 < (a0.length : Int))))) fun F f0 f2 f3 f4 f15 => ?_
 rcases cz hs22 with ⟨hb26, hs22⟩ | ⟨hb26, hs22⟩
 refine PC.condTb f15 hb26 ?_
 refine PC.skip ?_
 refine hK24 _ _ ?_
 refine A4 0 f0 2 f2 3 f3 4 f4 fun F f0 f2 f3 f4 => ?_
 refine PC.seq fun K27 hK27 => ?_
 refine PC.block ?_
 refine SR fun K28 hK28 => ?_
 refine Q1 _ (jb f0) ?_
 refine Q1 _ (jb f4) ?_
 obtain ⟨x29, hx29, hs22⟩ := bs hs22
 refine Q1 (PV.rp (S x29).cells) (j1 (rep := S) (xs := a0) esz_40 (e_ (zhm a0)) (e_ (I x16)) hx29) ?_
 refine Q1 (S x29) (qr zkh (e_ (PV.rp (S x29).cells))) ?_
 obtain ⟨x30, hx30, hs22⟩ := bs hs22
 refine Q3 (PV.tup [(ja x30.1), (I x30.2.1), (I x30.2.2)]) (j0 (by kernel_rfl) (am (e_ (S x29)) (am0)) (js (.u _) (j2)) (zgu hx30)) ?_
 refine Q1 _ (jb (e_ (PV.tup [(ja x30.1), (I x30.2.1), (I x30.2.2)]))) ?_
 refine Q1 _ (vj (e_ (PV.tup [(ja x30.1), (I x30.2.1), (I x30.2.2)])) rfl) ?_
 refine Q1 _ (vj (e_ (PV.tup [(ja x30.1), (I x30.2.1), (I x30.2.2)])) rfl) ?_
 refine Q1 _ (vj (e_ (PV.tup [(ja x30.1), (I x30.2.1), (I x30.2.2)])) rfl) ?_
 refine Q1 _ (jf (e_ (ja x30.1))) ?_
 refine Q1 _ (jf (e_ (I x30.2.1))) ?_
 refine Q1 _ (jf (e_ (I x30.2.2))) ?_
 refine PL.nil (hK28 _ _ ?_)
 refine A5 0 f0 2 f2 3 f3 4 f4 5 (e_ (ja x30.1)) fun F f0 f2 f3 f4 f5 => ?_
 refine PC.region ?_
 refine Q1 _ (jb f3) ?_
 refine Q1 _ (jb f5) ?_
 refine Q1 (qd (⟨(⟨#[]⟩), x30.1, 0⟩ : q6)) (Jg (bm (e_ (ja x30.1)) (bm0)) (by kernel_rfl)) ?_
 refine Q3 (vg ([(⟨(⟨#[]⟩), x30.1, 0⟩ : q6)] : List q6)) (yx (rep := qd) (xs := [(⟨(⟨#[]⟩), x30.1, 0⟩ : q6)]) zga rfl (by decide) (bm (e_ (qd (⟨(⟨#[]⟩), x30.1, 0⟩ : q6))) (bm0)) rfl rfl) ?_
 obtain ⟨x31, hx31, hs22⟩ := bs hs22
 refine PL.appG (rep := qd) (ys := ([(⟨(⟨#[]⟩), x30.1, 0⟩ : q6)] : List q6)) rfl rfl rfl (by decide) zga (e_ q18) o1003 (e_ (vg ([(⟨(⟨#[]⟩), x30.1, 0⟩ : q6)] : List q6))) (fun _ => rfl) (lfa (fun _ => zg0 _ _)) hx31 fun q32 H o1003 fz33 => ?_
 have b202 := (fz33 202 (by decide)).trans b202
 refine Q1 _ (jf (e_ q32)) ?_
 refine PL.nil (hK27 _ _ ?_)
 refine A4 0 f0 2 f2 3 (e_ q32) 4 f4 fun F f0 f2 f3 f4 => ?_
 refine PC.region ?_
 refine Q1 _ (jb f4) ?_
 refine Q1 _ (jh rfl (e_ (I x16)) (e_ (I 1)) j3) ?_
 refine Q1 _ (jf (e_ (I (w64 (x16 + 1))))) ?_
 refine PL.nil ?_
 have hs22 := pz hs22
 subst hs22
 exact ⟨m23, Nat.lt_succ_self _, ((w64 (x16 + 1)), x31), q32, ho19, f0, f2, f3, (e_ (I (w64 (x16 + 1)))), b202, o1003⟩
 refine PC.condFb f15 hb26 ?_
 refine PC.exit ?_
 have hs22 := pz hs22
 subst hs22
 try dsimp only at ho19
 subst ho19
 try dsimp only at h0
 refine hK7 _ _ ?_
 refine A2 2 f2 3 f3 fun F f2 f3 => ?_
 refine PC.seq fun K34 hK34 => ?_
 refine PC.freezeL (rep := qd) 3 f3 o1003 (fun _ => rfl) fun H fz35 => ?_
 have b202 := (fz35 202 (by decide)).trans b202
 refine PC.region ?_
 refine Q1 _ (jb (e_ (vg x17))) ?_
 obtain ⟨x36, hx36, h0⟩ := bs h0
 refine Q3 (jn x36) (j0 (by kernel_rfl) (am (e_ (vg x17)) (am0)) (js (zcp _) (j2)) (zgb hx36)) ?_
 obtain ⟨x37, hx37, h0⟩ := bs h0
 refine Q3 (PV.tup [(jc x37.1), (I x37.2.1), (I x37.2.2)]) (j0 (by kernel_rfl) (am (e_ (jn x36)) (am (e_ (I 50)) (am0))) (js (yl _) (js (.u _) (j2))) (zfa hx37)) ?_
 refine Q1 _ (jb (e_ (PV.tup [(jc x37.1), (I x37.2.1), (I x37.2.2)]))) ?_
 refine Q1 _ (vj (e_ (PV.tup [(jc x37.1), (I x37.2.1), (I x37.2.2)])) rfl) ?_
 refine Q1 _ (vj (e_ (PV.tup [(jc x37.1), (I x37.2.1), (I x37.2.2)])) rfl) ?_
 refine Q1 _ (vj (e_ (PV.tup [(jc x37.1), (I x37.2.1), (I x37.2.2)])) rfl) ?_
 refine PL.allocA 208 (cs := (((arV (n := 256) U8) (arZ 256 0)).cells ++ [(I 0), (PV.u (.slice none 0 0)), (PV.u (.slice none 0 0))])) rfl rfl rfl (by decide) Y8 (by kernel_rfl) (by kernel_rfl) fun v208 H b208 fz38 => ?_
 have b202 := (fz38 202 (by decide)).trans b202
 refine PL.recell (cs' := (((arV (n := 256) U8) (arZ 256 0)).cells ++ [(I 0), (qk []), (slI [])])) b208 (WeakL.app (WeakL.refl _) (WeakL.cons (Weak.refl _) (WeakL.cons (Weak.nil _) (WeakL.cons (Weak.nil _) (WeakL.nil))))) fun H b208 fz39 => ?_
 have b202 := (fz39 202 (by decide)).trans b202
 refine PL.storeA (ag := true) (cs' := (((arV (n := 256) U8) x37.1.jp).cells ++ [(I x37.1.ji), (qk x37.1.je), (slI x37.1.jl)])) (ps := (((arV (n := 256) U8) x37.1.jp).cells ++ [(I x37.1.ji), (qk x37.1.je), (slI x37.1.jl)])) rfl rfl (fun _ h => by cases h) (e_ (PV.pp 208 0 v208)) b208 v7 (e_ (jc x37.1)) (qt _ _) rfl (qb (jj _ _ (fun _ => rfl)) rfl) (by rw [(qb (jj _ _ (fun _ => rfl)) rfl)]; exact Nat.le_of_ble_eq_true rfl) (vz (N := 256 + (3)) (qb (jj _ _ (fun _ => rfl)) rfl) (qb (jj _ _ (fun _ => rfl)) rfl)) fun H b208 fz40 => ?_
 have b202 := (fz40 202 (by decide)).trans b202
 refine Q1 _ (jf (e_ (I x37.2.1))) ?_
 refine Q1 _ (jf (e_ (I x37.2.2))) ?_
 refine PL.nil (hK34 _ _ ?_)
 refine A2 2 f2 8 (e_ (PV.pp 208 0 v208)) fun F f2 f8 => ?_
 refine SR fun K41 hK41 => ?_
 refine Q1 (jc (⟨x37.1.jp, x37.1.ji, x37.1.je, x37.1.jl⟩ : jd)) (vm v7 f8 b208 (yo (qe (⟨x37.1.jp, x37.1.ji, x37.1.je, x37.1.jl⟩ : jd)))) ?_
 refine PL.storeA (ag := true) (cs' := (((arV (n := 256) U8) ((⟨x37.1.jp, x37.1.ji, x37.1.je, x37.1.jl⟩ : jd).jp)).cells ++ [(I ((⟨x37.1.jp, x37.1.ji, x37.1.je, x37.1.jl⟩ : jd).ji)), (qk ((⟨x37.1.jp, x37.1.ji, x37.1.je, x37.1.jl⟩ : jd).je)), (slI ((⟨x37.1.jp, x37.1.ji, x37.1.je, x37.1.jl⟩ : jd).jl))])) (ps := (((arV (n := 256) U8) ((⟨x37.1.jp, x37.1.ji, x37.1.je, x37.1.jl⟩ : jd).jp)).cells ++ [(I ((⟨x37.1.jp, x37.1.ji, x37.1.je, x37.1.jl⟩ : jd).ji)), (qk ((⟨x37.1.jp, x37.1.ji, x37.1.je, x37.1.jl⟩ : jd).je)), (slI ((⟨x37.1.jp, x37.1.ji, x37.1.je, x37.1.jl⟩ : jd).jl))])) rfl rfl (fun _ h => by cases h) f2 b202 v7 (e_ (jc (⟨x37.1.jp, x37.1.ji, x37.1.je, x37.1.jl⟩ : jd))) (qt _ _) rfl (qb (jj _ _ (fun _ => rfl)) rfl) (by rw [(qb (jj _ _ (fun _ => rfl)) rfl)]; exact Nat.le_of_ble_eq_true rfl) (vz (N := 256 + (3)) (qb (jj _ _ (fun _ => rfl)) rfl) (qb (jj _ _ (fun _ => rfl)) rfl)) fun H b202 fz42 => ?_
 have b208 := (fz42 208 (by decide)).trans b208
 refine PL.nil (hK41 _ _ ?_)
 refine A1 2 f2 fun F f2 => ?_
 refine PC.ret ?_
 have h0 := pz h0
 subst h0
 exact fin (p0 := (jc (⟨((⟨x37.1.jp, x37.1.ji, x37.1.je, x37.1.jl⟩ : jd).jp), ((⟨x37.1.jp, x37.1.ji, x37.1.je, x37.1.jl⟩ : jd).ji), ((⟨x37.1.jp, x37.1.ji, x37.1.je, x37.1.jl⟩ : jd).je), ((⟨x37.1.jp, x37.1.ji, x37.1.je, x37.1.jl⟩ : jd).jl)⟩ : jd))) (.inr rfl) (Zu Try.results15 (zf v7 f2 b202 (yo (qe (⟨((⟨x37.1.jp, x37.1.ji, x37.1.je, x37.1.jl⟩ : jd).jp), ((⟨x37.1.jp, x37.1.ji, x37.1.je, x37.1.jl⟩ : jd).ji), ((⟨x37.1.jp, x37.1.ji, x37.1.je, x37.1.jl⟩ : jd).je), ((⟨x37.1.jp, x37.1.ji, x37.1.je, x37.1.jl⟩ : jd).jl)⟩ : jd))))) (qa _)
def Y4 (a0 : (Arr 4 Int)) (a1 : Int) : G Bool :=
  G.bind (G.lift (zkz .u8 a1 64)) fun x3 => G.bind (G.lift (idx a0.1 x3)) fun x4 => G.bind (G.lift (zlj .u8 a1 64)) fun x5 => G.bind (G.lift (zom .u64 1 x5)) fun x6 => G.pure (decide (¬ (zly .u64 x4 x6) = 0))
theorem zi6 {nn : Nat} {a0 : (Arr 4 Int)} {a1 : Int} {r : Bool} (h0 : Y4 a0 a1 nn = some r) : PCall Try.prog 69 [(arV (n := 4) (iK .u64)) a0, U8 a1] (· = B r) := by
 unfold Y4 at h0
 refine PCall.intro' Try.func69 rfl Try.ntmps69 (by simp) fun W => ?_
 refine A2 0 (e_ ((arV (n := 4) (iK .u64)) a0)) 1 (e_ (U8 a1)) fun F f0 f1 => ?_
 generalize PHeap.empty = H
 refine SR fun K1 hK1 => ?_
 refine Q3 (PV.rp ((arV (n := 4) (iK .u64)) a0).cells) (zk f0 (v8 _ _ _ (fun _ => rfl))) ?_
 refine Q1 _ (jf (e_ (B false))) ?_
 refine PL.nil (hK1 _ _ ?_)
 refine A2 1 f1 2 (e_ (PV.rp ((arV (n := 4) (iK .u64)) a0).cells)) fun F f1 f2 => ?_
 refine SR fun K2 hK2 => ?_
 refine Q1 _ (jb f1) ?_
 obtain ⟨x3, hx3, h0⟩ := bs h0
 refine Q1 _ (jh rfl (e_ (U8 a1)) (e_ (U8 64)) (zjt hx3)) ?_
 obtain ⟨x4, hx4, h0⟩ := bs h0
 refine Q1 (PV.rp (((arV (n := 4) (iK .u64)) a0).cells.drop ((x3 : Int).toNat * 1))) (zcg (rep := (iK .u64)) (a := a0) zi3 f2 (e_ (U8 x3)) hx4) ?_
 refine Q1 ((iK .u64) x4) (jx ziy (e_ (PV.rp (((arV (n := 4) (iK .u64)) a0).cells.drop ((x3 : Int).toNat * 1)))) (zb0 hx4)) ?_
 refine Q1 _ (jb f1) ?_
 obtain ⟨x5, hx5, h0⟩ := bs h0
 refine Q1 _ (jh rfl (e_ (U8 a1)) (e_ (U8 64)) (zki hx5)) ?_
 obtain ⟨x6, hx6, h0⟩ := bs h0
 refine Q1 _ (jh rfl (e_ ((iK .u64) 1)) (e_ (U8 x5)) (zow hx6)) ?_
 refine Q1 _ (jh rfl (e_ ((iK .u64) x4)) (e_ ((iK .u64) x6)) (b_and _ _)) ?_
 refine Q1 _ (jh rfl (e_ ((iK .u64) (zly .u64 x4 x6))) (e_ ((iK .u64) 0)) yc) ?_
 refine Q1 _ (jf (e_ (B (decide (¬ (zly .u64 x4 x6) = 0))))) ?_
 refine PL.nil (hK2 _ _ ?_)
 refine A1 4 (e_ (B (decide (¬ (zly .u64 x4 x6) = 0)))) fun F f4 => ?_
 refine PC.ret ?_
 have h0 := pz h0
 subst h0
 exact fin (.inr rfl) (j9 Try.results69 f4) (.u _)
def Q6 (a0 : (Arr 256 Int)) (a1 : (Arr 4 Int)) : G (Arr 256 Int) :=
  G.bind (G.loop (σ := (Int × (Arr 256 Int) × (List (jk × Int)))) (α := (Arr 256 Int)) (fun (x14, x15, x16) => G.cond (decide (x14 < 256)) (G.bind (G.lift (idx x15.1 x14)) fun x29 => G.bind (Y4 a1 (IntKind.u8.wrap x14)) fun x30 => G.bind (α := (List (jk × Int))) (G.cond (!((Qe (fun a b => (jz a b).all id) x16 (⟨((⟨x29, x30⟩ : jk).vi), ((⟨x29, x30⟩ : jk).yr)⟩ : jk)).isSome)) (G.pure (zh1 (fun a b => (jz a b).all id) x16 (⟨((⟨x29, x30⟩ : jk).vi), ((⟨x29, x30⟩ : jk).yr)⟩ : jk) (IntKind.u8.wrap (x16.length : Int)))) (G.pure x16)) fun x35 => G.bind (G.lift (idx x15.1 x14)) fun x37 => G.pure (.inl ((w64 (x14 + 1)), (arS x15 x14 ((Qe (fun a b => (jz a b).all id) x35 (⟨((⟨x29, x30⟩ : jk).vi), ((⟨x29, x30⟩ : jk).yr)⟩ : jk)).getD 0)), x35))) (G.pure (.inr x15))) (0, a0, [])) fun x46 => G.pure x46
theorem zgi {nn : Nat} {a0 : (Arr 256 Int)} {a1 : (Arr 4 Int)} {r : (Arr 256 Int)} (h0 : Q6 a0 a1 nn = some r) : PCall Try.prog 49 [(arV (n := 256) U8) a0, (arV (n := 4) (iK .u64)) a1] (· = (arV (n := 256) U8) r) := by
 unfold Q6 at h0
 refine PCall.intro' Try.func49 rfl Try.ntmps49 (by simp) fun W => ?_
 refine A2 0 (e_ ((arV (n := 256) U8) a0)) 1 (e_ ((arV (n := 4) (iK .u64)) a1)) fun F f0 f1 => ?_
 generalize PHeap.empty = H
 refine SR fun K1 hK1 => ?_
 refine PL.boxA 202 (v := ((arV (n := 256) U8) a0)) (cs := ((arV (n := 256) U8) a0).cells) rfl rfl rfl (by decide) f0 (v8 _ _ _ (fun _ => rfl)) rfl fun v202 H b202 fz2 => ?_
 refine Q3 (PV.rp ((arV (n := 4) (iK .u64)) a1).cells) (zk f1 (v8 _ _ _ (fun _ => rfl))) ?_
 refine PL.allocA 204 (cs := ((arV (n := 256) U8) (arZ 256 0)).cells) rfl rfl rfl (by decide) zf7 (by kernel_rfl) (by kernel_rfl) fun v204 H b204 fz3 => ?_
 have b202 := (fz3 202 (by decide)).trans b202
 refine PL.nil (hK1 _ _ ?_)
 refine A3 2 (e_ (PV.pp 202 0 v202)) 3 (e_ (PV.rp ((arV (n := 4) (iK .u64)) a1).cells)) 4 (e_ (PV.pp 204 0 v204)) fun F f2 f3 f4 => ?_
 refine SR fun K4 hK4 => ?_
 refine PL.mkM (kv := (fun a => Value.agg (zj a))) (vv := (Value.int .u8)) 1005 rfl rfl rfl (by decide) fun q5 H o1005 fz6 => ?_
 have b202 := (fz6 202 (by decide)).trans b202
 have b204 := (fz6 204 (by decide)).trans b204
 refine Q1 _ (jf (e_ q5)) ?_
 refine PL.nil (hK4 _ _ ?_)
 refine A4 2 f2 3 f3 4 f4 5 (e_ q5) fun F f2 f3 f4 f5 => ?_
 refine PC.seq fun K7 hK7 => ?_
 refine SR fun K8 hK8 => ?_
 refine Q1 _ (jb (e_ (I 0))) ?_
 refine PL.nil (hK8 _ _ ?_)
 refine A5 2 f2 3 f3 4 f4 5 f5 11 (e_ (I 0)) fun F f2 f3 f4 f5 f11 => ?_
 refine PC.block ?_
 obtain ⟨o18, ho18, h0⟩ := bs h0
 obtain ⟨B19, hB19, ho18⟩ := G.loop_some ho18
 refine PC.loop (fun m22 F H => ∃ s49 : (Int × (Arr 256 Int) × (List (jk × Int))), ∃ q17, qw B19 m22 s49 = some o18 ∧ F 2 = (PV.pp 202 0 v202) ∧ F 3 = (PV.rp ((arV (n := 4) (iK .u64)) a1).cells) ∧ F 4 = (PV.pp 204 0 v204) ∧ F 5 = q17 ∧ F 11 = (I s49.1) ∧ H 202 = ⟨v202, some (.box 22 ((arV (n := 256) U8) s49.2.1).cells)⟩ ∧ H 204 = ⟨v204, some (.box 22 ((arV (n := 256) U8) (arZ 256 0)).cells)⟩ ∧ ownM (fun a => Value.agg (zj a)) (Value.int .u8) H 1005 q17 s49.2.2) (m := nn) ⟨(0, a0, []), q5, ho18, f2, f3, f4, f5, f11, b202, b204, o1005⟩ fun m22 F H hI => ?_
 obtain ⟨⟨x14, x15, x16⟩, q17, ho18, f2, f3, f4, f5, f11, b202, b204, o1005⟩ := hI
 obtain ⟨m22, rfl, st20, hs21, ho18⟩ := jw ho18
 rw [hB19] at hs21
 try dsimp only at hs21
 refine SR fun K23 hK23 => ?_
 refine Q1 _ (jh rfl f11 (e_ (I 256)) jv) ?_
 refine PL.nil (hK23 _ _ ?_)
 refine A6 2 f2 3 f3 4 f4 5 f5 11 f11 12 (e_ (B (decide (x14 < 256)))) fun F f2 f3 f4 f5 f11 f12 => ?_
 refine PC.seq fun K24 hK24 => ?_
 rcases cz hs21 with ⟨hb25, hs21⟩ | ⟨hb25, hs21⟩
 refine PC.condTb f12 hb25 ?_
 refine PC.skip ?_
 refine hK24 _ _ ?_
 refine A5 2 f2 3 f3 4 f4 5 f5 11 f11 fun F f2 f3 f4 f5 f11 => ?_
 refine PC.seq fun K26 hK26 => ?_
 refine PC.block ?_
 refine SR fun K27 hK27 => ?_
 refine Q1 _ (jb f11) ?_
 refine Q1 _ (jf (e_ (I x14))) ?_
 refine PL.nil (hK27 _ _ ?_)
 refine A6 2 f2 3 f3 4 f4 5 f5 6 (e_ (I x14)) 11 f11 fun F f2 f3 f4 f5 f6 f11 => ?_
 refine PC.seq fun K28 hK28 => ?_
 refine PC.regionN (cs := [(U8 0), (B false)]) 207 9 8 [0, 1, 2, 3, 4, 5, 6, 7] [9] mixed (by kernel_rfl) rfl rfl rfl (by decide) zma (by kernel_rfl) (by kernel_rfl) rfl ?_
 refine UF.q (p := (I x14)) rfl (j4 (by decide)) (jb f6) ?_
 obtain ⟨x29, hx29, hs21⟩ := bs hs21
 refine UF.q (p := (PV.pp 202 ((x14 : Int).toNat * 1) v202)) rfl (j4 (by decide)) (zao (rep := U8) (a := x15) Yf f2 b202 (e_ (I x14)) hx29) ?_
 refine UF.q (p := (U8 x29)) rfl (j4 (by decide)) (vm Zm (e_ (PV.pp 202 ((x14 : Int).toNat * 1) v202)) b202 (zjf hx29)) ?_
 refine UF.q (p := ((arV (n := 4) (iK .u64)) a1)) rfl (j4 (by decide)) (vw qy f3 (jj _ _ (fun _ => rfl))) ?_
 refine UF.q (p := (I x14)) rfl (j4 (by decide)) (jb f6) ?_
 refine UF.q (p := (U8 (IntKind.u8.wrap x14))) rfl (j4 (by decide)) (Ja (by kernel_rfl) (by kernel_rfl) (e_ (I x14))) ?_
 obtain ⟨x30, hx30, hs21⟩ := bs hs21
 refine UF.qq (p := (B x30)) rfl (j4 (by decide)) (j0 (by kernel_rfl) (am (e_ ((arV (n := 4) (iK .u64)) a1)) (am (e_ (U8 (IntKind.u8.wrap x14))) (am0))) (js (vc _ (fun _ => (.u _))) (js (.u _) (j2))) (zi6 hx30)) ?_
 refine UF.q (p := (y0 (⟨x29, x30⟩ : jk))) rfl (j4 (by decide)) (Jg (bm (e_ (U8 x29)) (bm (e_ (B x30)) (bm0))) (by kernel_rfl)) ?_
 refine UF.nil ?_
 intro v207 H b207 fz31
 have b202 := (fz31 202 (by decide)).trans b202
 have b204 := (fz31 204 (by decide)).trans b204
 have o1005 := o1005.mono (fz31 1005 (by decide))
 refine PL.storeA (ag := true) (cs' := [(U8 ((⟨x29, x30⟩ : jk).vi)), (B ((⟨x29, x30⟩ : jk).yr))]) (ps := [(U8 ((⟨x29, x30⟩ : jk).vi)), (B ((⟨x29, x30⟩ : jk).yr))]) rfl rfl (fun _ h => by cases h) (e_ (PV.pp 207 0 v207)) b207 zfv (e_ (y0 (⟨x29, x30⟩ : jk))) (zgf _ _) rfl rfl (by decide) rfl fun H b207 fz32 => ?_
 have b202 := (fz32 202 (by decide)).trans b202
 have b204 := (fz32 204 (by decide)).trans b204
 have o1005 := o1005.mono (fz32 1005 (by decide))
 refine PL.nil (hK28 _ _ ?_)
 refine A7 2 f2 3 f3 4 f4 5 f5 6 f6 7 (e_ (PV.pp 207 0 v207)) 11 f11 fun F f2 f3 f4 f5 f6 f7 f11 => ?_
 obtain ⟨o34, ho34, hs21⟩ := bs hs21
 refine PC.seqM (fun F H => ∃ s43 : (List (jk × Int)), ∃ q36, o34 = s43 ∧ F 2 = (PV.pp 202 0 v202) ∧ F 3 = (PV.rp ((arV (n := 4) (iK .u64)) a1).cells) ∧ F 4 = (PV.pp 204 0 v204) ∧ F 5 = q36 ∧ F 6 = (I x14) ∧ F 7 = (PV.pp 207 0 v207) ∧ F 11 = (I x14) ∧ H 202 = ⟨v202, some (.box 22 ((arV (n := 256) U8) x15).cells)⟩ ∧ H 204 = ⟨v204, some (.box 22 ((arV (n := 256) U8) (arZ 256 0)).cells)⟩ ∧ H 207 = ⟨v207, some (.box 115 [(U8 ((⟨x29, x30⟩ : jk).vi)), (B ((⟨x29, x30⟩ : jk).yr))])⟩ ∧ ownM (fun a => Value.agg (zj a)) (Value.int .u8) H 1005 q36 s43) ?_ ?_
 refine SR fun K39 hK39 => ?_
 refine Q1 _ (jb f5) ?_
 refine Q1 (y0 (⟨((⟨x29, x30⟩ : jk).vi), ((⟨x29, x30⟩ : jk).yr)⟩ : jk)) (vm zfv f7 b207 (yo (Ye (⟨((⟨x29, x30⟩ : jk).vi), ((⟨x29, x30⟩ : jk).yr)⟩ : jk)))) ?_
 refine Q3 (PV.tup [(U8 ((Qe (fun a b => (jz a b).all id) x16 (⟨((⟨x29, x30⟩ : jk).vi), ((⟨x29, x30⟩ : jk).yr)⟩ : jk)).getD 0)), (B ((Qe (fun a b => (jz a b).all id) x16 (⟨((⟨x29, x30⟩ : jk).vi), ((⟨x29, x30⟩ : jk).yr)⟩ : jk)).isSome))]) (m_get (elem := 5) (rep := U8) Vo (by kernel_rfl) (fun _ => by kernel_rfl) (fun _ => rfl) o1005 (e_ q17) (e_ (y0 (⟨((⟨x29, x30⟩ : jk).vi), ((⟨x29, x30⟩ : jk).yr)⟩ : jk))) rfl) ?_
 refine Q1 _ (jb (e_ (PV.tup [(U8 ((Qe (fun a b => (jz a b).all id) x16 (⟨((⟨x29, x30⟩ : jk).vi), ((⟨x29, x30⟩ : jk).yr)⟩ : jk)).getD 0)), (B ((Qe (fun a b => (jz a b).all id) x16 (⟨((⟨x29, x30⟩ : jk).vi), ((⟨x29, x30⟩ : jk).yr)⟩ : jk)).isSome))]))) ?_
 refine Q1 _ (vj (e_ (PV.tup [(U8 ((Qe (fun a b => (jz a b).all id) x16 (⟨((⟨x29, x30⟩ : jk).vi), ((⟨x29, x30⟩ : jk).yr)⟩ : jk)).getD 0)), (B ((Qe (fun a b => (jz a b).all id) x16 (⟨((⟨x29, x30⟩ : jk).vi), ((⟨x29, x30⟩ : jk).yr)⟩ : jk)).isSome))])) rfl) ?_
 refine Q1 _ (vj (e_ (PV.tup [(U8 ((Qe (fun a b => (jz a b).all id) x16 (⟨((⟨x29, x30⟩ : jk).vi), ((⟨x29, x30⟩ : jk).yr)⟩ : jk)).getD 0)), (B ((Qe (fun a b => (jz a b).all id) x16 (⟨((⟨x29, x30⟩ : jk).vi), ((⟨x29, x30⟩ : jk).yr)⟩ : jk)).isSome))])) rfl) ?_
 refine Q1 _ (jf (e_ (U8 ((Qe (fun a b => (jz a b).all id) x16 (⟨((⟨x29, x30⟩ : jk).vi), ((⟨x29, x30⟩ : jk).yr)⟩ : jk)).getD 0)))) ?_
 refine Q1 _ (jf (e_ (B ((Qe (fun a b => (jz a b).all id) x16 (⟨((⟨x29, x30⟩ : jk).vi), ((⟨x29, x30⟩ : jk).yr)⟩ : jk)).isSome)))) ?_
 refine PL.nil (hK39 _ _ ?_)
 refine A8 2 f2 3 f3 4 f4 5 f5 6 f6 7 f7 9 (e_ (B ((Qe (fun a b => (jz a b).all id) x16 (⟨((⟨x29, x30⟩ : jk).vi), ((⟨x29, x30⟩ : jk).yr)⟩ : jk)).isSome))) 11 f11 fun F f2 f3 f4 f5 f6 f7 f9 f11 => ?_
 refine SR fun K40 hK40 => ?_
 refine Q1 _ (jb f9) ?_
 refine Q1 (B (!((Qe (fun a b => (jz a b).all id) x16 (⟨((⟨x29, x30⟩ : jk).vi), ((⟨x29, x30⟩ : jk).yr)⟩ : jk)).isSome))) (yn (e_ (B ((Qe (fun a b => (jz a b).all id) x16 (⟨((⟨x29, x30⟩ : jk).vi), ((⟨x29, x30⟩ : jk).yr)⟩ : jk)).isSome)))) ?_
 refine PL.nil (hK40 _ _ ?_)
 refine A8 2 f2 3 f3 4 f4 5 f5 6 f6 7 f7 11 f11 29 (e_ (B (!((Qe (fun a b => (jz a b).all id) x16 (⟨((⟨x29, x30⟩ : jk).vi), ((⟨x29, x30⟩ : jk).yr)⟩ : jk)).isSome)))) fun F f2 f3 f4 f5 f6 f7 f11 f29 => ?_
 rcases cz ho34 with ⟨hb41, ho34⟩ | ⟨hb41, ho34⟩
 refine PC.condTb f29 hb41 ?_
 refine PC.region ?_
 refine Q1 _ (jb f5) ?_
 refine Q1 (y0 (⟨((⟨x29, x30⟩ : jk).vi), ((⟨x29, x30⟩ : jk).yr)⟩ : jk)) (vm zfv f7 b207 (yo (Ye (⟨((⟨x29, x30⟩ : jk).vi), ((⟨x29, x30⟩ : jk).yr)⟩ : jk)))) ?_
 refine Q1 _ (jb f5) ?_
 refine Q3 (I (x16.length : Int)) (m_len (key := 115) (elem := 5) (by kernel_rfl) o1005 (e_ q17)) ?_
 refine Q1 (U8 (IntKind.u8.wrap (x16.length : Int))) (Ja (by kernel_rfl) (by kernel_rfl) (e_ (I (x16.length : Int)))) ?_
 refine PL.putM (elem := 5) (v := (IntKind.u8.wrap (x16.length : Int))) Vo rfl rfl (fun _ h => by cases h) (by kernel_rfl) o1005 (e_ q17) (e_ (y0 (⟨((⟨x29, x30⟩ : jk).vi), ((⟨x29, x30⟩ : jk).yr)⟩ : jk))) rfl (e_ (U8 (IntKind.u8.wrap (x16.length : Int)))) rfl fun H o1005 fz42 => ?_
 have b202 := (fz42 202 (by decide)).trans b202
 have b204 := (fz42 204 (by decide)).trans b204
 have b207 := (fz42 207 (by decide)).trans b207
 refine PL.nil ?_
 have ho34 := pz ho34
 subst ho34
 exact ⟨(zh1 (fun a b => (jz a b).all id) x16 (⟨((⟨x29, x30⟩ : jk).vi), ((⟨x29, x30⟩ : jk).yr)⟩ : jk) (IntKind.u8.wrap (x16.length : Int))), q17, rfl, f2, f3, f4, f5, f6, f7, f11, b202, b204, b207, o1005⟩
 refine PC.condFb f29 hb41 ?_
 refine PC.skip ?_
 have ho34 := pz ho34
 subst ho34
 exact ⟨x16, q17, rfl, f2, f3, f4, f5, f6, f7, f11, b202, b204, b207, o1005⟩
 intro F H hI
 obtain ⟨x35, q36, ho, f2, f3, f4, f5, f6, f7, f11, b202, b204, b207, o1005⟩ := hI
 have ho := ho.symm
 subst ho
 try dsimp only at hs21
 refine PC.region ?_
 refine Q1 _ (jb f6) ?_
 refine Q1 _ (jb f5) ?_
 refine Q1 (y0 (⟨((⟨x29, x30⟩ : jk).vi), ((⟨x29, x30⟩ : jk).yr)⟩ : jk)) (vm zfv f7 b207 (yo (Ye (⟨((⟨x29, x30⟩ : jk).vi), ((⟨x29, x30⟩ : jk).yr)⟩ : jk)))) ?_
 refine Q3 (U8 ((Qe (fun a b => (jz a b).all id) x35 (⟨((⟨x29, x30⟩ : jk).vi), ((⟨x29, x30⟩ : jk).yr)⟩ : jk)).getD 0)) (m_val (elem := 5) (rep := U8) Vo (by kernel_rfl) (fun _ => by kernel_rfl) (fun _ => rfl) o1005 (e_ q36) (e_ (y0 (⟨((⟨x29, x30⟩ : jk).vi), ((⟨x29, x30⟩ : jk).yr)⟩ : jk))) rfl) ?_
 obtain ⟨x37, hx37, hs21⟩ := bs hs21
 refine Q1 (PV.pp 202 ((x14 : Int).toNat * 1) v202) (zao (rep := U8) (a := x15) Yf f2 b202 (e_ (I x14)) hx37) ?_
 refine PL.stB (rep := U8) (u' := ((Qe (fun a b => (jz a b).all id) x35 (⟨((⟨x29, x30⟩ : jk).vi), ((⟨x29, x30⟩ : jk).yr)⟩ : jk)).getD 0)) rfl rfl (fun _ h => by cases h) (e_ (PV.pp 202 ((x14 : Int).toNat * 1) v202)) b202 Zm hx37 (e_ (U8 ((Qe (fun a b => (jz a b).all id) x35 (⟨((⟨x29, x30⟩ : jk).vi), ((⟨x29, x30⟩ : jk).yr)⟩ : jk)).getD 0))) (fun _ => rfl) rfl fun H b202 fz38 => ?_
 have b204 := (fz38 204 (by decide)).trans b204
 have o1005 := o1005.mono (fz38 1005 (by decide))
 have b207 := (fz38 207 (by decide)).trans b207
 refine PL.nil (hK26 _ _ ?_)
 refine A5 2 f2 3 f3 4 f4 5 f5 11 f11 fun F f2 f3 f4 f5 f11 => ?_
 refine PC.region ?_
 refine Q1 _ (jh rfl f11 (e_ (I 1)) j3) ?_
 refine Q1 _ (jb (e_ (I (w64 (x14 + 1))))) ?_
 refine PL.nil ?_
 have hs21 := pz hs21
 subst hs21
 exact ⟨m22, Nat.lt_succ_self _, ((w64 (x14 + 1)), (arS x15 x14 ((Qe (fun a b => (jz a b).all id) x35 (⟨((⟨x29, x30⟩ : jk).vi), ((⟨x29, x30⟩ : jk).yr)⟩ : jk)).getD 0)), x35), q36, ho18, f2, f3, f4, f5, (e_ (I (w64 (x14 + 1)))), b202, b204, o1005⟩
 refine PC.condFb f12 hb25 ?_
 refine PC.exit ?_
 have hs21 := pz hs21
 subst hs21
 try dsimp only at ho18
 subst ho18
 try dsimp only at h0
 refine hK7 _ _ ?_
 refine A2 2 f2 4 f4 fun F f2 f4 => ?_
 refine SR fun K44 hK44 => ?_
 refine Q1 ((arV (n := 256) U8) x15) (vm y5 f2 b202 (yo (jj _ _ (fun _ => rfl)))) ?_
 refine PL.storeA (ag := true) (cs' := ((arV (n := 256) U8) x15).cells) (ps := ((arV (n := 256) U8) x15).cells) rfl rfl (fun _ h => by cases h) f4 b204 y5 (e_ ((arV (n := 256) U8) x15)) (v8 _ _ _ (fun _ => rfl)) rfl (jj _ _ (fun _ => rfl)) (by rw [(jj _ _ (fun _ => rfl))]; exact Nat.le_of_ble_eq_true rfl) (vz (N := 256) (jj _ _ (fun _ => rfl)) (jj _ _ (fun _ => rfl))) fun H b204 fz45 => ?_
 have b202 := (fz45 202 (by decide)).trans b202
 refine PL.nil (hK44 _ _ ?_)
 refine A1 4 f4 fun F f4 => ?_
 refine PC.ret ?_
 have h0 := pz h0
 subst h0
 exact fin (p0 := ((arV (n := 256) U8) x15)) (.inr rfl) (Zu Try.results49 (zf y5 f4 b204 (yo (jj _ _ (fun _ => rfl))))) (vc _ (fun _ => (.u _)))
def Q5 (a0 : (Arr 256 Int)) : G Bool :=
  G.bind (Q6 a0 (arZ 4 0)) fun x3 => G.pure (x3.1 == a0.1)
theorem zg1 {nn : Nat} {a0 : (Arr 256 Int)} {r : Bool} (h0 : Q5 a0 nn = some r) : PCall Try.prog 30 [(arV (n := 256) U8) a0] (· = B r) := by
 unfold Q5 at h0
 refine PCall.intro' Try.func30 rfl Try.ntmps30 (by simp) fun W => ?_
 refine A1 0 (e_ ((arV (n := 256) U8) a0)) fun F f0 => ?_
 generalize PHeap.empty = H
 refine SR fun K1 hK1 => ?_
 refine Q3 (PV.rp ((arV (n := 256) U8) a0).cells) (zk f0 (v8 _ _ _ (fun _ => rfl))) ?_
 refine Q1 _ (jf (e_ (B false))) ?_
 refine PL.nil (hK1 _ _ ?_)
 refine A1 1 (e_ (PV.rp ((arV (n := 256) U8) a0).cells)) fun F f1 => ?_
 refine PC.seq fun K2 hK2 => ?_
 refine PC.regionQ mixed (by kernel_rfl) ?_
 refine Q2 ((arV (n := 256) U8) a0) (vw y5 f1 (jj _ _ (fun _ => rfl))) ?_
 refine Q2 ((arV (n := 4) (iK .u64)) (arZ 4 0)) (Jg (bm0) (by kernel_rfl)) ?_
 obtain ⟨x3, hx3, h0⟩ := bs h0
 refine Q4 ((arV (n := 256) U8) x3) (j0 (by kernel_rfl) (am (e_ ((arV (n := 256) U8) a0)) (am (e_ ((arV (n := 4) (iK .u64)) (arZ 4 0))) (am0))) (js (vc _ (fun _ => (.u _))) (js (vc _ (fun _ => (.u _))) (j2))) (zgi hx3)) ?_
 refine Q2 ((arV (n := 256) U8) a0) (vw y5 f1 (jj _ _ (fun _ => rfl))) ?_
 refine Q4 (B (x3.1 == a0.1)) (ar_eql (e := 5) (kd := .u8) (rep := U8) (fun _ => rfl) (by kernel_rfl) (by kernel_rfl) (fun _ => by kernel_rfl) (by kernel_rfl) x3 a0 (e_ ((arV (n := 256) U8) x3)) (e_ ((arV (n := 256) U8) a0))) ?_
 refine Q2 _ (jf (e_ (B (x3.1 == a0.1)))) ?_
 refine QF.nil ?_
 refine hK2 _ _ ?_
 refine A1 2 (e_ (B (x3.1 == a0.1))) fun F f2 => ?_
 refine PC.ret ?_
 have h0 := pz h0
 subst h0
 exact fin (.inr rfl) (j9 Try.results30 f2) (.u _)
def Vb (a0 : (Arr 256 Int)) : G Int :=
  G.bind (G.loop (σ := (Int × Int)) (α := Int) (fun (x7, x8) => G.cond (decide (x8 < 256)) (G.bind (G.lift (idx a0.1 x8)) fun x19 => G.pure (.inl ((max x7 (w64 ((w64 x19) + 1))), (w64 (x8 + 1))))) (G.pure (.inr x7))) (0, 0)) fun x21 => G.pure x21
theorem zg4 {nn : Nat} {a0 : (Arr 256 Int)} {r : Int} (h0 : Vb a0 nn = some r) : PCall Try.prog 31 [(arV (n := 256) U8) a0] (· = I r) := by
 unfold Vb at h0
 refine PCall.intro' Try.func31 rfl Try.ntmps31 (by simp) fun W => ?_
 refine A1 0 (e_ ((arV (n := 256) U8) a0)) fun F f0 => ?_
 generalize PHeap.empty = H
 refine SR fun K1 hK1 => ?_
 refine Q3 (PV.rp ((arV (n := 256) U8) a0).cells) (zk f0 (v8 _ _ _ (fun _ => rfl))) ?_
 refine Q1 _ (jf (e_ (I 0))) ?_
 refine PL.nil (hK1 _ _ ?_)
 refine A1 1 (e_ (PV.rp ((arV (n := 256) U8) a0).cells)) fun F f1 => ?_
 refine SR fun K2 hK2 => ?_
 refine Q1 _ (jf (e_ (I 0))) ?_
 refine PL.nil (hK2 _ _ ?_)
 refine A2 1 f1 3 (e_ (I 0)) fun F f1 f3 => ?_
 refine PC.seq fun K3 hK3 => ?_
 refine SR fun K4 hK4 => ?_
 refine Q1 ((arV (n := 256) U8) a0) (vw y5 f1 (jj _ _ (fun _ => rfl))) ?_
 refine Q1 _ (jb (e_ (I 0))) ?_
 refine PL.nil (hK4 _ _ ?_)
 refine A3 3 f3 6 (e_ ((arV (n := 256) U8) a0)) 7 (e_ (I 0)) fun F f3 f6 f7 => ?_
 refine PC.block ?_
 obtain ⟨o9, ho9, h0⟩ := bs h0
 obtain ⟨B10, hB10, ho9⟩ := G.loop_some ho9
 refine PC.loop (fun m13 F H => ∃ s23 : (Int × Int), qw B10 m13 s23 = some o9 ∧ F 3 = (I s23.1) ∧ F 6 = ((arV (n := 256) U8) a0) ∧ F 7 = (I s23.2)) (m := nn) ⟨(0, 0), ho9, f3, f6, f7⟩ fun m13 F H hI => ?_
 obtain ⟨⟨x7, x8⟩, ho9, f3, f6, f7⟩ := hI
 obtain ⟨m13, rfl, st11, hs12, ho9⟩ := jw ho9
 rw [hB10] at hs12
 try dsimp only at hs12
 refine SR fun K14 hK14 => ?_
 refine Q1 _ (jh rfl f7 (e_ (I 256)) jv) ?_
 refine PL.nil (hK14 _ _ ?_)
 refine A4 3 f3 6 f6 7 f7 8 (e_ (B (decide (x8 < 256)))) fun F f3 f6 f7 f8 => ?_
 refine PC.seq fun K15 hK15 => ?_
 rcases cz hs12 with ⟨hb16, hs12⟩ | ⟨hb16, hs12⟩
 refine PC.condTb f8 hb16 ?_
 refine PC.skip ?_
 refine hK15 _ _ ?_
 refine A3 3 f3 6 f6 7 f7 fun F f3 f6 f7 => ?_
 refine PC.seq fun K17 hK17 => ?_
 refine PC.block ?_
 refine SR fun K18 hK18 => ?_
 obtain ⟨x19, hx19, hs12⟩ := bs hs12
 refine Q1 (U8 x19) (zn7 Zm Yf znk f6 f7 hx19) ?_
 refine Q1 _ (jf (e_ (U8 x19))) ?_
 refine PL.nil (hK18 _ _ ?_)
 refine A4 3 f3 5 (e_ (U8 x19)) 6 f6 7 f7 fun F f3 f5 f6 f7 => ?_
 refine PC.region ?_
 refine Q1 _ (jb f3) ?_
 refine Q1 _ (jb f5) ?_
 refine Q1 (I (w64 x19)) (Jc (by kernel_rfl) (by kernel_rfl) (e_ (U8 x19))) ?_
 refine Q1 _ (jh rfl (e_ (I (w64 x19))) (e_ (I 1)) j3) ?_
 refine Q1 (I (max x7 (w64 ((w64 x19) + 1)))) (zm2 (e_ (I x7)) (e_ (I (w64 ((w64 x19) + 1))))) ?_
 refine Q1 _ (jf (e_ (I (max x7 (w64 ((w64 x19) + 1)))))) ?_
 refine PL.nil (hK17 _ _ ?_)
 refine A3 3 (e_ (I (max x7 (w64 ((w64 x19) + 1))))) 6 f6 7 f7 fun F f3 f6 f7 => ?_
 refine PC.region ?_
 refine Q1 _ (jh rfl f7 (e_ (I 1)) j3) ?_
 refine Q1 _ (jb (e_ (I (w64 (x8 + 1))))) ?_
 refine PL.nil ?_
 have hs12 := pz hs12
 subst hs12
 exact ⟨m13, Nat.lt_succ_self _, ((max x7 (w64 ((w64 x19) + 1))), (w64 (x8 + 1))), ho9, f3, f6, (e_ (I (w64 (x8 + 1))))⟩
 refine PC.condFb f8 hb16 ?_
 refine PC.exit ?_
 have hs12 := pz hs12
 subst hs12
 try dsimp only at ho9
 subst ho9
 try dsimp only at h0
 refine hK3 _ _ ?_
 refine A1 3 f3 fun F f3 => ?_
 refine SR fun K20 hK20 => ?_
 refine Q1 _ (jb f3) ?_
 refine Q1 _ (jf (e_ (I x7))) ?_
 refine PL.nil (hK20 _ _ ?_)
 refine A1 2 (e_ (I x7)) fun F f2 => ?_
 refine PC.ret ?_
 have h0 := pz h0
 subst h0
 exact fin (.inr rfl) (j9 Try.results31 f2) (.u _)
def Ji (a0 : jd) : G Bool :=
  G.bind (G.cond (!((decide ((a0.je.length : Int) = 0)) || (decide (¬ (a0.jl.length : Int) = (a0.je.length : Int))))) (Q5 a0.jp) (G.pure false)) fun x5 => G.bind (G.cond (!(((decide ((a0.je.length : Int) = 0)) || (decide (¬ (a0.jl.length : Int) = (a0.je.length : Int)))) || (!x5))) (Vb a0.jp) (G.pure 0)) fun x6 => G.cond ((((decide ((a0.je.length : Int) = 0)) || (decide (¬ (a0.jl.length : Int) = (a0.je.length : Int)))) || (!x5)) || (decide (¬ x6 = a0.ji))) (G.pure false) (G.bind (α := Bool) (G.bind (G.loop (σ := (Bool × Int)) (α := Bool) (fun (x18, x19) => G.cond (decide (x19 < (a0.je.length : Int))) (G.bind (G.lift (idx a0.je x19)) fun x30 => G.bind (G.cond (!(decide (¬ (x30.length : Int) = a0.ji))) (G.lift (idx a0.jl x19)) (G.pure 0)) fun x33 => G.cond ((decide (¬ (x30.length : Int) = a0.ji)) || (decide (x33 < (-1)))) (G.pure (.inr false)) (G.bind (G.loop (σ := (Bool × Int)) (α := Bool ⊕ Bool) (fun (x39, x40) => G.cond (decide (x40 < (x30.length : Int))) (G.bind (G.lift (idx x30 x40)) fun x51 => G.cond ((decide (x51 < (-1))) || (decide ((a0.je.length : Int) ≤ x51))) (G.pure (.inr (.inl false))) (G.pure (.inl (x39, (w64 (x40 + 1)))))) (G.pure (.inr (.inr x39)))) (x18, 0)) fun o => match o with | .inl x55 => G.pure (.inr x55) | .inr x56 => G.pure (.inl (x56, (w64 (x19 + 1)))))) (G.pure (.inr x18))) (true, 0)) fun x58 => G.pure x58) fun x13 => G.pure x13)
theorem Vw {nn : Nat} {a0 : jd} {r : Bool} (h0 : Ji a0 nn = some r) : PCall Try.prog 18 [jc a0] (· = B r) := by
 unfold Ji at h0
 refine PCall.intro' Try.func18 rfl Try.ntmps18 (by simp) fun W => ?_
 refine A1 0 (e_ (jc a0)) fun F f0 => ?_
 generalize PHeap.empty = H
 refine SR fun K1 hK1 => ?_
 refine Q3 (PV.rp (jc a0).cells) (zk f0 (qt _ _)) ?_
 refine Q1 _ (jf (e_ (B false))) ?_
 refine PL.nil (hK1 _ _ ?_)
 refine A1 1 (e_ (PV.rp (jc a0).cells)) fun F f1 => ?_
 refine PC.scope ?_
 refine SR fun K2 hK2 => ?_
 refine Q1 (PV.rp ((jc a0).cells.drop 257)) (j8 vx qi (by decide) f1) ?_
 refine Q1 (qk a0.je) (jx qi (e_ (PV.rp ((jc a0).cells.drop 257))) (qm a0)) ?_
 refine Q1 (I (a0.je.length : Int)) (qg (rep := slI) (xs := a0.je) vp (e_ (qk a0.je))) ?_
 refine Q1 _ (jf (e_ (I (a0.je.length : Int)))) ?_
 refine PL.nil (hK2 _ _ ?_)
 refine A2 1 f1 3 (e_ (I (a0.je.length : Int))) fun F f1 f3 => ?_
 refine PC.seq fun K3 hK3 => ?_
 refine PC.seq fun K4 hK4 => ?_
 refine PC.regionQ mixed (by kernel_rfl) ?_
 refine Q2 _ (jb f3) ?_
 refine Q2 _ (jh rfl (e_ (I (a0.je.length : Int))) (e_ (I 0)) j7) ?_
 refine Q2 _ (jb (e_ (B (decide ((a0.je.length : Int) = 0))))) ?_
 refine HF_ (PV.rp ((jc a0).cells.drop 258)) rfl (e_ (B (decide ((a0.je.length : Int) = 0)))) (fun hb => j8 ze qh (by decide) f1) ?_
 refine HF_ (slI a0.jl) rfl (e_ (B (decide ((a0.je.length : Int) = 0)))) (fun hb => jx qh (gvp hb (e_ (gv (!(decide ((a0.je.length : Int) = 0))) (PV.rp ((jc a0).cells.drop 258))))) (yg a0)) ?_
 refine HF_ (I (a0.jl.length : Int)) rfl (e_ (B (decide ((a0.je.length : Int) = 0)))) (fun hb => qg (rep := I) (xs := a0.jl) ql (gvp hb (e_ (gv (!(decide ((a0.je.length : Int) = 0))) (slI a0.jl))))) ?_
 refine HF_ (I (a0.je.length : Int)) rfl (e_ (B (decide ((a0.je.length : Int) = 0)))) (fun hb => jb f3) ?_
 refine HF_ (B (decide (¬ (a0.jl.length : Int) = (a0.je.length : Int)))) rfl (e_ (B (decide ((a0.je.length : Int) = 0)))) (fun hb => jh rfl (gvp hb (e_ (gv (!(decide ((a0.je.length : Int) = 0))) (I (a0.jl.length : Int))))) (gvp hb (e_ (gv (!(decide ((a0.je.length : Int) = 0))) (I (a0.je.length : Int))))) yc) ?_
 refine Q2 (B ((decide ((a0.je.length : Int) = 0)) || (decide (¬ (a0.jl.length : Int) = (a0.je.length : Int))))) (yf (e_ (B (decide ((a0.je.length : Int) = 0)))) rfl (e_ (gv (!(decide ((a0.je.length : Int) = 0))) (B (decide (¬ (a0.jl.length : Int) = (a0.je.length : Int))))))) ?_
 refine Q2 _ (jb (e_ (B ((decide ((a0.je.length : Int) = 0)) || (decide (¬ (a0.jl.length : Int) = (a0.je.length : Int))))))) ?_
 refine HF_ (PV.rp ((jc a0).cells.drop 0)) rfl (e_ (B ((decide ((a0.je.length : Int) = 0)) || (decide (¬ (a0.jl.length : Int) = (a0.je.length : Int)))))) (fun hb => j8 Q7 y5 (by decide) f1) ?_
 refine HF_ ((arV (n := 256) U8) a0.jp) rfl (e_ (B ((decide ((a0.je.length : Int) = 0)) || (decide (¬ (a0.jl.length : Int) = (a0.je.length : Int)))))) (fun hb => jx y5 (gvp hb (e_ (gv (!((decide ((a0.je.length : Int) = 0)) || (decide (¬ (a0.jl.length : Int) = (a0.je.length : Int))))) (PV.rp ((jc a0).cells.drop 0))))) (yy a0)) ?_
 obtain ⟨x5, hx5, h0⟩ := bs h0
 refine HFq (B x5) rfl (e_ (B ((decide ((a0.je.length : Int) = 0)) || (decide (¬ (a0.jl.length : Int) = (a0.je.length : Int)))))) (fun hb => j0 (by kernel_rfl) (am (gvp hb (e_ (gv (!((decide ((a0.je.length : Int) = 0)) || (decide (¬ (a0.jl.length : Int) = (a0.je.length : Int))))) ((arV (n := 256) U8) a0.jp)))) (am0)) (js (vc _ (fun _ => (.u _))) (j2)) (zg1 (G.cond_pos hx5 hb))) ?_
 refine HF_ (B (!x5)) rfl (e_ (B ((decide ((a0.je.length : Int) = 0)) || (decide (¬ (a0.jl.length : Int) = (a0.je.length : Int)))))) (fun hb => yn (gvp hb (e_ (gv (!((decide ((a0.je.length : Int) = 0)) || (decide (¬ (a0.jl.length : Int) = (a0.je.length : Int))))) (B x5))))) ?_
 refine Q2 (B (((decide ((a0.je.length : Int) = 0)) || (decide (¬ (a0.jl.length : Int) = (a0.je.length : Int)))) || (!x5))) (yf (e_ (B ((decide ((a0.je.length : Int) = 0)) || (decide (¬ (a0.jl.length : Int) = (a0.je.length : Int)))))) rfl (e_ (gv (!((decide ((a0.je.length : Int) = 0)) || (decide (¬ (a0.jl.length : Int) = (a0.je.length : Int))))) (B (!x5))))) ?_
 refine Q2 _ (jb (e_ (B (((decide ((a0.je.length : Int) = 0)) || (decide (¬ (a0.jl.length : Int) = (a0.je.length : Int)))) || (!x5))))) ?_
 refine HF_ (PV.rp ((jc a0).cells.drop 0)) rfl (e_ (B (((decide ((a0.je.length : Int) = 0)) || (decide (¬ (a0.jl.length : Int) = (a0.je.length : Int)))) || (!x5)))) (fun hb => j8 Q7 y5 (by decide) f1) ?_
 refine HF_ ((arV (n := 256) U8) a0.jp) rfl (e_ (B (((decide ((a0.je.length : Int) = 0)) || (decide (¬ (a0.jl.length : Int) = (a0.je.length : Int)))) || (!x5)))) (fun hb => jx y5 (gvp hb (e_ (gv (!(((decide ((a0.je.length : Int) = 0)) || (decide (¬ (a0.jl.length : Int) = (a0.je.length : Int)))) || (!x5))) (PV.rp ((jc a0).cells.drop 0))))) (yy a0)) ?_
 obtain ⟨x6, hx6, h0⟩ := bs h0
 refine HFq (I x6) rfl (e_ (B (((decide ((a0.je.length : Int) = 0)) || (decide (¬ (a0.jl.length : Int) = (a0.je.length : Int)))) || (!x5)))) (fun hb => j0 (by kernel_rfl) (am (gvp hb (e_ (gv (!(((decide ((a0.je.length : Int) = 0)) || (decide (¬ (a0.jl.length : Int) = (a0.je.length : Int)))) || (!x5))) ((arV (n := 256) U8) a0.jp)))) (am0)) (js (vc _ (fun _ => (.u _))) (j2)) (zg4 (G.cond_pos hx6 hb))) ?_
 refine HF_ (PV.rp ((jc a0).cells.drop 256)) rfl (e_ (B (((decide ((a0.je.length : Int) = 0)) || (decide (¬ (a0.jl.length : Int) = (a0.je.length : Int)))) || (!x5)))) (fun hb => j8 Qk qz (by decide) f1) ?_
 refine HF_ (I a0.ji) rfl (e_ (B (((decide ((a0.je.length : Int) = 0)) || (decide (¬ (a0.jl.length : Int) = (a0.je.length : Int)))) || (!x5)))) (fun hb => jx qz (gvp hb (e_ (gv (!(((decide ((a0.je.length : Int) = 0)) || (decide (¬ (a0.jl.length : Int) = (a0.je.length : Int)))) || (!x5))) (PV.rp ((jc a0).cells.drop 256))))) (zi a0)) ?_
 refine HF_ (B (decide (¬ x6 = a0.ji))) rfl (e_ (B (((decide ((a0.je.length : Int) = 0)) || (decide (¬ (a0.jl.length : Int) = (a0.je.length : Int)))) || (!x5)))) (fun hb => jh rfl (gvp hb (e_ (gv (!(((decide ((a0.je.length : Int) = 0)) || (decide (¬ (a0.jl.length : Int) = (a0.je.length : Int)))) || (!x5))) (I x6)))) (gvp hb (e_ (gv (!(((decide ((a0.je.length : Int) = 0)) || (decide (¬ (a0.jl.length : Int) = (a0.je.length : Int)))) || (!x5))) (I a0.ji)))) yc) ?_
 refine Q2 (B ((((decide ((a0.je.length : Int) = 0)) || (decide (¬ (a0.jl.length : Int) = (a0.je.length : Int)))) || (!x5)) || (decide (¬ x6 = a0.ji)))) (yf (e_ (B (((decide ((a0.je.length : Int) = 0)) || (decide (¬ (a0.jl.length : Int) = (a0.je.length : Int)))) || (!x5)))) rfl (e_ (gv (!(((decide ((a0.je.length : Int) = 0)) || (decide (¬ (a0.jl.length : Int) = (a0.je.length : Int)))) || (!x5))) (B (decide (¬ x6 = a0.ji)))))) ?_
 refine QF.nil ?_
 refine hK4 _ _ ?_
 refine A3 1 f1 3 f3 34 (e_ (B ((((decide ((a0.je.length : Int) = 0)) || (decide (¬ (a0.jl.length : Int) = (a0.je.length : Int)))) || (!x5)) || (decide (¬ x6 = a0.ji))))) fun F f1 f3 f34 => ?_
 rcases cz h0 with ⟨hb7, h0⟩ | ⟨hb7, h0⟩
 refine PC.condTb f34 hb7 ?_
 refine SR fun K8 hK8 => ?_
 refine Q1 _ (jf (e_ (B false))) ?_
 refine PL.nil (hK8 _ _ ?_)
 refine A1 2 (e_ (B false)) fun F f2 => ?_
 refine PC.ret ?_
 have h0 := pz h0
 subst h0
 exact fin (.inr rfl) (j9 Try.results18 f2) (.u _)
 refine PC.condFb f34 hb7 ?_
 refine PC.skip ?_
 refine hK3 _ _ ?_
 refine A2 1 f1 3 f3 fun F f1 f3 => ?_
 refine SR fun K9 hK9 => ?_
 refine Q1 _ (jf (e_ (B true))) ?_
 refine PL.nil (hK9 _ _ ?_)
 refine A3 1 f1 3 f3 4 (e_ (B true)) fun F f1 f3 f4 => ?_
 refine PC.seq fun K10 hK10 => ?_
 refine PC.label ?_
 refine hK10 _ _ ?_
 refine A3 1 f1 3 f3 4 f4 fun F f1 f3 f4 => ?_
 obtain ⟨o12, ho12, h0⟩ := bs h0
 refine PC.seqM (fun F H => ∃ s60 : Bool, o12 = s60 ∧ F 4 = (B s60)) ?_ ?_
 refine SR fun K15 hK15 => ?_
 refine Q1 (PV.rp ((jc a0).cells.drop 257)) (j8 vx qi (by decide) f1) ?_
 refine Q1 (qk a0.je) (jx qi (e_ (PV.rp ((jc a0).cells.drop 257))) (qm a0)) ?_
 refine Q1 (I (a0.je.length : Int)) (qg (rep := slI) (xs := a0.je) vp (e_ (qk a0.je))) ?_
 refine Q1 _ (jb (e_ (I 0))) ?_
 refine PL.nil (hK15 _ _ ?_)
 refine A6 1 f1 3 f3 4 f4 36 (e_ (qk a0.je)) 37 (e_ (I (a0.je.length : Int))) 38 (e_ (I 0)) fun F f1 f3 f4 f36 f37 f38 => ?_
 refine PC.block ?_
 obtain ⟨o20, ho20, ho12⟩ := bs ho12
 obtain ⟨B21, hB21, ho20⟩ := G.loop_some ho20
 refine PC.loop (fun m24 F H => ∃ s59 : (Bool × Int), qw B21 m24 s59 = some o20 ∧ F 1 = (PV.rp (jc a0).cells) ∧ F 3 = (I (a0.je.length : Int)) ∧ F 4 = (B s59.1) ∧ F 36 = (qk a0.je) ∧ F 37 = (I (a0.je.length : Int)) ∧ F 38 = (I s59.2)) (m := nn) ⟨(true, 0), ho20, f1, f3, f4, f36, f37, f38⟩ fun m24 F H hI => ?_
 obtain ⟨⟨x18, x19⟩, ho20, f1, f3, f4, f36, f37, f38⟩ := hI
 obtain ⟨m24, rfl, st22, hs23, ho20⟩ := jw ho20
 rw [hB21] at hs23
 try dsimp only at hs23
 refine SR fun K25 hK25 => ?_
 refine Q1 (B (decide (x19 < (a0.je.length : Int)))) (jh rfl f38 f37 jv) ?_
 refine PL.nil (hK25 _ _ ?_)
 refine A7 1 f1 3 f3 4 f4 36 f36 37 f37 38 f38 39 (e_ (B (decide (x19 < (a0.je.length : Int))))) fun F f1 f3 f4 f36 f37 f38 f39 => ?_
 refine PC.seq fun K26 hK26 => ?_
 rcases cz hs23 with ⟨hb27, hs23⟩ | ⟨hb27, hs23⟩
 refine PC.condTb f39 hb27 ?_
 refine PC.skip ?_
 refine hK26 _ _ ?_
 refine A6 1 f1 3 f3 4 f4 36 f36 37 f37 38 f38 fun F f1 f3 f4 f36 f37 f38 => ?_
 refine PC.seq fun K28 hK28 => ?_
 refine PC.block ?_
 refine SR fun K29 hK29 => ?_
 refine Q1 _ (jb f38) ?_
 obtain ⟨x30, hx30, hs23⟩ := bs hs23
 refine Q1 (PV.rp (slI x30).cells) (j1 (rep := slI) (xs := a0.je) Jz f36 f38 hx30) ?_
 refine Q1 (slI x30) (qr qh (e_ (PV.rp (slI x30).cells))) ?_
 refine Q1 _ (jf (e_ (I x19))) ?_
 refine Q1 _ (jf (e_ (slI x30))) ?_
 refine PL.nil (hK29 _ _ ?_)
 refine A8 1 f1 3 f3 4 f4 5 (e_ (I x19)) 6 (e_ (slI x30)) 36 f36 37 f37 38 f38 fun F f1 f3 f4 f5 f6 f36 f37 f38 => ?_
 refine PC.seq fun K31 hK31 => ?_
 refine SR fun K32 hK32 => ?_
 refine Q1 _ (jb f6) ?_
 refine Q1 (I (x30.length : Int)) (qg (rep := I) (xs := x30) ql (e_ (slI x30))) ?_
 refine Q1 (PV.rp ((jc a0).cells.drop 256)) (j8 Qk qz (by decide) f1) ?_
 refine Q1 (I a0.ji) (jx qz (e_ (PV.rp ((jc a0).cells.drop 256))) (zi a0)) ?_
 refine Q1 _ (jh rfl (e_ (I (x30.length : Int))) (e_ (I a0.ji)) yc) ?_
 refine Q1 _ (jb (e_ (B (decide (¬ (x30.length : Int) = a0.ji))))) ?_
 refine GF (PV.rp ((jc a0).cells.drop 258)) rfl (e_ (B (decide (¬ (x30.length : Int) = a0.ji)))) (fun hb => j8 ze qh (by decide) f1) ?_
 refine GF (slI a0.jl) rfl (e_ (B (decide (¬ (x30.length : Int) = a0.ji)))) (fun hb => jx qh (gvp hb (e_ (gv (!(decide (¬ (x30.length : Int) = a0.ji))) (PV.rp ((jc a0).cells.drop 258))))) (yg a0)) ?_
 refine GF (I x19) rfl (e_ (B (decide (¬ (x30.length : Int) = a0.ji)))) (fun hb => jb f5) ?_
 obtain ⟨x33, hx33, hs23⟩ := bs hs23
 refine GF (PV.rp (I x33).cells) rfl (e_ (B (decide (¬ (x30.length : Int) = a0.ji)))) (fun hb => j1 (rep := I) (xs := a0.jl) vk (gvp hb (e_ (gv (!(decide (¬ (x30.length : Int) = a0.ji))) (slI a0.jl)))) (gvp hb (e_ (gv (!(decide (¬ (x30.length : Int) = a0.ji))) (I x19)))) (G.cond_pos hx33 hb)) ?_
 refine GF (I x33) rfl (e_ (B (decide (¬ (x30.length : Int) = a0.ji)))) (fun hb => qr qz (gvp hb (e_ (gv (!(decide (¬ (x30.length : Int) = a0.ji))) (PV.rp (I x33).cells))))) ?_
 refine GF (B (decide (x33 < (-1)))) rfl (e_ (B (decide (¬ (x30.length : Int) = a0.ji)))) (fun hb => jh rfl (gvp hb (e_ (gv (!(decide (¬ (x30.length : Int) = a0.ji))) (I x33)))) (e_ (I (-1))) jv) ?_
 refine Q1 (B ((decide (¬ (x30.length : Int) = a0.ji)) || (decide (x33 < (-1))))) (yf (e_ (B (decide (¬ (x30.length : Int) = a0.ji)))) rfl (e_ (gv (!(decide (¬ (x30.length : Int) = a0.ji))) (B (decide (x33 < (-1))))))) ?_
 refine PL.nil (hK32 _ _ ?_)
 refine A8 1 f1 3 f3 4 f4 6 f6 36 f36 37 f37 38 f38 55 (e_ (B ((decide (¬ (x30.length : Int) = a0.ji)) || (decide (x33 < (-1)))))) fun F f1 f3 f4 f6 f36 f37 f38 f55 => ?_
 rcases cz hs23 with ⟨hb34, hs23⟩ | ⟨hb34, hs23⟩
 refine PC.condTb f55 hb34 ?_
 refine SR fun K35 hK35 => ?_
 refine Q1 _ (jf (e_ (B false))) ?_
 refine PL.nil (hK35 _ _ ?_)
 refine A1 4 (e_ (B false)) fun F f4 => ?_
 refine PC.exit ?_
 have hs23 := pz hs23
 subst hs23
 try dsimp only at ho20
 subst ho20
 try dsimp only at ho12
 have ho12 := pz ho12
 subst ho12
 exact ⟨false, rfl, f4⟩
 refine PC.condFb f55 hb34 ?_
 refine PC.skip ?_
 refine hK31 _ _ ?_
 refine A7 1 f1 3 f3 4 f4 6 f6 36 f36 37 f37 38 f38 fun F f1 f3 f4 f6 f36 f37 f38 => ?_
 refine SR fun K36 hK36 => ?_
 refine Q1 _ (jb f6) ?_
 refine Q1 (I (x30.length : Int)) (qg (rep := I) (xs := x30) ql (e_ (slI x30))) ?_
 refine Q1 _ (jb (e_ (I 0))) ?_
 refine PL.nil (hK36 _ _ ?_)
 refine A9 1 f1 3 f3 4 f4 36 f36 37 f37 38 f38 56 (e_ (slI x30)) 57 (e_ (I (x30.length : Int))) 58 (e_ (I 0)) fun F f1 f3 f4 f36 f37 f38 f56 f57 f58 => ?_
 refine PC.block ?_
 obtain ⟨o41, ho41, hs23⟩ := bs hs23
 obtain ⟨B42, hB42, ho41⟩ := G.loop_some ho41
 refine PC.loop (fun m45 F H => ∃ s57 : (Bool × Int), qw B42 m45 s57 = some o41 ∧ F 1 = (PV.rp (jc a0).cells) ∧ F 3 = (I (a0.je.length : Int)) ∧ F 4 = (B s57.1) ∧ F 36 = (qk a0.je) ∧ F 37 = (I (a0.je.length : Int)) ∧ F 38 = (I x19) ∧ F 56 = (slI x30) ∧ F 57 = (I (x30.length : Int)) ∧ F 58 = (I s57.2)) (m := nn) ⟨(x18, 0), ho41, f1, f3, f4, f36, f37, f38, f56, f57, f58⟩ fun m45 F H hI => ?_
 obtain ⟨⟨x39, x40⟩, ho41, f1, f3, f4, f36, f37, f38, f56, f57, f58⟩ := hI
 obtain ⟨m45, rfl, st43, hs44, ho41⟩ := jw ho41
 rw [hB42] at hs44
 try dsimp only at hs44
 refine SR fun K46 hK46 => ?_
 refine Q1 (B (decide (x40 < (x30.length : Int)))) (jh rfl f58 f57 jv) ?_
 refine PL.nil (hK46 _ _ ?_)
 refine A10 1 f1 3 f3 4 f4 36 f36 37 f37 38 f38 56 f56 57 f57 58 f58 59 (e_ (B (decide (x40 < (x30.length : Int))))) fun F f1 f3 f4 f36 f37 f38 f56 f57 f58 f59 => ?_
 refine PC.seq fun K47 hK47 => ?_
 rcases cz hs44 with ⟨hb48, hs44⟩ | ⟨hb48, hs44⟩
 refine PC.condTb f59 hb48 ?_
 refine PC.skip ?_
 refine hK47 _ _ ?_
 refine A9 1 f1 3 f3 4 f4 36 f36 37 f37 38 f38 56 f56 57 f57 58 f58 fun F f1 f3 f4 f36 f37 f38 f56 f57 f58 => ?_
 refine PC.seq fun K49 hK49 => ?_
 refine PC.block ?_
 refine SR fun K50 hK50 => ?_
 obtain ⟨x51, hx51, hs44⟩ := bs hs44
 refine Q1 (PV.rp (I x51).cells) (j1 (rep := I) (xs := x30) vk f56 f58 hx51) ?_
 refine Q1 (I x51) (qr qz (e_ (PV.rp (I x51).cells))) ?_
 refine Q1 _ (jf (e_ (I x51))) ?_
 refine PL.nil (hK50 _ _ ?_)
 refine A10 1 f1 3 f3 4 f4 8 (e_ (I x51)) 36 f36 37 f37 38 f38 56 f56 57 f57 58 f58 fun F f1 f3 f4 f8 f36 f37 f38 f56 f57 f58 => ?_
 refine SR fun K52 hK52 => ?_
 refine Q1 _ (jb f8) ?_
 refine Q1 _ (jh rfl (e_ (I x51)) (e_ (I (-1))) jv) ?_
 refine Q1 _ (jb (e_ (B (decide (x51 < (-1)))))) ?_
 refine GF (I x51) rfl (e_ (B (decide (x51 < (-1))))) (fun hb => jb f8) ?_
 refine GF (I (a0.je.length : Int)) rfl (e_ (B (decide (x51 < (-1))))) (fun hb => jb f3) ?_
 refine GF (B (decide ((a0.je.length : Int) ≤ x51))) rfl (e_ (B (decide (x51 < (-1))))) (fun hb => jh rfl (gvp hb (e_ (gv (!(decide (x51 < (-1)))) (I x51)))) (gvp hb (e_ (gv (!(decide (x51 < (-1)))) (I (a0.je.length : Int))))) vr) ?_
 refine Q1 (B ((decide (x51 < (-1))) || (decide ((a0.je.length : Int) ≤ x51)))) (yf (e_ (B (decide (x51 < (-1))))) rfl (e_ (gv (!(decide (x51 < (-1)))) (B (decide ((a0.je.length : Int) ≤ x51)))))) ?_
 refine PL.nil (hK52 _ _ ?_)
 refine A10 1 f1 3 f3 4 f4 36 f36 37 f37 38 f38 56 f56 57 f57 58 f58 68 (e_ (B ((decide (x51 < (-1))) || (decide ((a0.je.length : Int) ≤ x51))))) fun F f1 f3 f4 f36 f37 f38 f56 f57 f58 f68 => ?_
 rcases cz hs44 with ⟨hb53, hs44⟩ | ⟨hb53, hs44⟩
 refine PC.condTb f68 hb53 ?_
 refine SR fun K54 hK54 => ?_
 refine Q1 _ (jf (e_ (B false))) ?_
 refine PL.nil (hK54 _ _ ?_)
 refine A1 4 (e_ (B false)) fun F f4 => ?_
 refine PC.exit ?_
 have hs44 := pz hs44
 subst hs44
 try dsimp only at ho41
 subst ho41
 try dsimp only at hs23
 have hs23 := pz hs23
 subst hs23
 try dsimp only at ho20
 subst ho20
 try dsimp only at ho12
 have ho12 := pz ho12
 subst ho12
 exact ⟨false, rfl, f4⟩
 refine PC.condFb f68 hb53 ?_
 refine PC.skip ?_
 refine hK49 _ _ ?_
 refine A9 1 f1 3 f3 4 f4 36 f36 37 f37 38 f38 56 f56 57 f57 58 f58 fun F f1 f3 f4 f36 f37 f38 f56 f57 f58 => ?_
 refine PC.region ?_
 refine Q1 _ (jh rfl f58 (e_ (I 1)) j3) ?_
 refine Q1 _ (jb (e_ (I (w64 (x40 + 1))))) ?_
 refine PL.nil ?_
 have hs44 := pz hs44
 subst hs44
 exact ⟨m45, Nat.lt_succ_self _, (x39, (w64 (x40 + 1))), ho41, f1, f3, f4, f36, f37, f38, f56, f57, (e_ (I (w64 (x40 + 1))))⟩
 refine PC.condFb f59 hb48 ?_
 refine PC.exit ?_
 have hs44 := pz hs44
 subst hs44
 try dsimp only at ho41
 subst ho41
 try dsimp only at hs23
 refine hK28 _ _ ?_
 refine A6 1 f1 3 f3 4 f4 36 f36 37 f37 38 f38 fun F f1 f3 f4 f36 f37 f38 => ?_
 refine PC.region ?_
 refine Q1 _ (jh rfl f38 (e_ (I 1)) j3) ?_
 refine Q1 _ (jb (e_ (I (w64 (x19 + 1))))) ?_
 refine PL.nil ?_
 have hs23 := pz hs23
 subst hs23
 exact ⟨m24, Nat.lt_succ_self _, (x39, (w64 (x19 + 1))), ho20, f1, f3, f4, f36, f37, (e_ (I (w64 (x19 + 1))))⟩
 refine PC.condFb f39 hb27 ?_
 refine PC.exit ?_
 have hs23 := pz hs23
 subst hs23
 try dsimp only at ho20
 subst ho20
 try dsimp only at ho12
 have ho12 := pz ho12
 subst ho12
 exact ⟨x18, rfl, f4⟩
 intro F H hI
 obtain ⟨x13, ho, f4⟩ := hI
 have ho := ho.symm
 subst ho
 try dsimp only at h0
 refine SR fun K14 hK14 => ?_
 refine Q1 _ (jb f4) ?_
 refine Q1 _ (jf (e_ (B x13))) ?_
 refine PL.nil (hK14 _ _ ?_)
 refine A1 2 (e_ (B x13)) fun F f2 => ?_
 refine PC.ret ?_
 have h0 := pz h0
 subst h0
 exact fin (.inr rfl) (j9 Try.results18 f2) (.u _)
def Je (a0 : jd) (a1 : Int) : G (ByteArray × Bool) :=
  G.bind (G.cond (!(decide (a1 < 0))) (Ji a0) (G.pure false)) fun x4 => G.cond ((decide (a1 < 0)) || (!x4)) (G.pure ((⟨#[]⟩ : ByteArray), false)) (G.bind (G.lift (mkS 1 (0 : Int) a0.ji)) fun x8 => G.bind (G.loop (σ := (Int × (List Int))) (α := (List Int)) (fun (x16, x17) => G.cond (decide (0 ≤ x16)) (G.bind (G.lift (idx a0.jp.1 x16)) fun x28 => G.bind (G.lift (idx x17 x28)) fun x29 => G.pure (.inl ((w64 (x16 - 1)), (x17.set (x28 : Int).toNat (IntKind.u8.wrap x16))))) (G.pure (.inr x17))) (255, x8)) fun x134 => G.bind (G.lift (mkS 1 (false : Bool) (a0.je.length : Int))) fun x137 => G.bind (G.lift (idx x137 0)) fun x141 => G.bind (α := (ByteArray × Bool)) (G.bind (G.loop (σ := (ByteArray × Bool × (List Bool) × (List qc))) (α := (ByteArray × Bool)) (fun (x160, x161, x162, x164) => G.cond (decide (0 < (x164.length : Int))) (G.bind (G.lift (idx x164 0)) fun x175 => G.bind (G.lift (zfp x164 1 (x164.length : Int))) fun x180 => G.bind (G.lift (idx a0.jl x175.Qd)) fun x184 => G.cond (decide (x184 = a1)) (G.pure (.inr (x175.Jh, true))) (G.bind (G.lift (idx a0.je x175.Qd)) fun x188 => G.bind (G.loop (σ := (Int × (List Bool) × (List qc))) (α := ((List Bool) × (List qc))) (fun (x196, x197, x199) => G.cond (decide (x196 < (x188.length : Int))) (G.bind (α := ((List Bool) × (List qc))) (G.bind (G.lift (idx x188 x196)) fun x216 => G.bind (G.cond (!(decide (x216 < 0))) (G.lift (idx x197 x216)) (G.pure false)) fun x219 => G.cond ((decide (x216 < 0)) || x219) (G.pure (x197, x199)) (G.bind (G.lift (idx x197 x216)) fun x222 => G.bind (G.lift (zfp x134 x196 (w64 (x196 + 1)))) fun x224 => G.bind (G.lift (zmw x175.Jh (strOfNums x224))) fun x225 => G.bind (G.lift (app 24 x199 ([(⟨x216, x225⟩ : qc)] : List qc))) fun x226 => G.pure ((x197.set (x216 : Int).toNat true), x226))) fun (x211, x213) => G.pure (.inl ((w64 (x196 + 1)), x211, x213))) (G.pure (.inr (x197, x199)))) (0, x162, x180)) fun (x230, x232) => G.pure (.inl (x160, x161, x230, x232)))) (G.pure (.inr (x160, x161)))) ((⟨#[]⟩ : ByteArray), false, (x137.set (0 : Int).toNat true), [(⟨0, (⟨#[]⟩)⟩ : qc)])) fun (x235, x236) => G.pure (x235, x236)) fun (x150, x151) => G.pure (x150, x151))
theorem zad {nn : Nat} {a0 : jd} {a1 : Int} {r : (ByteArray × Bool)} (h0 : Je a0 a1 nn = some r) : PCall Try.prog 14 [jc a0, I a1] (· = PV.tup [S r.1, B r.2]) := by
 unfold Je at h0
 refine PCall.intro' Try.func14 rfl Try.ntmps14 (by simp) fun W => ?_
 refine A2 0 (e_ (jc a0)) 1 (e_ (I a1)) fun F f0 f1 => ?_
 generalize PHeap.empty = H
 refine SR fun K1 hK1 => ?_
 refine Q3 (PV.rp (jc a0).cells) (zk f0 (qt _ _)) ?_
 refine Q1 _ (jf (e_ (S (⟨#[]⟩ : ByteArray)))) ?_
 refine Q1 _ (jf (e_ (B false))) ?_
 refine PL.nil (hK1 _ _ ?_)
 refine A2 1 f1 2 (e_ (PV.rp (jc a0).cells)) fun F f1 f2 => ?_
 refine PC.scope ?_
 refine PC.seq fun K2 hK2 => ?_
 refine SR fun K3 hK3 => ?_
 refine Q1 _ (jb f1) ?_
 refine Q1 _ (jh rfl (e_ (I a1)) (e_ (I 0)) jv) ?_
 refine Q1 _ (jb (e_ (B (decide (a1 < 0))))) ?_
 refine GF (jc a0) rfl (e_ (B (decide (a1 < 0)))) (fun hb => vw v7 f2 (qe _)) ?_
 obtain ⟨x4, hx4, h0⟩ := bs h0
 refine GFq (B x4) rfl (e_ (B (decide (a1 < 0)))) (fun hb => j0 (by kernel_rfl) (am (gvp hb (e_ (gv (!(decide (a1 < 0))) (jc a0)))) (am0)) (js (qa _) (j2)) (Vw (G.cond_pos hx4 hb))) ?_
 refine GF (B (!x4)) rfl (e_ (B (decide (a1 < 0)))) (fun hb => yn (gvp hb (e_ (gv (!(decide (a1 < 0))) (B x4))))) ?_
 refine Q1 (B ((decide (a1 < 0)) || (!x4))) (yf (e_ (B (decide (a1 < 0)))) rfl (e_ (gv (!(decide (a1 < 0))) (B (!x4))))) ?_
 refine PL.nil (hK3 _ _ ?_)
 refine A3 1 f1 2 f2 21 (e_ (B ((decide (a1 < 0)) || (!x4)))) fun F f1 f2 f21 => ?_
 rcases cz h0 with ⟨hb5, h0⟩ | ⟨hb5, h0⟩
 refine PC.condTb f21 hb5 ?_
 refine SR fun K6 hK6 => ?_
 refine Q1 _ (jf (e_ (S (⟨#[]⟩ : ByteArray)))) ?_
 refine Q1 _ (jf (e_ (B false))) ?_
 refine PL.nil (hK6 _ _ ?_)
 refine A2 4 (e_ (S (⟨#[]⟩ : ByteArray))) 5 (e_ (B false)) fun F f4 f5 => ?_
 refine PC.ret ?_
 have h0 := pz h0
 subst h0
 exact fin (.inr rfl) (zt (ss := [4, 5]) (ps := [(S (⟨#[]⟩ : ByteArray)), (B false)]) Try.results14 (by decide) (rm f4 (rm f5 (rfl)))) (.tup _ (js (.u _) (js (.u _) (j2))))
 refine PC.condFb f21 hb5 ?_
 refine PC.skip ?_
 refine hK2 _ _ ?_
 refine A2 1 f1 2 f2 fun F f1 f2 => ?_
 refine SR fun K7 hK7 => ?_
 refine Q1 (PV.rp ((jc a0).cells.drop 256)) (j8 Qk qz (by decide) f2) ?_
 refine Q1 (I a0.ji) (jx qz (e_ (PV.rp ((jc a0).cells.drop 256))) (zi a0)) ?_
 obtain ⟨x8, hx8, h0⟩ := bs h0
 refine PL.mkS (rep := U8) 1006 rfl rfl rfl (by decide) zbn rfl rfl (e_ (I a0.ji)) hx8 fun q9 H o1006 fz10 => ?_
 refine Q1 _ (jf (e_ q9)) ?_
 refine PL.nil (hK7 _ _ ?_)
 refine A3 1 f1 2 f2 6 (e_ q9) fun F f1 f2 f6 => ?_
 refine PC.seq fun K11 hK11 => ?_
 refine SR fun K12 hK12 => ?_
 refine Q1 _ (jf (e_ (I 255))) ?_
 refine PL.nil (hK12 _ _ ?_)
 refine A4 1 f1 2 f2 6 f6 7 (e_ (I 255)) fun F f1 f2 f6 f7 => ?_
 refine PC.block ?_
 obtain ⟨o19, ho19, h0⟩ := bs h0
 obtain ⟨B20, hB20, ho19⟩ := G.loop_some ho19
 refine PC.loop (fun m23 F H => ∃ s239 : (Int × (List Int)), ∃ q18, qw B20 m23 s239 = some o19 ∧ F 1 = (I a1) ∧ F 2 = (PV.rp (jc a0).cells) ∧ F 6 = q18 ∧ F 7 = (I s239.1) ∧ ownL 5 1 U8 H 1006 q18 s239.2) (m := nn) ⟨(255, x8), q9, ho19, f1, f2, f6, f7, o1006⟩ fun m23 F H hI => ?_
 obtain ⟨⟨x16, x17⟩, q18, ho19, f1, f2, f6, f7, o1006⟩ := hI
 obtain ⟨m23, rfl, st21, hs22, ho19⟩ := jw ho19
 rw [hB20] at hs22
 try dsimp only at hs22
 refine PC.seq fun K24 hK24 => ?_
 refine SR fun K25 hK25 => ?_
 refine Q1 _ (jb f7) ?_
 refine Q1 _ (jh rfl (e_ (I x16)) (e_ (I 0)) vr) ?_
 refine PL.nil (hK25 _ _ ?_)
 refine A5 1 f1 2 f2 6 f6 7 f7 26 (e_ (B (decide (0 ≤ x16)))) fun F f1 f2 f6 f7 f26 => ?_
 rcases cz hs22 with ⟨hb26, hs22⟩ | ⟨hb26, hs22⟩
 refine PC.condTb f26 hb26 ?_
 refine PC.skip ?_
 refine hK24 _ _ ?_
 refine A4 1 f1 2 f2 6 f6 7 f7 fun F f1 f2 f6 f7 => ?_
 refine PC.seq fun K27 hK27 => ?_
 refine PC.block ?_
 refine PC.region ?_
 refine Q1 _ (jb f6) ?_
 refine Q1 _ (jb f7) ?_
 refine Q1 (PV.rp ((jc a0).cells.drop 0)) (j8 Q7 y5 (by decide) f2) ?_
 obtain ⟨x28, hx28, hs22⟩ := bs hs22
 refine Q1 (PV.rp (((jc a0).cells.drop 0).drop ((x16 : Int).toNat * 1))) (zlx (rep := U8) (a := a0.jp) (yy a0) Yf (e_ (PV.rp ((jc a0).cells.drop 0))) (e_ (I x16)) hx28) ?_
 refine Q1 (U8 x28) (jx Zm (e_ (PV.rp (((jc a0).cells.drop 0).drop ((x16 : Int).toNat * 1)))) (zlm (yy a0) hx28)) ?_
 refine Q1 _ (jb f7) ?_
 refine Q1 (U8 (IntKind.u8.wrap x16)) (Ja (by kernel_rfl) (by kernel_rfl) (e_ (I x16))) ?_
 obtain ⟨x29, hx29, hs22⟩ := bs hs22
 refine Q1 (PV.pp 1006 ((x28 : Int).toNat * 1) (yh q18)) (z7 (rep := U8) zky o1006 (e_ q18) (e_ (U8 x28)) hx29) ?_
 refine PL.stO (rep := U8) (v := (IntKind.u8.wrap x16)) rfl rfl (fun _ h => by cases h) (e_ (PV.pp 1006 ((x28 : Int).toNat * 1) (yh q18))) o1006 Zm hx29 (e_ (U8 (IntKind.u8.wrap x16))) (fun _ => rfl) fun H o1006 fz30 => ?_
 refine PL.nil (hK27 _ _ ?_)
 refine A4 1 f1 2 f2 6 f6 7 f7 fun F f1 f2 f6 f7 => ?_
 refine PC.region ?_
 refine Q1 _ (jb f7) ?_
 refine Q1 _ (jh rfl (e_ (I x16)) (e_ (I 1)) Jb) ?_
 refine Q1 _ (jf (e_ (I (w64 (x16 - 1))))) ?_
 refine PL.nil ?_
 have hs22 := pz hs22
 subst hs22
 exact ⟨m23, Nat.lt_succ_self _, ((w64 (x16 - 1)), (x17.set (x28 : Int).toNat (IntKind.u8.wrap x16))), q18, ho19, f1, f2, f6, (e_ (I (w64 (x16 - 1)))), o1006⟩
 refine PC.condFb f26 hb26 ?_
 refine PC.exit ?_
 have hs22 := pz hs22
 subst hs22
 try dsimp only at ho19
 subst ho19
 try dsimp only at h0
 refine hK11 _ _ ?_
 refine A3 1 f1 2 f2 6 f6 fun F f1 f2 f6 => ?_
 refine SR fun K31 hK31 => ?_
 refine Q1 (PV.rp ((jc a0).cells.drop 257)) (j8 vx qi (by decide) f2) ?_
 refine Q1 (qk a0.je) (jx qi (e_ (PV.rp ((jc a0).cells.drop 257))) (qm a0)) ?_
 refine Q1 (I (a0.je.length : Int)) (qg (rep := slI) (xs := a0.je) vp (e_ (qk a0.je))) ?_
 obtain ⟨x32, hx32, h0⟩ := bs h0
 refine PL.mkS (rep := B) 1008 rfl rfl rfl (by decide) zd3 rfl rfl (e_ (I (a0.je.length : Int))) hx32 fun q33 H o1008 fz34 => ?_
 have o1006 := o1006.mono (fz34 1006 (by decide))
 refine Q1 _ (jf (e_ q33)) ?_
 refine PL.nil (hK31 _ _ ?_)
 refine A4 1 f1 2 f2 6 f6 8 (e_ q33) fun F f1 f2 f6 f8 => ?_
 refine SR fun K35 hK35 => ?_
 refine Q1 _ (jb f8) ?_
 obtain ⟨x36, hx36, h0⟩ := bs h0
 refine Q1 (PV.pp 1008 ((0 : Int).toNat * 1) (yh q33)) (z7 (rep := B) Zz o1008 (e_ q33) (e_ (I 0)) hx36) ?_
 refine PL.stO (rep := B) (v := true) rfl rfl (fun _ h => by cases h) (e_ (PV.pp 1008 ((0 : Int).toNat * 1) (yh q33))) o1008 zc0 hx36 (e_ (B true)) (fun _ => rfl) fun H o1008 fz37 => ?_
 have o1006 := o1006.mono (fz37 1006 (by decide))
 refine PL.nil (hK35 _ _ ?_)
 refine A4 1 f1 2 f2 6 f6 8 f8 fun F f1 f2 f6 f8 => ?_
 refine SR fun K38 hK38 => ?_
 refine Q1 _ (jf (e_ (S (⟨#[]⟩ : ByteArray)))) ?_
 refine Q1 _ (jf (e_ (B false))) ?_
 refine PL.nil (hK38 _ _ ?_)
 refine A6 1 f1 2 f2 6 f6 8 f8 9 (e_ (S (⟨#[]⟩ : ByteArray))) 10 (e_ (B false)) fun F f1 f2 f6 f8 f9 f10 => ?_
 refine SR fun K39 hK39 => ?_
 refine Q1 (ve (⟨0, (⟨#[]⟩)⟩ : qc)) (Jg (bm0) (by kernel_rfl)) ?_
 refine PL.litO (rep := ve) (xs := [(⟨0, (⟨#[]⟩)⟩ : qc)]) 1011 rfl rfl rfl (by decide) zgl rfl (by decide) (bm (e_ (ve (⟨0, (⟨#[]⟩)⟩ : qc))) (bm0)) rfl rfl fun q40 H o1011 fz41 => ?_
 have o1006 := o1006.mono (fz41 1006 (by decide))
 have o1008 := o1008.mono (fz41 1008 (by decide))
 have o1011 : ownQ 50 2 ve H 1011 q40 ([(⟨0, (⟨#[]⟩)⟩ : qc)]) := .inl o1011
 refine Q1 _ (jf (e_ q40)) ?_
 refine PL.nil (hK39 _ _ ?_)
 refine A7 1 f1 2 f2 6 f6 8 f8 9 f9 10 f10 11 (e_ q40) fun F f1 f2 f6 f8 f9 f10 f11 => ?_
 refine PC.seq fun K42 hK42 => ?_
 refine PC.label ?_
 refine hK42 _ _ ?_
 refine A7 1 f1 2 f2 6 f6 8 f8 9 f9 10 f10 11 f11 fun F f1 f2 f6 f8 f9 f10 f11 => ?_
 obtain ⟨o44, ho44, h0⟩ := bs h0
 refine PC.seqM (fun F H => ∃ s133 : (ByteArray × Bool), o44 = s133 ∧ F 9 = (S s133.1) ∧ F 10 = (B s133.2)) ?_ ?_
 refine PC.block ?_
 refine PC.freezeL (rep := U8) 6 f6 o1006 (fun _ => rfl) fun H fz48 => ?_
 have o1008 := o1008.mono (fz48 1008 (by decide))
 have o1011 := o1011.mono (fz48 1011 (by decide))
 obtain ⟨o61, ho61, ho44⟩ := bs ho44
 obtain ⟨B62, hB62, ho61⟩ := G.loop_some ho61
 refine PC.loop (fun m65 F H => ∃ s132 : (ByteArray × Bool × (List Bool) × (List qc)), ∃ q58, ∃ q60, qw B62 m65 s132 = some o61 ∧ F 1 = (I a1) ∧ F 2 = (PV.rp (jc a0).cells) ∧ F 6 = (Zi x17) ∧ F 8 = q58 ∧ F 9 = (S s132.1) ∧ F 10 = (B s132.2.1) ∧ F 11 = q60 ∧ ownL 4 1 B H 1008 q58 s132.2.2.1 ∧ ownQ 50 2 ve H 1011 q60 s132.2.2.2) (m := nn) ⟨((⟨#[]⟩ : ByteArray), false, (x32.set (0 : Int).toNat true), [(⟨0, (⟨#[]⟩)⟩ : qc)]), q33, q40, ho61, f1, f2, (e_ (Zi x17)), f8, f9, f10, f11, o1008, o1011⟩ fun m65 F H hI => ?_
 obtain ⟨⟨x55, x56, x57, x59⟩, q58, q60, ho61, f1, f2, f6, f8, f9, f10, f11, o1008, o1011⟩ := hI
 obtain ⟨m65, rfl, st63, hs64, ho61⟩ := jw ho61
 rw [hB62] at hs64
 try dsimp only at hs64
 refine PC.seq fun K66 hK66 => ?_
 refine SR fun K67 hK67 => ?_
 refine Q1 _ (jb f11) ?_
 refine Q3 (I (x59.length : Int)) (zov zlk o1011 (e_ q60)) ?_
 refine Q1 _ (jh rfl (e_ (I (x59.length : Int))) (e_ (I 0)) J4) ?_
 refine PL.nil (hK67 _ _ ?_)
 refine A8 1 f1 2 f2 6 f6 8 f8 9 f9 10 f10 11 f11 47 (e_ (B (decide (0 < (x59.length : Int))))) fun F f1 f2 f6 f8 f9 f10 f11 f47 => ?_
 rcases cz hs64 with ⟨hb68, hs64⟩ | ⟨hb68, hs64⟩
 refine PC.condTb f47 hb68 ?_
 refine PC.skip ?_
 refine hK66 _ _ ?_
 refine A7 1 f1 2 f2 6 f6 8 f8 9 f9 10 f10 11 f11 fun F f1 f2 f6 f8 f9 f10 f11 => ?_
 refine PC.block ?_
 refine SR fun K69 hK69 => ?_
 refine Q1 _ (jb f11) ?_
 obtain ⟨x70, hx70, hs64⟩ := bs hs64
 refine PL.ex rfl (j4 (by decide)) (zo0 (rep := ve) zm3 (fun _ => rfl) o1011 (e_ q60) (e_ (I 0)) hx70) fun p71 ⟨csp71, hlp71, h1p71, h2p71⟩ => ?_
 refine Q1 (ve x70) (q_ldA znj (e_ p71) hlp71 h2p71) ?_
 refine PL.allocA 212 (cs := [(I 0), (S (⟨#[]⟩))]) rfl rfl rfl (by decide) zng (by kernel_rfl) (by kernel_rfl) fun v212 H b212 fz72 => ?_
 have o1008 := o1008.mono (fz72 1008 (by decide))
 have o1011 := o1011.mono (fz72 1011 (by decide))
 refine PL.storeA (ag := true) (cs' := [(I x70.Qd), (S x70.Jh)]) (ps := [(I x70.Qd), (S x70.Jh)]) rfl rfl (fun _ h => by cases h) (e_ (PV.pp 212 0 v212)) b212 znj (e_ (ve x70)) (za6 _ _) rfl rfl (by decide) rfl fun H b212 fz73 => ?_
 have o1008 := o1008.mono (fz73 1008 (by decide))
 have o1011 := o1011.mono (fz73 1011 (by decide))
 refine PL.nil (hK69 _ _ ?_)
 refine A8 1 f1 2 f2 6 f6 8 f8 9 f9 10 f10 11 f11 12 (e_ (PV.pp 212 0 v212)) fun F f1 f2 f6 f8 f9 f10 f11 f12 => ?_
 refine SR fun K74 hK74 => ?_
 refine Q1 _ (jb f11) ?_
 obtain ⟨x75, hx75, hs64⟩ := bs hs64
 refine PL.ex rfl (j4 (by decide)) (znh (rep := ve) zm3 (fun _ => rfl) o1011 (e_ q60) (e_ (I 1)) hx75 (by decide)) fun q76 o1011 => ?_
 refine Q1 _ (jf (e_ q76)) ?_
 refine PL.nil (hK74 _ _ ?_)
 refine A8 1 f1 2 f2 6 f6 8 f8 9 f9 10 f10 11 (e_ q76) 12 f12 fun F f1 f2 f6 f8 f9 f10 f11 f12 => ?_
 refine PC.seq fun K77 hK77 => ?_
 refine SR fun K78 hK78 => ?_
 refine Q1 (PV.rp ((jc a0).cells.drop 258)) (j8 ze qh (by decide) f2) ?_
 refine Q1 (slI a0.jl) (jx qh (e_ (PV.rp ((jc a0).cells.drop 258))) (yg a0)) ?_
 refine Q1 (PV.pp 212 0 v212) (yu zju qz (by decide) f12 b212) ?_
 refine Q1 (I x70.Qd) (vm qz (e_ (PV.pp 212 0 v212)) b212 rfl) ?_
 obtain ⟨x79, hx79, hs64⟩ := bs hs64
 refine Q1 (PV.rp (I x79).cells) (j1 (rep := I) (xs := a0.jl) vk (e_ (slI a0.jl)) (e_ (I x70.Qd)) hx79) ?_
 refine Q1 (I x79) (qr qz (e_ (PV.rp (I x79).cells))) ?_
 refine Q1 _ (jb f1) ?_
 refine Q1 _ (jh rfl (e_ (I x79)) (e_ (I a1)) j7) ?_
 refine PL.nil (hK78 _ _ ?_)
 refine A9 1 f1 2 f2 6 f6 8 f8 9 f9 10 f10 11 f11 12 f12 60 (e_ (B (decide (x79 = a1)))) fun F f1 f2 f6 f8 f9 f10 f11 f12 f60 => ?_
 rcases cz hs64 with ⟨hb80, hs64⟩ | ⟨hb80, hs64⟩
 refine PC.condTb f60 hb80 ?_
 refine SR fun K81 hK81 => ?_
 refine Q1 (PV.pp 212 1 v212) (yu zko zkh (by decide) f12 b212) ?_
 refine Q1 (S x70.Jh) (vm zkh (e_ (PV.pp 212 1 v212)) b212 rfl) ?_
 refine Q1 _ (jf (e_ (S x70.Jh))) ?_
 refine Q1 _ (jf (e_ (B true))) ?_
 refine PL.nil (hK81 _ _ ?_)
 refine A2 9 (e_ (S x70.Jh)) 10 (e_ (B true)) fun F f9 f10 => ?_
 refine PC.exit ?_
 have hs64 := pz hs64
 subst hs64
 try dsimp only at ho61
 subst ho61
 try dsimp only at ho44
 have ho44 := pz ho44
 subst ho44
 exact ⟨(x70.Jh, true), rfl, f9, f10⟩
 refine PC.condFb f60 hb80 ?_
 refine PC.skip ?_
 refine hK77 _ _ ?_
 refine A8 1 f1 2 f2 6 f6 8 f8 9 f9 10 f10 11 f11 12 f12 fun F f1 f2 f6 f8 f9 f10 f11 f12 => ?_
 refine SR fun K82 hK82 => ?_
 refine Q1 (PV.rp ((jc a0).cells.drop 257)) (j8 vx qi (by decide) f2) ?_
 refine Q1 (qk a0.je) (jx qi (e_ (PV.rp ((jc a0).cells.drop 257))) (qm a0)) ?_
 refine Q1 (PV.pp 212 0 v212) (yu zju qz (by decide) f12 b212) ?_
 refine Q1 (I x70.Qd) (vm qz (e_ (PV.pp 212 0 v212)) b212 rfl) ?_
 obtain ⟨x83, hx83, hs64⟩ := bs hs64
 refine Q1 (PV.rp (slI x83).cells) (j1 (rep := slI) (xs := a0.je) Jz (e_ (qk a0.je)) (e_ (I x70.Qd)) hx83) ?_
 refine Q1 (slI x83) (qr qh (e_ (PV.rp (slI x83).cells))) ?_
 refine Q1 (I (x83.length : Int)) (qg (rep := I) (xs := x83) ql (e_ (slI x83))) ?_
 refine Q1 _ (jb (e_ (I 0))) ?_
 refine PL.nil (hK82 _ _ ?_)
 refine A11 1 f1 2 f2 6 f6 8 f8 9 f9 10 f10 11 f11 12 f12 68 (e_ (slI x83)) 69 (e_ (I (x83.length : Int))) 70 (e_ (I 0)) fun F f1 f2 f6 f8 f9 f10 f11 f12 f68 f69 f70 => ?_
 refine PC.block ?_
 obtain ⟨o96, ho96, hs64⟩ := bs hs64
 obtain ⟨B97, hB97, ho96⟩ := G.loop_some ho96
 refine PC.loop (fun m100 F H => ∃ s129 : (Int × (List Bool) × (List qc)), ∃ q93, ∃ q95, qw B97 m100 s129 = some o96 ∧ F 1 = (I a1) ∧ F 2 = (PV.rp (jc a0).cells) ∧ F 6 = (Zi x17) ∧ F 8 = q93 ∧ F 9 = (S x55) ∧ F 10 = (B x56) ∧ F 11 = q95 ∧ F 12 = (PV.pp 212 0 v212) ∧ F 68 = (slI x83) ∧ F 69 = (I (x83.length : Int)) ∧ F 70 = (I s129.1) ∧ H 212 = ⟨v212, some (.box 50 [(I x70.Qd), (S x70.Jh)])⟩ ∧ ownL 4 1 B H 1008 q93 s129.2.1 ∧ ownQ 50 2 ve H 1011 q95 s129.2.2) (m := nn) ⟨(0, x57, x75), q58, q76, ho96, f1, f2, f6, f8, f9, f10, f11, f12, f68, f69, f70, b212, o1008, o1011⟩ fun m100 F H hI => ?_
 obtain ⟨⟨x91, x92, x94⟩, q93, q95, ho96, f1, f2, f6, f8, f9, f10, f11, f12, f68, f69, f70, b212, o1008, o1011⟩ := hI
 obtain ⟨m100, rfl, st98, hs99, ho96⟩ := jw ho96
 rw [hB97] at hs99
 try dsimp only at hs99
 refine SR fun K101 hK101 => ?_
 refine Q1 (B (decide (x91 < (x83.length : Int)))) (jh rfl f70 f69 jv) ?_
 refine PL.nil (hK101 _ _ ?_)
 refine A12 1 f1 2 f2 6 f6 8 f8 9 f9 10 f10 11 f11 12 f12 68 f68 69 f69 70 f70 71 (e_ (B (decide (x91 < (x83.length : Int))))) fun F f1 f2 f6 f8 f9 f10 f11 f12 f68 f69 f70 f71 => ?_
 refine PC.seq fun K102 hK102 => ?_
 rcases cz hs99 with ⟨hb103, hs99⟩ | ⟨hb103, hs99⟩
 refine PC.condTb f71 hb103 ?_
 refine PC.skip ?_
 refine hK102 _ _ ?_
 refine A11 1 f1 2 f2 6 f6 8 f8 9 f9 10 f10 11 f11 12 f12 68 f68 69 f69 70 f70 fun F f1 f2 f6 f8 f9 f10 f11 f12 f68 f69 f70 => ?_
 obtain ⟨o105, ho105, hs99⟩ := bs hs99
 refine PC.seqM (fun F H => ∃ s124 : ((List Bool) × (List qc)), ∃ q107, ∃ q109, o105 = s124 ∧ F 1 = (I a1) ∧ F 2 = (PV.rp (jc a0).cells) ∧ F 6 = (Zi x17) ∧ F 8 = q107 ∧ F 9 = (S x55) ∧ F 10 = (B x56) ∧ F 11 = q109 ∧ F 12 = (PV.pp 212 0 v212) ∧ F 68 = (slI x83) ∧ F 69 = (I (x83.length : Int)) ∧ F 70 = (I x91) ∧ H 212 = ⟨v212, some (.box 50 [(I x70.Qd), (S x70.Jh)])⟩ ∧ ownL 4 1 B H 1008 q107 s124.1 ∧ ownQ 50 2 ve H 1011 q109 s124.2) ?_ ?_
 refine PC.block ?_
 refine SR fun K110 hK110 => ?_
 refine Q1 _ (jb f70) ?_
 obtain ⟨x111, hx111, ho105⟩ := bs ho105
 refine Q1 (PV.rp (I x111).cells) (j1 (rep := I) (xs := x83) vk f68 f70 hx111) ?_
 refine Q1 (I x111) (qr qz (e_ (PV.rp (I x111).cells))) ?_
 refine Q1 _ (jf (e_ (I x91))) ?_
 refine Q1 _ (jf (e_ (I x111))) ?_
 refine PL.nil (hK110 _ _ ?_)
 refine A13 1 f1 2 f2 6 f6 8 f8 9 f9 10 f10 11 f11 12 f12 13 (e_ (I x91)) 14 (e_ (I x111)) 68 f68 69 f69 70 f70 fun F f1 f2 f6 f8 f9 f10 f11 f12 f13 f14 f68 f69 f70 => ?_
 refine PC.seq fun K112 hK112 => ?_
 refine SR fun K113 hK113 => ?_
 refine Q1 _ (jb f14) ?_
 refine Q1 _ (jh rfl (e_ (I x111)) (e_ (I 0)) jv) ?_
 refine Q1 _ (jb (e_ (B (decide (x111 < 0))))) ?_
 refine GF q93 rfl (e_ (B (decide (x111 < 0)))) (fun hb => jb f8) ?_
 refine GF (I x111) rfl (e_ (B (decide (x111 < 0)))) (fun hb => jb f14) ?_
 obtain ⟨x114, hx114, ho105⟩ := bs ho105
 refine GF (PV.pp 1008 ((x111 : Int).toNat * 1) (yh q93)) rfl (e_ (B (decide (x111 < 0)))) (fun hb => z7 (rep := B) Zz o1008 (gvp hb (e_ (gv (!(decide (x111 < 0))) q93))) (gvp hb (e_ (gv (!(decide (x111 < 0))) (I x111)))) (G.cond_pos hx114 hb)) ?_
 refine GF (B x114) rfl (e_ (B (decide (x111 < 0)))) (fun hb => zdd zc0 (gvp hb (e_ (gv (!(decide (x111 < 0))) (PV.pp 1008 ((x111 : Int).toNat * 1) (yh q93))))) o1008 (G.cond_pos hx114 hb)) ?_
 refine Q1 (B ((decide (x111 < 0)) || x114)) (yf (e_ (B (decide (x111 < 0)))) rfl (e_ (gv (!(decide (x111 < 0))) (B x114)))) ?_
 refine PL.nil (hK113 _ _ ?_)
 refine A14 1 f1 2 f2 6 f6 8 f8 9 f9 10 f10 11 f11 12 f12 13 f13 14 f14 68 f68 69 f69 70 f70 82 (e_ (B ((decide (x111 < 0)) || x114))) fun F f1 f2 f6 f8 f9 f10 f11 f12 f13 f14 f68 f69 f70 f82 => ?_
 rcases cz ho105 with ⟨hb115, ho105⟩ | ⟨hb115, ho105⟩
 refine PC.condTb f82 hb115 ?_
 refine PC.exit ?_
 have ho105 := pz ho105
 subst ho105
 exact ⟨(x92, x94), q93, q95, rfl, f1, f2, f6, f8, f9, f10, f11, f12, f68, f69, f70, b212, o1008, o1011⟩
 refine PC.condFb f82 hb115 ?_
 refine PC.skip ?_
 refine hK112 _ _ ?_
 refine A13 1 f1 2 f2 6 f6 8 f8 9 f9 10 f10 11 f11 12 f12 13 f13 14 f14 68 f68 69 f69 70 f70 fun F f1 f2 f6 f8 f9 f10 f11 f12 f13 f14 f68 f69 f70 => ?_
 refine SR fun K116 hK116 => ?_
 refine Q1 _ (jb f8) ?_
 refine Q1 _ (jb f14) ?_
 obtain ⟨x117, hx117, ho105⟩ := bs ho105
 refine Q1 (PV.pp 1008 ((x111 : Int).toNat * 1) (yh q93)) (z7 (rep := B) Zz o1008 (e_ q93) (e_ (I x111)) hx117) ?_
 refine PL.stO (rep := B) (v := true) rfl rfl (fun _ h => by cases h) (e_ (PV.pp 1008 ((x111 : Int).toNat * 1) (yh q93))) o1008 zc0 hx117 (e_ (B true)) (fun _ => rfl) fun H o1008 fz118 => ?_
 have o1011 := o1011.mono (fz118 1011 (by decide))
 have b212 := (fz118 212 (by decide)).trans b212
 refine PL.nil (hK116 _ _ ?_)
 refine A13 1 f1 2 f2 6 f6 8 f8 9 f9 10 f10 11 f11 12 f12 13 f13 14 f14 68 f68 69 f69 70 f70 fun F f1 f2 f6 f8 f9 f10 f11 f12 f13 f14 f68 f69 f70 => ?_
 refine PC.regionT 13 mixed (by kernel_rfl) ?_
 refine Q2 _ (jb f11) ?_
 refine Q2 _ (jb f14) ?_
 refine Q2 (PV.pp 212 1 v212) (yu zko zkh (by decide) f12 b212) ?_
 refine Q2 (S x70.Jh) (vm zkh (e_ (PV.pp 212 1 v212)) b212 rfl) ?_
 refine Q2 _ (jb f6) ?_
 refine Q2 _ (jb f13) ?_
 refine Q2 _ (jb f13) ?_
 refine Q2 _ (jh rfl (e_ (I x91)) (e_ (I 1)) j3) ?_
 obtain ⟨x119, hx119, ho105⟩ := bs ho105
 refine Q2 (Zi x119) (zl3 (rep := U8) zky (e_ (Zi x17)) (e_ (I x91)) (e_ (I (w64 (x91 + 1)))) hx119) ?_
 refine Q4 (S (strOfNums x119)) (zjl (e := 5) (rep := U8) (fun _ => rfl) (by kernel_rfl) (by kernel_rfl) (by kernel_rfl) (e_ (Zi x119))) ?_
 obtain ⟨x120, hx120, ho105⟩ := bs ho105
 refine Q2 _ (jh rfl (e_ (S x70.Jh)) (e_ (S (strOfNums x119))) (b_addS hx120)) ?_
 refine Q2 (ve (⟨x111, x120⟩ : qc)) (Jg (bm (e_ (I x111)) (bm (e_ (S x120)) (bm0))) (by kernel_rfl)) ?_
 refine Q4 (Z9 ([(⟨x111, x120⟩ : qc)] : List qc)) (yx (rep := ve) (xs := [(⟨x111, x120⟩ : qc)]) zgl rfl (by decide) (bm (e_ (ve (⟨x111, x120⟩ : qc))) (bm0)) rfl rfl) ?_
 refine QF.nil ?_
 obtain ⟨x121, hx121, ho105⟩ := bs ho105
 refine PL.appQ (rep := ve) (ys := ([(⟨x111, x120⟩ : qc)] : List qc)) rfl rfl rfl (by decide) zgl (e_ q95) o1011 (e_ (Z9 ([(⟨x111, x120⟩ : qc)] : List qc))) (fun _ => rfl) (lfa (fun _ => za6 _ _)) hx121 fun q122 H o1011 fz123 => ?_
 have o1008 := o1008.mono (fz123 1008 (by decide))
 have b212 := (fz123 212 (by decide)).trans b212
 refine Q1 _ (jf (e_ q122)) ?_
 refine PL.nil ?_
 have ho105 := pz ho105
 subst ho105
 exact ⟨((x92.set (x111 : Int).toNat true), x121), q93, q122, rfl, f1, f2, f6, f8, f9, f10, (e_ q122), f12, f68, f69, f70, b212, o1008, o1011⟩
 intro F H hI
 obtain ⟨⟨x106, x108⟩, q107, q109, ho, f1, f2, f6, f8, f9, f10, f11, f12, f68, f69, f70, b212, o1008, o1011⟩ := hI
 have ho := ho.symm
 subst ho
 try dsimp only at hs99
 refine PC.region ?_
 refine Q1 _ (jh rfl f70 (e_ (I 1)) j3) ?_
 refine Q1 _ (jb (e_ (I (w64 (x91 + 1))))) ?_
 refine PL.nil ?_
 have hs99 := pz hs99
 subst hs99
 exact ⟨m100, Nat.lt_succ_self _, ((w64 (x91 + 1)), x106, x108), q107, q109, ho96, f1, f2, f6, f8, f9, f10, f11, f12, f68, f69, (e_ (I (w64 (x91 + 1)))), b212, o1008, o1011⟩
 refine PC.condFb f71 hb103 ?_
 refine PC.exit ?_
 have hs99 := pz hs99
 subst hs99
 try dsimp only at ho96
 subst ho96
 try dsimp only at hs64
 have hs64 := pz hs64
 subst hs64
 exact ⟨m65, Nat.lt_succ_self _, (x55, x56, x92, x94), q93, q95, ho61, f1, f2, f6, f8, f9, f10, f11, o1008, o1011⟩
 refine PC.condFb f47 hb68 ?_
 refine PC.exit ?_
 have hs64 := pz hs64
 subst hs64
 try dsimp only at ho61
 subst ho61
 try dsimp only at ho44
 have ho44 := pz ho44
 subst ho44
 exact ⟨(x55, x56), rfl, f9, f10⟩
 intro F H hI
 obtain ⟨⟨x45, x46⟩, ho, f9, f10⟩ := hI
 have ho := ho.symm
 subst ho
 try dsimp only at h0
 refine SR fun K47 hK47 => ?_
 refine Q1 _ (jb f9) ?_
 refine Q1 _ (jb f10) ?_
 refine Q1 _ (jf (e_ (S x45))) ?_
 refine Q1 _ (jf (e_ (B x46))) ?_
 refine PL.nil (hK47 _ _ ?_)
 refine A2 4 (e_ (S x45)) 5 (e_ (B x46)) fun F f4 f5 => ?_
 refine PC.ret ?_
 have h0 := pz h0
 subst h0
 exact fin (.inr rfl) (zt (ss := [4, 5]) (ps := [(S x45), (B x46)]) Try.results14 (by decide) (rm f4 (rm f5 (rfl)))) (.tup _ (js (.u _) (js (.u _) (j2))))
def zab (a0 : jd) (a1 : Int) : G (List Int) :=
  G.bind (G.lift (idx a0.je a1)) fun x5 => G.bind (G.loop (σ := (Int × (List Int))) (α := (List Int)) (fun (x9, x10) => G.cond (decide (x9 < (x5.length : Int))) (G.bind (α := (List Int)) (G.bind (G.lift (idx x5 x9)) fun x25 => G.cond (decide (0 ≤ x25)) (G.bind (G.lift (app 8 x10 ([x25] : List Int))) fun x28 => G.pure x28) (G.pure x10)) fun x22 => G.pure (.inl ((w64 (x9 + 1)), x22))) (G.pure (.inr x10))) (0, [])) fun x33 => G.pure x33
theorem zj7 {nn : Nat} {a0 : jd} {a1 : Int} {r : (List Int)} (h0 : zab a0 a1 nn = some r) : PCall Try.prog 23 [jc a0, I a1] (· = PV.fr 3 1 (r.map I)) := by
 unfold zab at h0
 refine PCall.intro' Try.func23 rfl Try.ntmps23 (by simp) fun W => ?_
 refine A2 0 (e_ (jc a0)) 1 (e_ (I a1)) fun F f0 f1 => ?_
 generalize PHeap.empty = H
 refine SR fun K1 hK1 => ?_
 refine Q3 (PV.rp (jc a0).cells) (zk f0 (qt _ _)) ?_
 refine Q1 (PV.u (.slice none 0 0)) (jf rfl) ?_
 have o1004 : ownL 3 1 I H 1004 (PV.u (.slice none 0 0)) [] := ownL.nil _ _
 refine PL.nil (hK1 _ _ ?_)
 refine A2 1 f1 2 (e_ (PV.rp (jc a0).cells)) fun F f1 f2 => ?_
 refine SR fun K2 hK2 => ?_
 refine Q1 (PV.u (.slice none 0 0)) (jf rfl) ?_
 have o1004 : ownL 3 1 I H 1004 (PV.u (.slice none 0 0)) [] := ownL.nil _ _
 refine PL.nil (hK2 _ _ ?_)
 refine A3 1 f1 2 f2 5 (e_ (PV.u (.slice none 0 0))) fun F f1 f2 f5 => ?_
 refine PC.seq fun K3 hK3 => ?_
 refine SR fun K4 hK4 => ?_
 refine Q1 (PV.rp ((jc a0).cells.drop 257)) (j8 vx qi (by decide) f2) ?_
 refine Q1 (qk a0.je) (jx qi (e_ (PV.rp ((jc a0).cells.drop 257))) (qm a0)) ?_
 refine Q1 _ (jb f1) ?_
 obtain ⟨x5, hx5, h0⟩ := bs h0
 refine Q1 (PV.rp (slI x5).cells) (j1 (rep := slI) (xs := a0.je) Jz (e_ (qk a0.je)) (e_ (I a1)) hx5) ?_
 refine Q1 (slI x5) (qr qh (e_ (PV.rp (slI x5).cells))) ?_
 refine Q1 (I (x5.length : Int)) (qg (rep := I) (xs := x5) ql (e_ (slI x5))) ?_
 refine Q1 _ (jb (e_ (I 0))) ?_
 refine PL.nil (hK4 _ _ ?_)
 refine A4 5 f5 12 (e_ (slI x5)) 13 (e_ (I (x5.length : Int))) 14 (e_ (I 0)) fun F f5 f12 f13 f14 => ?_
 refine PC.block ?_
 obtain ⟨o12, ho12, h0⟩ := bs h0
 obtain ⟨B13, hB13, ho12⟩ := G.loop_some ho12
 refine PC.loop (fun m16 F H => ∃ s36 : (Int × (List Int)), ∃ q11, qw B13 m16 s36 = some o12 ∧ F 5 = q11 ∧ F 12 = (slI x5) ∧ F 13 = (I (x5.length : Int)) ∧ F 14 = (I s36.1) ∧ ownL 3 1 I H 1004 q11 s36.2) (m := nn) ⟨(0, []), (PV.u (.slice none 0 0)), ho12, f5, f12, f13, f14, o1004⟩ fun m16 F H hI => ?_
 obtain ⟨⟨x9, x10⟩, q11, ho12, f5, f12, f13, f14, o1004⟩ := hI
 obtain ⟨m16, rfl, st14, hs15, ho12⟩ := jw ho12
 rw [hB13] at hs15
 try dsimp only at hs15
 refine SR fun K17 hK17 => ?_
 refine Q1 (B (decide (x9 < (x5.length : Int)))) (jh rfl f14 f13 jv) ?_
 refine PL.nil (hK17 _ _ ?_)
 refine A5 5 f5 12 f12 13 f13 14 f14 15 (e_ (B (decide (x9 < (x5.length : Int))))) fun F f5 f12 f13 f14 f15 => ?_
 refine PC.seq fun K18 hK18 => ?_
 rcases cz hs15 with ⟨hb19, hs15⟩ | ⟨hb19, hs15⟩
 refine PC.condTb f15 hb19 ?_
 refine PC.skip ?_
 refine hK18 _ _ ?_
 refine A4 5 f5 12 f12 13 f13 14 f14 fun F f5 f12 f13 f14 => ?_
 obtain ⟨o21, ho21, hs15⟩ := bs hs15
 refine PC.seqM (fun F H => ∃ s31 : (List Int), ∃ q23, o21 = s31 ∧ F 5 = q23 ∧ F 12 = (slI x5) ∧ F 13 = (I (x5.length : Int)) ∧ F 14 = (I x9) ∧ ownL 3 1 I H 1004 q23 s31) ?_ ?_
 refine PC.block ?_
 refine SR fun K24 hK24 => ?_
 obtain ⟨x25, hx25, ho21⟩ := bs ho21
 refine Q1 (PV.rp (I x25).cells) (j1 (rep := I) (xs := x5) vk f12 f14 hx25) ?_
 refine Q1 (I x25) (qr qz (e_ (PV.rp (I x25).cells))) ?_
 refine Q1 _ (jf (e_ (I x25))) ?_
 refine PL.nil (hK24 _ _ ?_)
 refine A5 5 f5 7 (e_ (I x25)) 12 f12 13 f13 14 f14 fun F f5 f7 f12 f13 f14 => ?_
 refine SR fun K26 hK26 => ?_
 refine Q1 _ (jb f7) ?_
 refine Q1 _ (jh rfl (e_ (I x25)) (e_ (I 0)) vr) ?_
 refine PL.nil (hK26 _ _ ?_)
 refine A6 5 f5 7 f7 12 f12 13 f13 14 f14 19 (e_ (B (decide (0 ≤ x25)))) fun F f5 f7 f12 f13 f14 f19 => ?_
 rcases cz ho21 with ⟨hb27, ho21⟩ | ⟨hb27, ho21⟩
 refine PC.condTb f19 hb27 ?_
 refine PC.region ?_
 refine Q1 _ (jb f5) ?_
 refine Q1 _ (jb f7) ?_
 refine Q3 (slI ([x25] : List Int)) (yx (rep := I) (xs := [x25]) qj rfl (by decide) (bm (e_ (I x25)) (bm0)) rfl rfl) ?_
 obtain ⟨x28, hx28, ho21⟩ := bs ho21
 refine PL.appG (rep := I) (ys := ([x25] : List Int)) rfl rfl rfl (by decide) qj (e_ q11) o1004 (e_ (slI ([x25] : List Int))) (fun _ => rfl) (lf1 (fun _ => rfl) (fun _ => rfl)) hx28 fun q29 H o1004 fz30 => ?_
 refine Q1 _ (jf (e_ q29)) ?_
 refine PL.nil ?_
 have ho21 := pz ho21
 subst ho21
 exact ⟨x28, q29, rfl, (e_ q29), f12, f13, f14, o1004⟩
 refine PC.condFb f19 hb27 ?_
 refine PC.skip ?_
 have ho21 := pz ho21
 subst ho21
 exact ⟨x10, q11, rfl, f5, f12, f13, f14, o1004⟩
 intro F H hI
 obtain ⟨x22, q23, ho, f5, f12, f13, f14, o1004⟩ := hI
 have ho := ho.symm
 subst ho
 try dsimp only at hs15
 refine PC.region ?_
 refine Q1 _ (jh rfl f14 (e_ (I 1)) j3) ?_
 refine Q1 _ (jb (e_ (I (w64 (x9 + 1))))) ?_
 refine PL.nil ?_
 have hs15 := pz hs15
 subst hs15
 exact ⟨m16, Nat.lt_succ_self _, ((w64 (x9 + 1)), x22), q23, ho12, f5, f12, f13, (e_ (I (w64 (x9 + 1)))), o1004⟩
 refine PC.condFb f15 hb19 ?_
 refine PC.exit ?_
 have hs15 := pz hs15
 subst hs15
 try dsimp only at ho12
 subst ho12
 try dsimp only at h0
 refine hK3 _ _ ?_
 refine A1 5 f5 fun F f5 => ?_
 refine SR fun K32 hK32 => ?_
 refine Q1 _ (jb f5) ?_
 refine Q1 _ (jf (e_ q11)) ?_
 refine PL.nil (hK32 _ _ ?_)
 refine A1 4 (e_ q11) fun F f4 => ?_
 refine PC.ret ?_
 have h0 := pz h0
 subst h0
 exact za (.inr rfl) (j9 Try.results23 f4) o1004 (fun _ => rfl)
theorem ze1 {nn : Nat} {a0 : jd} {a1 : Int} {r : (List Int)} (h0 : zab a0 a1 nn = some r) : PCall Try.prog 23 [jc a0, I a1] (· = slI r) := (zj7 h0).forget
def Vi (a0 : Int) (c0 : jd) : G (List Int) :=
  G.bind (zab c0 a0) fun x3 => G.pure x3
theorem zda {nn : Nat} {a0 : Int} {c0 : jd} {r : (List Int)} (h0 : Vi a0 c0 nn = some r) : PCall Try.prog 22 [I a0, PV.rp (jc c0).cells] (· = slI r) := by
 unfold Vi at h0
 refine PCall.intro' Try.func22 rfl Try.ntmps22 (by simp) fun W => ?_
 refine A2 0 (e_ (I a0)) 1 (e_ (PV.rp (jc c0).cells)) fun F f0 f1 => ?_
 generalize PHeap.empty = H
 refine SR fun K1 hK1 => ?_
 refine Q3 (slI []) (J1 (k := 1)) ?_
 refine PL.nil (hK1 _ _ ?_)
 refine A2 0 f0 1 f1 fun F f0 f1 => ?_
 refine SR fun K2 hK2 => ?_
 refine Q1 (jc c0) (vw v7 f1 (qe _)) ?_
 refine Q1 _ (jb f0) ?_
 obtain ⟨x3, hx3, h0⟩ := bs h0
 refine Q3 (slI x3) (j0 (by kernel_rfl) (am (e_ (jc c0)) (am (e_ (I a0)) (am0))) (js (qa _) (js (.u _) (j2))) (ze1 hx3)) ?_
 refine Q1 _ (jf (e_ (slI x3))) ?_
 refine PL.nil (hK2 _ _ ?_)
 refine A1 3 (e_ (slI x3)) fun F f3 => ?_
 refine PC.ret ?_
 have h0 := pz h0
 subst h0
 exact fin (.inr rfl) (j9 Try.results22 f3) (ye _)
def V1 (a0 : Int) (a1 : (List Int)) (a2 : Int → G (List Int)) : G (List Bool) :=
  G.bind (G.lift (mkS 1 (false : Bool) a0)) fun x3 => G.bind (G.lift (zbv a1 a1)) fun x7 => G.bind (G.loop (σ := (Int × (List Bool))) (α := (List Bool)) (fun (x17, x18) => G.cond (decide (x17 < (a1.length : Int))) (G.bind (G.lift (idx a1 x17)) fun x30 => G.bind (G.lift (idx x18 x30)) fun x31 => G.pure (.inl ((w64 (x17 + 1)), (x18.set (x30 : Int).toNat true)))) (G.pure (.inr x18))) (0, x3)) fun x106 => G.bind (G.loop (σ := ((List Bool) × (List Int))) (α := (List Bool)) (fun (x113, x115) => G.cond (decide (0 < (x115.length : Int))) (G.bind (G.lift (idx x115 0)) fun x126 => G.bind (G.lift (zfp x115 1 (x115.length : Int))) fun x129 => G.bind (a2 x126) fun x132 => G.bind (G.loop (σ := (Int × (List Bool) × (List Int))) (α := ((List Bool) × (List Int))) (fun (x138, x139, x141) => G.cond (decide (x138 < (x132.length : Int))) (G.bind (α := ((List Bool) × (List Int))) (G.bind (G.lift (idx x132 x138)) fun x158 => G.bind (G.lift (idx x139 x158)) fun x160 => G.cond (!x160) (G.bind (G.lift (idx x139 x158)) fun x163 => G.bind (G.lift (app 8 x141 ([x158] : List Int))) fun x165 => G.pure ((x139.set (x158 : Int).toNat true), x165)) (G.pure (x139, x141))) fun (x153, x155) => G.pure (.inl ((w64 (x138 + 1)), x153, x155))) (G.pure (.inr (x139, x141)))) (0, x113, x129)) fun (x169, x171) => G.pure (.inl (x169, x171))) (G.pure (.inr x113))) (x106, x7)) fun x176 => G.pure x176
theorem za1 {nn : Nat} {a0 : Int} {a1 : (List Int)} {a2 : Int → G (List Int)} {a2_f : Nat} {a2_A a2_B : List PV} (a2_na : ∀ p ∈ a2_A, NoP p) (a2_nb : ∀ p ∈ a2_B, NoP p) (a2_g : Vj Try.prog a2_f = true) (a2_w : ∀ {nn : Nat} {x0 : Int} {r : (List Int)}, a2 x0 nn = some r → PCall Try.prog a2_f (a2_A ++ [I x0] ++ a2_B) (· = slI r)) {r : (List Bool)} (h0 : V1 a0 a1 a2 nn = some r) : PCall Try.prog 21 [I a0, slI a1, PV.fn (.func a2_f) a2_A a2_B] (· = slB r) := by
 unfold V1 at h0
 refine PCall.intro' Try.func21 rfl Try.ntmps21 (by simp) fun W => ?_
 refine A3 0 (e_ (I a0)) 1 (e_ (slI a1)) 2 (e_ (PV.fn (.func a2_f) a2_A a2_B)) fun F f0 f1 f2 => ?_
 generalize PHeap.empty = H
 refine SR fun K1 hK1 => ?_
 refine Q1 (PV.u (.slice none 0 0)) (jf rfl) ?_
 have o1006 : ownL 4 1 B H 1006 (PV.u (.slice none 0 0)) [] := ownL.nil _ _
 refine PL.nil (hK1 _ _ ?_)
 refine A3 0 f0 1 f1 2 f2 fun F f0 f1 f2 => ?_
 refine SR fun K2 hK2 => ?_
 refine Q1 _ (jb f0) ?_
 obtain ⟨x3, hx3, h0⟩ := bs h0
 refine PL.mkS (rep := B) 1006 rfl rfl rfl (by decide) zd3 rfl rfl (e_ (I a0)) hx3 fun q4 H o1006 fz5 => ?_
 refine Q1 _ (jf (e_ q4)) ?_
 refine PL.nil (hK2 _ _ ?_)
 refine A3 1 f1 2 f2 7 (e_ q4) fun F f1 f2 f7 => ?_
 refine SR fun K6 hK6 => ?_
 refine Q1 _ (jb f1) ?_
 obtain ⟨x7, hx7, h0⟩ := bs h0
 refine PL.cloneI 1008 rfl rfl rfl (by decide) (e_ (slI a1)) hx7 fun q8 H o1008 fz9 => ?_
 have o1006 := o1006.mono (fz9 1006 (by decide))
 have o1008 : ownQ 3 1 I H 1008 q8 x7 := .inl o1008
 refine Q1 _ (jf (e_ q8)) ?_
 refine PL.nil (hK6 _ _ ?_)
 refine A4 1 f1 2 f2 7 f7 8 (e_ q8) fun F f1 f2 f7 f8 => ?_
 refine PC.seq fun K10 hK10 => ?_
 refine SR fun K11 hK11 => ?_
 refine Q1 _ (jb f1) ?_
 refine Q1 (I (a1.length : Int)) (qg (rep := I) (xs := a1) ql (e_ (slI a1))) ?_
 refine Q1 _ (jb (e_ (I 0))) ?_
 refine PL.nil (hK11 _ _ ?_)
 refine A6 2 f2 7 f7 8 f8 18 (e_ (slI a1)) 19 (e_ (I (a1.length : Int))) 20 (e_ (I 0)) fun F f2 f7 f8 f18 f19 f20 => ?_
 refine PC.block ?_
 obtain ⟨o20, ho20, h0⟩ := bs h0
 obtain ⟨B21, hB21, ho20⟩ := G.loop_some ho20
 refine PC.loop (fun m24 F H => ∃ s181 : (Int × (List Bool)), ∃ q19, qw B21 m24 s181 = some o20 ∧ F 2 = (PV.fn (.func a2_f) a2_A a2_B) ∧ F 7 = q19 ∧ F 8 = q8 ∧ F 18 = (slI a1) ∧ F 19 = (I (a1.length : Int)) ∧ F 20 = (I s181.1) ∧ ownL 4 1 B H 1006 q19 s181.2 ∧ ownQ 3 1 I H 1008 q8 x7) (m := nn) ⟨(0, x3), q4, ho20, f2, f7, f8, f18, f19, f20, o1006, o1008⟩ fun m24 F H hI => ?_
 obtain ⟨⟨x17, x18⟩, q19, ho20, f2, f7, f8, f18, f19, f20, o1006, o1008⟩ := hI
 obtain ⟨m24, rfl, st22, hs23, ho20⟩ := jw ho20
 rw [hB21] at hs23
 try dsimp only at hs23
 refine SR fun K25 hK25 => ?_
 refine Q1 (B (decide (x17 < (a1.length : Int)))) (jh rfl f20 f19 jv) ?_
 refine PL.nil (hK25 _ _ ?_)
 refine A7 2 f2 7 f7 8 f8 18 f18 19 f19 20 f20 21 (e_ (B (decide (x17 < (a1.length : Int))))) fun F f2 f7 f8 f18 f19 f20 f21 => ?_
 refine PC.seq fun K26 hK26 => ?_
 rcases cz hs23 with ⟨hb27, hs23⟩ | ⟨hb27, hs23⟩
 refine PC.condTb f21 hb27 ?_
 refine PC.skip ?_
 refine hK26 _ _ ?_
 refine A6 2 f2 7 f7 8 f8 18 f18 19 f19 20 f20 fun F f2 f7 f8 f18 f19 f20 => ?_
 refine PC.seq fun K28 hK28 => ?_
 refine PC.block ?_
 refine SR fun K29 hK29 => ?_
 obtain ⟨x30, hx30, hs23⟩ := bs hs23
 refine Q1 (PV.rp (I x30).cells) (j1 (rep := I) (xs := a1) vk f18 f20 hx30) ?_
 refine Q1 (I x30) (qr qz (e_ (PV.rp (I x30).cells))) ?_
 refine Q1 _ (jf (e_ (I x30))) ?_
 refine PL.nil (hK29 _ _ ?_)
 refine A7 2 f2 7 f7 8 f8 10 (e_ (I x30)) 18 f18 19 f19 20 f20 fun F f2 f7 f8 f10 f18 f19 f20 => ?_
 refine PC.region ?_
 refine Q1 _ (jb f7) ?_
 refine Q1 _ (jb f10) ?_
 obtain ⟨x31, hx31, hs23⟩ := bs hs23
 refine Q1 (PV.pp 1006 ((x30 : Int).toNat * 1) (yh q19)) (z7 (rep := B) Zz o1006 (e_ q19) (e_ (I x30)) hx31) ?_
 refine PL.stO (rep := B) (v := true) rfl rfl (fun _ h => by cases h) (e_ (PV.pp 1006 ((x30 : Int).toNat * 1) (yh q19))) o1006 zc0 hx31 (e_ (B true)) (fun _ => rfl) fun H o1006 fz32 => ?_
 have o1008 := o1008.mono (fz32 1008 (by decide))
 refine PL.nil (hK28 _ _ ?_)
 refine A6 2 f2 7 f7 8 f8 18 f18 19 f19 20 f20 fun F f2 f7 f8 f18 f19 f20 => ?_
 refine PC.region ?_
 refine Q1 _ (jh rfl f20 (e_ (I 1)) j3) ?_
 refine Q1 _ (jb (e_ (I (w64 (x17 + 1))))) ?_
 refine PL.nil ?_
 have hs23 := pz hs23
 subst hs23
 exact ⟨m24, Nat.lt_succ_self _, ((w64 (x17 + 1)), (x18.set (x30 : Int).toNat true)), q19, ho20, f2, f7, f8, f18, f19, (e_ (I (w64 (x17 + 1)))), o1006, o1008⟩
 refine PC.condFb f21 hb27 ?_
 refine PC.exit ?_
 have hs23 := pz hs23
 subst hs23
 try dsimp only at ho20
 subst ho20
 try dsimp only at h0
 refine hK10 _ _ ?_
 refine A3 2 f2 7 f7 8 f8 fun F f2 f7 f8 => ?_
 refine PC.seq fun K33 hK33 => ?_
 refine PC.block ?_
 obtain ⟨o42, ho42, h0⟩ := bs h0
 obtain ⟨B43, hB43, ho42⟩ := G.loop_some ho42
 refine PC.loop (fun m46 F H => ∃ s105 : ((List Bool) × (List Int)), ∃ q39, ∃ q41, qw B43 m46 s105 = some o42 ∧ F 2 = (PV.fn (.func a2_f) a2_A a2_B) ∧ F 7 = q39 ∧ F 8 = q41 ∧ ownL 4 1 B H 1006 q39 s105.1 ∧ ownQ 3 1 I H 1008 q41 s105.2) (m := nn) ⟨(x18, x7), q19, q8, ho42, f2, f7, f8, o1006, o1008⟩ fun m46 F H hI => ?_
 obtain ⟨⟨x38, x40⟩, q39, q41, ho42, f2, f7, f8, o1006, o1008⟩ := hI
 obtain ⟨m46, rfl, st44, hs45, ho42⟩ := jw ho42
 rw [hB43] at hs45
 try dsimp only at hs45
 refine PC.seq fun K47 hK47 => ?_
 refine SR fun K48 hK48 => ?_
 refine Q1 _ (jb f8) ?_
 refine Q3 (I (x40.length : Int)) (zov ql o1008 (e_ q41)) ?_
 refine Q1 _ (jh rfl (e_ (I (x40.length : Int))) (e_ (I 0)) J4) ?_
 refine PL.nil (hK48 _ _ ?_)
 refine A4 2 f2 7 f7 8 f8 30 (e_ (B (decide (0 < (x40.length : Int))))) fun F f2 f7 f8 f30 => ?_
 rcases cz hs45 with ⟨hb49, hs45⟩ | ⟨hb49, hs45⟩
 refine PC.condTb f30 hb49 ?_
 refine PC.skip ?_
 refine hK47 _ _ ?_
 refine A3 2 f2 7 f7 8 f8 fun F f2 f7 f8 => ?_
 refine PC.block ?_
 refine SR fun K50 hK50 => ?_
 refine Q1 _ (jb f8) ?_
 obtain ⟨x51, hx51, hs45⟩ := bs hs45
 refine PL.ex rfl (j4 (by decide)) (zo0 (rep := I) vk (fun _ => rfl) o1008 (e_ q41) (e_ (I 0)) hx51) fun p52 ⟨csp52, hlp52, h1p52, h2p52⟩ => ?_
 refine Q1 (I x51) (q_ld1 qz (e_ p52) hlp52 (h1p52 _ rfl)) ?_
 refine Q1 _ (jf (e_ (I x51))) ?_
 refine PL.nil (hK50 _ _ ?_)
 refine A4 2 f2 7 f7 8 f8 11 (e_ (I x51)) fun F f2 f7 f8 f11 => ?_
 refine SR fun K53 hK53 => ?_
 refine Q1 _ (jb f8) ?_
 obtain ⟨x54, hx54, hs45⟩ := bs hs45
 refine PL.ex rfl (j4 (by decide)) (znh (rep := I) vk (fun _ => rfl) o1008 (e_ q41) (e_ (I 1)) hx54 (by decide)) fun q55 o1008 => ?_
 refine Q1 _ (jf (e_ q55)) ?_
 refine PL.nil (hK53 _ _ ?_)
 refine A4 2 f2 7 f7 8 (e_ q55) 11 f11 fun F f2 f7 f8 f11 => ?_
 refine SR fun K56 hK56 => ?_
 refine Q1 _ (jb f2) ?_
 refine Q1 _ (jb f11) ?_
 obtain ⟨x57, hx57, hs45⟩ := bs hs45
 refine Q3 (slI x57) (callv (e_ (PV.fn (.func a2_f) a2_A a2_B)) a2_g (am (e_ (I x51)) (am0)) (zoc (zoc a2_na (js (.u _) (j2))) a2_nb) (a2_w hx57)) ?_
 refine Q1 (I (x57.length : Int)) (qg (rep := I) (xs := x57) ql (e_ (slI x57))) ?_
 refine Q1 _ (jb (e_ (I 0))) ?_
 refine PL.nil (hK56 _ _ ?_)
 refine A6 2 f2 7 f7 8 f8 38 (e_ (slI x57)) 39 (e_ (I (x57.length : Int))) 40 (e_ (I 0)) fun F f2 f7 f8 f38 f39 f40 => ?_
 refine PC.block ?_
 obtain ⟨o68, ho68, hs45⟩ := bs hs45
 obtain ⟨B69, hB69, ho68⟩ := G.loop_some ho68
 refine PC.loop (fun m72 F H => ∃ s98 : (Int × (List Bool) × (List Int)), ∃ q65, ∃ q67, qw B69 m72 s98 = some o68 ∧ F 2 = (PV.fn (.func a2_f) a2_A a2_B) ∧ F 7 = q65 ∧ F 8 = q67 ∧ F 38 = (slI x57) ∧ F 39 = (I (x57.length : Int)) ∧ F 40 = (I s98.1) ∧ ownL 4 1 B H 1006 q65 s98.2.1 ∧ ownQ 3 1 I H 1008 q67 s98.2.2) (m := nn) ⟨(0, x38, x54), q39, q55, ho68, f2, f7, f8, f38, f39, f40, o1006, o1008⟩ fun m72 F H hI => ?_
 obtain ⟨⟨x63, x64, x66⟩, q65, q67, ho68, f2, f7, f8, f38, f39, f40, o1006, o1008⟩ := hI
 obtain ⟨m72, rfl, st70, hs71, ho68⟩ := jw ho68
 rw [hB69] at hs71
 try dsimp only at hs71
 refine SR fun K73 hK73 => ?_
 refine Q1 (B (decide (x63 < (x57.length : Int)))) (jh rfl f40 f39 jv) ?_
 refine PL.nil (hK73 _ _ ?_)
 refine A7 2 f2 7 f7 8 f8 38 f38 39 f39 40 f40 41 (e_ (B (decide (x63 < (x57.length : Int))))) fun F f2 f7 f8 f38 f39 f40 f41 => ?_
 refine PC.seq fun K74 hK74 => ?_
 rcases cz hs71 with ⟨hb75, hs71⟩ | ⟨hb75, hs71⟩
 refine PC.condTb f41 hb75 ?_
 refine PC.skip ?_
 refine hK74 _ _ ?_
 refine A6 2 f2 7 f7 8 f8 38 f38 39 f39 40 f40 fun F f2 f7 f8 f38 f39 f40 => ?_
 obtain ⟨o77, ho77, hs71⟩ := bs hs71
 refine PC.seqM (fun F H => ∃ s93 : ((List Bool) × (List Int)), ∃ q79, ∃ q81, o77 = s93 ∧ F 2 = (PV.fn (.func a2_f) a2_A a2_B) ∧ F 7 = q79 ∧ F 8 = q81 ∧ F 38 = (slI x57) ∧ F 39 = (I (x57.length : Int)) ∧ F 40 = (I x63) ∧ ownL 4 1 B H 1006 q79 s93.1 ∧ ownQ 3 1 I H 1008 q81 s93.2) ?_ ?_
 refine PC.block ?_
 refine SR fun K82 hK82 => ?_
 obtain ⟨x83, hx83, ho77⟩ := bs ho77
 refine Q1 (PV.rp (I x83).cells) (j1 (rep := I) (xs := x57) vk f38 f40 hx83) ?_
 refine Q1 (I x83) (qr qz (e_ (PV.rp (I x83).cells))) ?_
 refine Q1 _ (jf (e_ (I x83))) ?_
 refine PL.nil (hK82 _ _ ?_)
 refine A7 2 f2 7 f7 8 f8 13 (e_ (I x83)) 38 f38 39 f39 40 f40 fun F f2 f7 f8 f13 f38 f39 f40 => ?_
 refine SR fun K84 hK84 => ?_
 refine Q1 _ (jb f7) ?_
 refine Q1 _ (jb f13) ?_
 obtain ⟨x85, hx85, ho77⟩ := bs ho77
 refine Q1 (PV.pp 1006 ((x83 : Int).toNat * 1) (yh q65)) (z7 (rep := B) Zz o1006 (e_ q65) (e_ (I x83)) hx85) ?_
 refine Q1 (B x85) (zdd zc0 (e_ (PV.pp 1006 ((x83 : Int).toNat * 1) (yh q65))) o1006 hx85) ?_
 refine Q1 (B (!x85)) (yn (e_ (B x85))) ?_
 refine PL.nil (hK84 _ _ ?_)
 refine A8 2 f2 7 f7 8 f8 13 f13 38 f38 39 f39 40 f40 48 (e_ (B (!x85))) fun F f2 f7 f8 f13 f38 f39 f40 f48 => ?_
 rcases cz ho77 with ⟨hb86, ho77⟩ | ⟨hb86, ho77⟩
 refine PC.condTb f48 hb86 ?_
 refine SR fun K87 hK87 => ?_
 refine Q1 _ (jb f7) ?_
 refine Q1 _ (jb f13) ?_
 obtain ⟨x88, hx88, ho77⟩ := bs ho77
 refine Q1 (PV.pp 1006 ((x83 : Int).toNat * 1) (yh q65)) (z7 (rep := B) Zz o1006 (e_ q65) (e_ (I x83)) hx88) ?_
 refine PL.stO (rep := B) (v := true) rfl rfl (fun _ h => by cases h) (e_ (PV.pp 1006 ((x83 : Int).toNat * 1) (yh q65))) o1006 zc0 hx88 (e_ (B true)) (fun _ => rfl) fun H o1006 fz89 => ?_
 have o1008 := o1008.mono (fz89 1008 (by decide))
 refine PL.nil (hK87 _ _ ?_)
 refine A7 2 f2 7 f7 8 f8 13 f13 38 f38 39 f39 40 f40 fun F f2 f7 f8 f13 f38 f39 f40 => ?_
 refine PC.region ?_
 refine Q1 _ (jb f8) ?_
 refine Q1 _ (jb f13) ?_
 refine Q3 (slI ([x83] : List Int)) (yx (rep := I) (xs := [x83]) qj rfl (by decide) (bm (e_ (I x83)) (bm0)) rfl rfl) ?_
 obtain ⟨x90, hx90, ho77⟩ := bs ho77
 refine PL.appQ (rep := I) (ys := ([x83] : List Int)) rfl rfl rfl (by decide) qj (e_ q67) o1008 (e_ (slI ([x83] : List Int))) (fun _ => rfl) (lf1 (fun _ => rfl) (fun _ => rfl)) hx90 fun q91 H o1008 fz92 => ?_
 have o1006 := o1006.mono (fz92 1006 (by decide))
 refine Q1 _ (jf (e_ q91)) ?_
 refine PL.nil ?_
 have ho77 := pz ho77
 subst ho77
 exact ⟨((x64.set (x83 : Int).toNat true), x90), q65, q91, rfl, f2, f7, (e_ q91), f38, f39, f40, o1006, o1008⟩
 refine PC.condFb f48 hb86 ?_
 refine PC.skip ?_
 have ho77 := pz ho77
 subst ho77
 exact ⟨(x64, x66), q65, q67, rfl, f2, f7, f8, f38, f39, f40, o1006, o1008⟩
 intro F H hI
 obtain ⟨⟨x78, x80⟩, q79, q81, ho, f2, f7, f8, f38, f39, f40, o1006, o1008⟩ := hI
 have ho := ho.symm
 subst ho
 try dsimp only at hs71
 refine PC.region ?_
 refine Q1 _ (jh rfl f40 (e_ (I 1)) j3) ?_
 refine Q1 _ (jb (e_ (I (w64 (x63 + 1))))) ?_
 refine PL.nil ?_
 have hs71 := pz hs71
 subst hs71
 exact ⟨m72, Nat.lt_succ_self _, ((w64 (x63 + 1)), x78, x80), q79, q81, ho68, f2, f7, f8, f38, f39, (e_ (I (w64 (x63 + 1)))), o1006, o1008⟩
 refine PC.condFb f41 hb75 ?_
 refine PC.exit ?_
 have hs71 := pz hs71
 subst hs71
 try dsimp only at ho68
 subst ho68
 try dsimp only at hs45
 have hs45 := pz hs45
 subst hs45
 exact ⟨m46, Nat.lt_succ_self _, (x64, x66), q65, q67, ho42, f2, f7, f8, o1006, o1008⟩
 refine PC.condFb f30 hb49 ?_
 refine PC.exit ?_
 have hs45 := pz hs45
 subst hs45
 try dsimp only at ho42
 subst ho42
 try dsimp only at h0
 refine hK33 _ _ ?_
 refine A1 7 f7 fun F f7 => ?_
 refine SR fun K99 hK99 => ?_
 refine Q1 _ (jb f7) ?_
 refine Q1 _ (jf (e_ q39)) ?_
 refine PL.nil (hK99 _ _ ?_)
 refine A1 6 (e_ q39) fun F f6 => ?_
 refine PC.freezeL (rep := B) 6 f6 o1006 (fun _ => rfl) fun H fz100 => ?_
 refine PC.ret ?_
 have h0 := pz h0
 subst h0
 exact fin (.inr rfl) (j9 Try.results21 (e_ (slB x38))) (zcl _)
def Ve (a0 : jd) : G (List Bool) :=
  G.bind (Ji a0) fun x4 => G.cond (!x4) (G.pure []) (G.bind (V1 (a0.je.length : Int) ([0] : List Int) (fun y8 => Vi y8 a0)) fun x9 => G.pure x9)
theorem zae {nn : Nat} {a0 : jd} {r : (List Bool)} (h0 : Ve a0 nn = some r) : PCall Try.prog 11 [jc a0] (· = slB r) := by
 unfold Ve at h0
 refine PCall.intro' Try.func11 rfl Try.ntmps11 (by simp) fun W => ?_
 refine A1 0 (e_ (jc a0)) fun F f0 => ?_
 generalize PHeap.empty = H
 refine SR fun K1 hK1 => ?_
 refine Q3 (PV.rp (jc a0).cells) (zk f0 (qt _ _)) ?_
 refine Q3 (slB []) (J1 (k := 1)) ?_
 refine PL.nil (hK1 _ _ ?_)
 refine A1 1 (e_ (PV.rp (jc a0).cells)) fun F f1 => ?_
 refine PC.seq fun K2 hK2 => ?_
 refine SR fun K3 hK3 => ?_
 refine Q1 (jc a0) (vw v7 f1 (qe _)) ?_
 obtain ⟨x4, hx4, h0⟩ := bs h0
 refine Q3 (B x4) (j0 (by kernel_rfl) (am (e_ (jc a0)) (am0)) (js (qa _) (j2)) (Vw hx4)) ?_
 refine Q1 (B (!x4)) (yn (e_ (B x4))) ?_
 refine PL.nil (hK3 _ _ ?_)
 refine A2 1 f1 5 (e_ (B (!x4))) fun F f1 f5 => ?_
 rcases cz h0 with ⟨hb5, h0⟩ | ⟨hb5, h0⟩
 refine PC.condTb f5 hb5 ?_
 refine SR fun K6 hK6 => ?_
 refine Q3 (slB []) (J1 (k := 1)) ?_
 refine PL.nil (hK6 _ _ ?_)
 refine A1 2 (e_ (slB [])) fun F f2 => ?_
 refine PC.ret ?_
 have h0 := pz h0
 subst h0
 exact fin (.inr rfl) (j9 Try.results11 f2) (zcl _)
 refine PC.condFb f5 hb5 ?_
 refine PC.skip ?_
 refine hK2 _ _ ?_
 refine A1 1 f1 fun F f1 => ?_
 refine SR fun K7 hK7 => ?_
 refine Q1 (PV.rp ((jc a0).cells.drop 257)) (j8 vx qi (by decide) f1) ?_
 refine Q1 (qk a0.je) (jx qi (e_ (PV.rp ((jc a0).cells.drop 257))) (qm a0)) ?_
 refine Q1 (I (a0.je.length : Int)) (qg (rep := slI) (xs := a0.je) vp (e_ (qk a0.je))) ?_
 refine Q3 (slI ([0] : List Int)) (yx (rep := I) (xs := [0]) qj rfl (by decide) (bm (e_ (I 0)) (bm0)) rfl rfl) ?_
 refine Q1 (PV.fn (.func 22) [] [(PV.rp (jc a0).cells)]) (zmz (am0) (am f1 (am0))) ?_
 obtain ⟨x9, hx9, h0⟩ := bs h0
 refine Q3 (slB x9) (j0 (by kernel_rfl) (am (e_ (I (a0.je.length : Int))) (am (e_ (slI ([0] : List Int))) (am (e_ (PV.fn (.func 22) [] [(PV.rp (jc a0).cells)])) (am0)))) (js (.u _) (js (ye _) (js (.fn _ _ _ (j2) (js (.rp _ (Vr (qa _))) (j2))) (j2)))) (za1 (j2) (js (.rp _ (Vr (qa _))) (j2)) (by kernel_rfl) (fun h => zda h) hx9)) ?_
 refine Q1 _ (jf (e_ (slB x9))) ?_
 refine PL.nil (hK7 _ _ ?_)
 refine A1 2 (e_ (slB x9)) fun F f2 => ?_
 refine PC.ret ?_
 have h0 := pz h0
 subst h0
 exact fin (.inr rfl) (j9 Try.results11 f2) (zcl _)
def Y1 (a0 : Int) (c0 : (List (List Int))) : G (List Int) :=
  G.bind (G.lift (idx c0 a0)) fun x3 => G.pure x3
theorem zed {nn : Nat} {a0 : Int} {c0 : (List (List Int))} {r : (List Int)} (h0 : Y1 a0 c0 nn = some r) : PCall Try.prog 24 [I a0, PV.rp (qk c0).cells] (· = slI r) := by
 unfold Y1 at h0
 refine PCall.intro' Try.func24 rfl Try.ntmps24 (by simp) fun W => ?_
 refine A2 0 (e_ (I a0)) 1 (e_ (PV.rp (qk c0).cells)) fun F f0 f1 => ?_
 generalize PHeap.empty = H
 refine SR fun K1 hK1 => ?_
 refine Q3 (slI []) (J1 (k := 1)) ?_
 refine PL.nil (hK1 _ _ ?_)
 refine A2 0 f0 1 f1 fun F f0 f1 => ?_
 refine SR fun K2 hK2 => ?_
 refine Q1 (qk c0) (qr qi f1) ?_
 refine Q1 _ (jb f0) ?_
 obtain ⟨x3, hx3, h0⟩ := bs h0
 refine Q1 (PV.rp (slI x3).cells) (j1 (rep := slI) (xs := c0) Jz (e_ (qk c0)) (e_ (I a0)) hx3) ?_
 refine Q1 (slI x3) (qr qh (e_ (PV.rp (slI x3).cells))) ?_
 refine Q1 _ (jf (e_ (slI x3))) ?_
 refine PL.nil (hK2 _ _ ?_)
 refine A1 3 (e_ (slI x3)) fun F f3 => ?_
 refine PC.ret ?_
 have h0 := pz h0
 subst h0
 exact fin (.inr rfl) (j9 Try.results24 f3) (ye _)
def zap (a0 : jd) : G (List Bool) :=
  G.bind (Ji a0) fun x4 => G.cond (!x4) (G.pure []) (G.bind (G.lift (mkS 24 ([] : (List Int)) (a0.je.length : Int))) fun x8 => G.bind (G.loop (σ := (Int × (List Int) × (List (List Int)))) (α := ((List Int) × (List (List Int)))) (fun (x22, x23, x25) => G.cond (decide (x22 < (a0.jl.length : Int))) (G.bind (α := ((List Int) × (List (List Int)))) (G.bind (G.lift (idx a0.jl x22)) fun x42 => G.bind (zab a0 x22) fun x45 => G.bind (G.loop (σ := (Int × (List (List Int)))) (α := (List (List Int))) (fun (x51, x52) => G.cond (decide (x51 < (x45.length : Int))) (G.bind (G.lift (idx x45 x51)) fun x64 => G.bind (G.lift (idx x52 x64)) fun x65 => G.bind (G.lift (app 8 x65 ([x22] : List Int))) fun x67 => G.bind (G.lift (idx x52 x64)) fun x70 => G.pure (.inl ((w64 (x51 + 1)), (x52.set (x64 : Int).toNat x67)))) (G.pure (.inr x52))) (0, x25)) fun x77 => G.cond (decide (0 ≤ x42)) (G.bind (G.lift (app 8 x23 ([x22] : List Int))) fun x81 => G.pure (x81, x77)) (G.pure (x23, x77))) fun (x37, x39) => G.pure (.inl ((w64 (x22 + 1)), x37, x39))) (G.pure (.inr (x23, x25)))) (0, [], x8)) fun (x91, x93) => G.bind (V1 (a0.je.length : Int) x91 (fun y98 => Y1 y98 x93)) fun x99 => G.pure x99)
theorem zhg {nn : Nat} {a0 : jd} {r : (List Bool)} (h0 : zap a0 nn = some r) : PCall Try.prog 12 [jc a0] (· = slB r) := by
 unfold zap at h0
 refine PCall.intro' Try.func12 rfl Try.ntmps12 (by simp) fun W => ?_
 refine A1 0 (e_ (jc a0)) fun F f0 => ?_
 generalize PHeap.empty = H
 refine SR fun K1 hK1 => ?_
 refine Q3 (PV.rp (jc a0).cells) (zk f0 (qt _ _)) ?_
 refine Q3 (slB []) (J1 (k := 1)) ?_
 refine PL.nil (hK1 _ _ ?_)
 refine A1 1 (e_ (PV.rp (jc a0).cells)) fun F f1 => ?_
 refine PC.seq fun K2 hK2 => ?_
 refine SR fun K3 hK3 => ?_
 refine Q1 (jc a0) (vw v7 f1 (qe _)) ?_
 obtain ⟨x4, hx4, h0⟩ := bs h0
 refine Q3 (B x4) (j0 (by kernel_rfl) (am (e_ (jc a0)) (am0)) (js (qa _) (j2)) (Vw hx4)) ?_
 refine Q1 (B (!x4)) (yn (e_ (B x4))) ?_
 refine PL.nil (hK3 _ _ ?_)
 refine A2 1 f1 11 (e_ (B (!x4))) fun F f1 f11 => ?_
 rcases cz h0 with ⟨hb5, h0⟩ | ⟨hb5, h0⟩
 refine PC.condTb f11 hb5 ?_
 refine SR fun K6 hK6 => ?_
 refine Q3 (slB []) (J1 (k := 1)) ?_
 refine PL.nil (hK6 _ _ ?_)
 refine A1 2 (e_ (slB [])) fun F f2 => ?_
 refine PC.ret ?_
 have h0 := pz h0
 subst h0
 exact fin (.inr rfl) (j9 Try.results12 f2) (zcl _)
 refine PC.condFb f11 hb5 ?_
 refine PC.skip ?_
 refine hK2 _ _ ?_
 refine A1 1 f1 fun F f1 => ?_
 refine SR fun K7 hK7 => ?_
 refine Q1 (PV.rp ((jc a0).cells.drop 257)) (j8 vx qi (by decide) f1) ?_
 refine Q1 (qk a0.je) (jx qi (e_ (PV.rp ((jc a0).cells.drop 257))) (qm a0)) ?_
 refine Q1 (I (a0.je.length : Int)) (qg (rep := slI) (xs := a0.je) vp (e_ (qk a0.je))) ?_
 obtain ⟨x8, hx8, h0⟩ := bs h0
 refine PL.mkLL (e := 3) (rep := I) 1015 100000 (by decide) rfl rfl rfl (by decide) Qh (e_ (I (a0.je.length : Int))) hx8 fun q9 H o1015 fz10 => ?_
 refine PL.allocA 203 (cs := [(PV.u (.slice none 0 0))]) rfl rfl rfl (by decide) znd (by kernel_rfl) (by kernel_rfl) fun v203 H b203 fz11 => ?_
 have o1015 := o1015.mono (fz11 1015 (by decide)) (fun j hj => fz11 j (by omega))
 refine PL.recell (cs' := [(qk [])]) b203 (WeakL.cons (Weak.nil _) WeakL.nil) fun H b203 fz12 => ?_
 have o1015 := o1015.mono (fz12 1015 (by decide)) (fun j hj => fz12 j (by omega))
 refine PL.storeA (ag := false) (cs' := [q9]) (ps := [q9]) rfl rfl (fun _ h => by cases h) (e_ (PV.pp 203 0 v203)) b203 qi (e_ q9) (ll_ok o1015) (zm7 o1015) rfl (by decide) rfl fun H b203 fz13 => ?_
 have o1015 := o1015.mono (fz13 1015 (by decide)) (fun j hj => fz13 j (by omega))
 refine PL.nil (hK7 _ _ ?_)
 refine A2 1 f1 3 (e_ (PV.pp 203 0 v203)) fun F f1 f3 => ?_
 refine SR fun K14 hK14 => ?_
 refine Q1 (PV.u (.slice none 0 0)) (jf rfl) ?_
 have o1004 : ownL 3 1 I H 1004 (PV.u (.slice none 0 0)) [] := ownL.nil _ _
 refine PL.nil (hK14 _ _ ?_)
 refine A3 1 f1 3 f3 4 (e_ (PV.u (.slice none 0 0))) fun F f1 f3 f4 => ?_
 refine PC.seq fun K15 hK15 => ?_
 refine SR fun K16 hK16 => ?_
 refine Q1 (PV.rp ((jc a0).cells.drop 258)) (j8 ze qh (by decide) f1) ?_
 refine Q1 (slI a0.jl) (jx qh (e_ (PV.rp ((jc a0).cells.drop 258))) (yg a0)) ?_
 refine Q1 (I (a0.jl.length : Int)) (qg (rep := I) (xs := a0.jl) ql (e_ (slI a0.jl))) ?_
 refine Q1 _ (jb (e_ (I 0))) ?_
 refine PL.nil (hK16 _ _ ?_)
 refine A6 1 f1 3 f3 4 f4 17 (e_ (slI a0.jl)) 18 (e_ (I (a0.jl.length : Int))) 19 (e_ (I 0)) fun F f1 f3 f4 f17 f18 f19 => ?_
 refine PC.block ?_
 obtain ⟨o27, ho27, h0⟩ := bs h0
 obtain ⟨B28, hB28, ho27⟩ := G.loop_some ho27
 refine PC.loop (fun m31 F H => ∃ s100 : (Int × (List Int) × (List (List Int))), ∃ q24, ∃ q26, qw B28 m31 s100 = some o27 ∧ F 1 = (PV.rp (jc a0).cells) ∧ F 3 = (PV.pp 203 0 v203) ∧ F 4 = q24 ∧ F 17 = (slI a0.jl) ∧ F 18 = (I (a0.jl.length : Int)) ∧ F 19 = (I s100.1) ∧ H 203 = ⟨v203, some (.box 23 [q26])⟩ ∧ ownL 3 1 I H 1004 q24 s100.2.1 ∧ ownLL 24 3 100000 I H 1015 q26 s100.2.2) (m := nn) ⟨(0, [], x8), (PV.u (.slice none 0 0)), q9, ho27, f1, f3, f4, f17, f18, f19, b203, o1004, o1015⟩ fun m31 F H hI => ?_
 obtain ⟨⟨x22, x23, x25⟩, q24, q26, ho27, f1, f3, f4, f17, f18, f19, b203, o1004, o1015⟩ := hI
 obtain ⟨m31, rfl, st29, hs30, ho27⟩ := jw ho27
 rw [hB28] at hs30
 try dsimp only at hs30
 refine SR fun K32 hK32 => ?_
 refine Q1 (B (decide (x22 < (a0.jl.length : Int)))) (jh rfl f19 f18 jv) ?_
 refine PL.nil (hK32 _ _ ?_)
 refine A7 1 f1 3 f3 4 f4 17 f17 18 f18 19 f19 20 (e_ (B (decide (x22 < (a0.jl.length : Int))))) fun F f1 f3 f4 f17 f18 f19 f20 => ?_
 refine PC.seq fun K33 hK33 => ?_
 rcases cz hs30 with ⟨hb34, hs30⟩ | ⟨hb34, hs30⟩
 refine PC.condTb f20 hb34 ?_
 refine PC.skip ?_
 refine hK33 _ _ ?_
 refine A6 1 f1 3 f3 4 f4 17 f17 18 f18 19 f19 fun F f1 f3 f4 f17 f18 f19 => ?_
 obtain ⟨o36, ho36, hs30⟩ := bs hs30
 refine PC.seqM (fun F H => ∃ s85 : ((List Int) × (List (List Int))), ∃ q38, ∃ q40, o36 = s85 ∧ F 1 = (PV.rp (jc a0).cells) ∧ F 3 = (PV.pp 203 0 v203) ∧ F 4 = q38 ∧ F 17 = (slI a0.jl) ∧ F 18 = (I (a0.jl.length : Int)) ∧ F 19 = (I x22) ∧ H 203 = ⟨v203, some (.box 23 [q40])⟩ ∧ ownL 3 1 I H 1004 q38 s85.1 ∧ ownLL 24 3 100000 I H 1015 q40 s85.2) ?_ ?_
 refine PC.block ?_
 refine SR fun K41 hK41 => ?_
 refine Q1 _ (jb f19) ?_
 obtain ⟨x42, hx42, ho36⟩ := bs ho36
 refine Q1 (PV.rp (I x42).cells) (j1 (rep := I) (xs := a0.jl) vk f17 f19 hx42) ?_
 refine Q1 (I x42) (qr qz (e_ (PV.rp (I x42).cells))) ?_
 refine Q1 _ (jf (e_ (I x22))) ?_
 refine Q1 _ (jf (e_ (I x42))) ?_
 refine PL.nil (hK41 _ _ ?_)
 refine A8 1 f1 3 f3 4 f4 5 (e_ (I x22)) 6 (e_ (I x42)) 17 f17 18 f18 19 f19 fun F f1 f3 f4 f5 f6 f17 f18 f19 => ?_
 refine PC.seq fun K43 hK43 => ?_
 refine SR fun K44 hK44 => ?_
 refine Q1 (jc a0) (vw v7 f1 (qe _)) ?_
 refine Q1 _ (jb f5) ?_
 obtain ⟨x45, hx45, ho36⟩ := bs ho36
 refine Q3 (slI x45) (j0 (by kernel_rfl) (am (e_ (jc a0)) (am (e_ (I x22)) (am0))) (js (qa _) (js (.u _) (j2))) (ze1 hx45)) ?_
 refine Q1 (I (x45.length : Int)) (qg (rep := I) (xs := x45) ql (e_ (slI x45))) ?_
 refine Q1 _ (jb (e_ (I 0))) ?_
 refine PL.nil (hK44 _ _ ?_)
 refine A11 1 f1 3 f3 4 f4 5 f5 6 f6 17 f17 18 f18 19 f19 26 (e_ (slI x45)) 27 (e_ (I (x45.length : Int))) 28 (e_ (I 0)) fun F f1 f3 f4 f5 f6 f17 f18 f19 f26 f27 f28 => ?_
 refine PC.block ?_
 obtain ⟨o54, ho54, ho36⟩ := bs ho36
 obtain ⟨B55, hB55, ho54⟩ := G.loop_some ho54
 refine PC.loop (fun m58 F H => ∃ s84 : (Int × (List (List Int))), ∃ q53, qw B55 m58 s84 = some o54 ∧ F 1 = (PV.rp (jc a0).cells) ∧ F 3 = (PV.pp 203 0 v203) ∧ F 4 = q24 ∧ F 5 = (I x22) ∧ F 6 = (I x42) ∧ F 17 = (slI a0.jl) ∧ F 18 = (I (a0.jl.length : Int)) ∧ F 19 = (I x22) ∧ F 26 = (slI x45) ∧ F 27 = (I (x45.length : Int)) ∧ F 28 = (I s84.1) ∧ H 203 = ⟨v203, some (.box 23 [q53])⟩ ∧ ownL 3 1 I H 1004 q24 x23 ∧ ownLL 24 3 100000 I H 1015 q53 s84.2) (m := nn) ⟨(0, x25), q26, ho54, f1, f3, f4, f5, f6, f17, f18, f19, f26, f27, f28, b203, o1004, o1015⟩ fun m58 F H hI => ?_
 obtain ⟨⟨x51, x52⟩, q53, ho54, f1, f3, f4, f5, f6, f17, f18, f19, f26, f27, f28, b203, o1004, o1015⟩ := hI
 obtain ⟨m58, rfl, st56, hs57, ho54⟩ := jw ho54
 rw [hB55] at hs57
 try dsimp only at hs57
 refine SR fun K59 hK59 => ?_
 refine Q1 (B (decide (x51 < (x45.length : Int)))) (jh rfl f28 f27 jv) ?_
 refine PL.nil (hK59 _ _ ?_)
 refine A12 1 f1 3 f3 4 f4 5 f5 6 f6 17 f17 18 f18 19 f19 26 f26 27 f27 28 f28 29 (e_ (B (decide (x51 < (x45.length : Int))))) fun F f1 f3 f4 f5 f6 f17 f18 f19 f26 f27 f28 f29 => ?_
 refine PC.seq fun K60 hK60 => ?_
 rcases cz hs57 with ⟨hb61, hs57⟩ | ⟨hb61, hs57⟩
 refine PC.condTb f29 hb61 ?_
 refine PC.skip ?_
 refine hK60 _ _ ?_
 refine A11 1 f1 3 f3 4 f4 5 f5 6 f6 17 f17 18 f18 19 f19 26 f26 27 f27 28 f28 fun F f1 f3 f4 f5 f6 f17 f18 f19 f26 f27 f28 => ?_
 refine PC.seq fun K62 hK62 => ?_
 refine PC.block ?_
 refine SR fun K63 hK63 => ?_
 obtain ⟨x64, hx64, hs57⟩ := bs hs57
 refine Q1 (PV.rp (I x64).cells) (j1 (rep := I) (xs := x45) vk f26 f28 hx64) ?_
 refine Q1 (I x64) (qr qz (e_ (PV.rp (I x64).cells))) ?_
 refine Q1 _ (jf (e_ (I x64))) ?_
 refine PL.nil (hK63 _ _ ?_)
 refine A12 1 f1 3 f3 4 f4 5 f5 6 f6 8 (e_ (I x64)) 17 f17 18 f18 19 f19 26 f26 27 f27 28 f28 fun F f1 f3 f4 f5 f6 f8 f17 f18 f19 f26 f27 f28 => ?_
 obtain ⟨x65, hx65, hs57⟩ := bs hs57
 obtain ⟨x67, hx67, hs57⟩ := bs hs57
 refine PC.regionH (fun H' => ∀ j, j < 100000 → H' j = H j) (fun pq H' => ownL 3 1 I H' (100000 + (x64 : Int).toNat) pq x67 ∧ ∀ j, j ≠ (100000 + (x64 : Int).toNat) → H' j = H j) 9 8 [0, 1, 2, 3, 4, 5, 6, 7] [9, 10] mixed (by kernel_rfl) rfl rfl (by decide) rfl (fun _ _ => rfl) (fun p H' h j hj => h.2 j (by omega)) ?_
 refine JF.q (p := q53) rfl (j4 (by decide)) (fun hJ => vm qi f3 ((hJ 203 (by decide)).trans b203) rfl) ?_
 refine JF.q (p := (I x64)) rfl (j4 (by decide)) (fun hJ => jb f8) ?_
 refine JF.q (p := q53) rfl (j4 (by decide)) (fun hJ => vm qi f3 ((hJ 203 (by decide)).trans b203) rfl) ?_
 refine JF.q (p := (I x64)) rfl (j4 (by decide)) (fun hJ => jb f8) ?_
 refine JF.q (p := (PV.pp 1015 ((x64 : Int).toNat * 1) (yh q53))) rfl (j4 (by decide)) (fun hJ => zlo Jz o1015 (hJ 1015 (by decide)) (e_ q53) (e_ (I x64)) hx65) ?_
 refine JF.ex rfl (j4 (by decide)) (ll_ldJ qh o1015 (fun H' hJ => hJ 1015 (by decide)) (e_ (PV.pp 1015 ((x64 : Int).toNat * 1) (yh q53))) hx65) fun p66 cp66 => ?_
 refine JF.q (p := (I x22)) rfl (j4 (by decide)) (fun hJ => jb f5) ?_
 refine JF.qq (p := (slI ([x22] : List Int))) rfl (j4 (by decide)) (fun hJ => yx (rep := I) (xs := [x22]) qj rfl (by decide) (bm (e_ (I x22)) (bm0)) rfl rfl) ?_
 refine JF.nil ⟨fun F2 hF2 => PE.appI (rep := I) (ys := ([x22] : List Int)) (id := (100000 + (x64 : Int).toNat)) rfl rfl (by decide) qj ((hF2 37 (by simp [Op.operands, Call.operands])).trans (e_ p66)) (cp66.inner hx65) ((hF2 39 (by simp [Op.operands, Call.operands])).trans (e_ (slI ([x22] : List Int)))) (fun _ => rfl) (fun _ => rfl) hx67, fun q68 H ⟨oiq68, fz69⟩ => ?_⟩
 obtain ⟨x70, hx70, hs57⟩ := bs hs57
 refine Q1 (PV.pp 1015 ((x64 : Int).toNat * 1) (yh q53)) (zlo Jz o1015 (fz69 1015 (by omega)) (e_ q53) (e_ (I x64)) hx70) ?_
 refine PL.stLL (by decide) rfl rfl rfl qh cp66 fz69 oiq68 hx65 (e_ q68) (e_ (PV.pp 1015 ((x64 : Int).toNat * 1) (yh q53))) fun H o1015 fz71 => ?_
 have b203 := (fz71 203 (by decide) (by decide)).trans b203
 have o1004 := o1004.mono (fz71 1004 (by decide) (by decide))
 refine PL.nil (hK62 _ _ ?_)
 refine A11 1 f1 3 f3 4 f4 5 f5 6 f6 17 f17 18 f18 19 f19 26 f26 27 f27 28 f28 fun F f1 f3 f4 f5 f6 f17 f18 f19 f26 f27 f28 => ?_
 refine PC.region ?_
 refine Q1 _ (jh rfl f28 (e_ (I 1)) j3) ?_
 refine Q1 _ (jb (e_ (I (w64 (x51 + 1))))) ?_
 refine PL.nil ?_
 have hs57 := pz hs57
 subst hs57
 exact ⟨m58, Nat.lt_succ_self _, ((w64 (x51 + 1)), (x52.set (x64 : Int).toNat x67)), q53, ho54, f1, f3, f4, f5, f6, f17, f18, f19, f26, f27, (e_ (I (w64 (x51 + 1)))), b203, o1004, o1015⟩
 refine PC.condFb f29 hb61 ?_
 refine PC.exit ?_
 have hs57 := pz hs57
 subst hs57
 try dsimp only at ho54
 subst ho54
 try dsimp only at ho36
 refine hK43 _ _ ?_
 refine A8 1 f1 3 f3 4 f4 5 f5 6 f6 17 f17 18 f18 19 f19 fun F f1 f3 f4 f5 f6 f17 f18 f19 => ?_
 refine SR fun K72 hK72 => ?_
 refine Q1 _ (jb f6) ?_
 refine Q1 _ (jh rfl (e_ (I x42)) (e_ (I 0)) vr) ?_
 refine PL.nil (hK72 _ _ ?_)
 refine A8 1 f1 3 f3 4 f4 5 f5 17 f17 18 f18 19 f19 44 (e_ (B (decide (0 ≤ x42)))) fun F f1 f3 f4 f5 f17 f18 f19 f44 => ?_
 rcases cz ho36 with ⟨hb73, ho36⟩ | ⟨hb73, ho36⟩
 refine PC.condTb f44 hb73 ?_
 refine PC.region ?_
 refine Q1 _ (jb f4) ?_
 refine Q1 _ (jb f5) ?_
 refine Q3 (slI ([x22] : List Int)) (yx (rep := I) (xs := [x22]) qj rfl (by decide) (bm (e_ (I x22)) (bm0)) rfl rfl) ?_
 obtain ⟨x74, hx74, ho36⟩ := bs ho36
 refine PL.appG (rep := I) (ys := ([x22] : List Int)) rfl rfl rfl (by decide) qj (e_ q24) o1004 (e_ (slI ([x22] : List Int))) (fun _ => rfl) (lf1 (fun _ => rfl) (fun _ => rfl)) hx74 fun q75 H o1004 fz76 => ?_
 have o1015 := o1015.mono (fz76 1015 (by decide)) (fun j hj => fz76 j (by omega))
 have b203 := (fz76 203 (by decide)).trans b203
 refine Q1 _ (jf (e_ q75)) ?_
 refine PL.nil ?_
 have ho36 := pz ho36
 subst ho36
 exact ⟨(x74, x52), q75, q53, rfl, f1, f3, (e_ q75), f17, f18, f19, b203, o1004, o1015⟩
 refine PC.condFb f44 hb73 ?_
 refine PC.skip ?_
 have ho36 := pz ho36
 subst ho36
 exact ⟨(x23, x52), q24, q53, rfl, f1, f3, f4, f17, f18, f19, b203, o1004, o1015⟩
 intro F H hI
 obtain ⟨⟨x37, x39⟩, q38, q40, ho, f1, f3, f4, f17, f18, f19, b203, o1004, o1015⟩ := hI
 have ho := ho.symm
 subst ho
 try dsimp only at hs30
 refine PC.region ?_
 refine Q1 _ (jh rfl f19 (e_ (I 1)) j3) ?_
 refine Q1 _ (jb (e_ (I (w64 (x22 + 1))))) ?_
 refine PL.nil ?_
 have hs30 := pz hs30
 subst hs30
 exact ⟨m31, Nat.lt_succ_self _, ((w64 (x22 + 1)), x37, x39), q38, q40, ho27, f1, f3, f4, f17, f18, (e_ (I (w64 (x22 + 1)))), b203, o1004, o1015⟩
 refine PC.condFb f20 hb34 ?_
 refine PC.exit ?_
 have hs30 := pz hs30
 subst hs30
 try dsimp only at ho27
 subst ho27
 try dsimp only at h0
 refine hK15 _ _ ?_
 refine A3 1 f1 3 f3 4 f4 fun F f1 f3 f4 => ?_
 refine PC.seq fun K86 hK86 => ?_
 refine PC.freezeL (rep := I) 4 f4 o1004 (fun _ => rfl) fun H fz87 => ?_
 have o1015 := o1015.mono (fz87 1015 (by decide)) (fun j hj => fz87 j (by omega))
 have b203 := (fz87 203 (by decide)).trans b203
 refine PC.freezeD (fun i => i == 203 || i == 1015 || decide (100000 ≤ i)) 3 f3 (zlc b203 o1015 (fun _ => rfl) (fun _ => (.u _)) rfl rfl (fun j hj => by simp [hj])) (.rp _ (Vr (p := qk x25) (zb3 _))) fun H fz88 => ?_
 refine PC.region ?_
 refine Q1 (PV.rp ((jc a0).cells.drop 257)) (j8 vx qi (by decide) f1) ?_
 refine Q1 (qk a0.je) (jx qi (e_ (PV.rp ((jc a0).cells.drop 257))) (qm a0)) ?_
 refine Q1 (I (a0.je.length : Int)) (qg (rep := slI) (xs := a0.je) vp (e_ (qk a0.je))) ?_
 refine Q1 _ (jb (e_ (slI x23))) ?_
 refine Q1 (PV.fn (.func 24) [] [(PV.rp (qk x25).cells)]) (zmz (am0) (am (e_ (PV.rp (qk x25).cells)) (am0))) ?_
 obtain ⟨x90, hx90, h0⟩ := bs h0
 refine Q3 (slB x90) (j0 (by kernel_rfl) (am (e_ (I (a0.je.length : Int))) (am (e_ (slI x23)) (am (e_ (PV.fn (.func 24) [] [(PV.rp (qk x25).cells)])) (am0)))) (js (.u _) (js (ye _) (js (.fn _ _ _ (j2) (js (.rp _ (Vr (zb3 _))) (j2))) (j2)))) (za1 (j2) (js (.rp _ (Vr (zb3 _))) (j2)) (by kernel_rfl) (fun h => zed h) hx90)) ?_
 refine Q1 _ (jf (e_ (slB x90))) ?_
 refine PL.nil (hK86 _ _ ?_)
 refine A1 2 (e_ (slB x90)) fun F f2 => ?_
 refine PC.ret ?_
 have h0 := pz h0
 subst h0
 exact fin (.inr rfl) (j9 Try.results12 f2) (zcl _)
def zcc (a0 : jd) : G jd :=
  G.bind (Ji a0) fun x6 => G.cond (!x6) (G.pure (⟨((⟨(arZ 256 0), 0, [], []⟩ : jd).jp), ((⟨(arZ 256 0), 0, [], []⟩ : jd).ji), ((⟨(arZ 256 0), 0, [], []⟩ : jd).je), ((⟨(arZ 256 0), 0, [], []⟩ : jd).jl)⟩ : jd)) (G.bind (Ve a0) fun x11 => G.bind (zap a0) fun x12 => G.bind (G.lift (mkS 8 (0 : Int) (a0.je.length : Int))) fun x14 => G.bind (G.loop (σ := (Int × (List Int) × (List Int))) (α := ((List Int) × (List Int))) (fun (x29, x30, x32) => G.cond (decide (x29 < (x14.length : Int))) (G.bind (α := ((List Int) × (List Int))) (G.bind (G.lift (idx x30 x29)) fun x50 => G.bind (G.cond (!(decide (x29 = 0))) (G.lift (idx x11 x29)) (G.pure false)) fun x53 => G.bind (G.cond ((!(decide (x29 = 0))) && x53) (G.lift (idx x12 x29)) (G.pure false)) fun x54 => G.cond ((decide (x29 = 0)) || (x53 && x54)) (G.bind (G.lift (idx (x30.set (x29 : Int).toNat (-1)) x29)) fun x57 => G.bind (G.lift (app 8 x32 ([x29] : List Int))) fun x59 => G.pure (((x30.set (x29 : Int).toNat (-1)).set (x29 : Int).toNat (x32.length : Int)), x59)) (G.pure ((x30.set (x29 : Int).toNat (-1)), x32))) fun (x44, x46) => G.pure (.inl ((w64 (x29 + 1)), x44, x46))) (G.pure (.inr (x30, x32)))) (0, x14, [])) fun (x187, x189) => G.bind (G.loop (σ := (Int × (List (List Int)) × (List Int))) (α := ((List (List Int)) × (List Int))) (fun (x211, x212, x214) => G.cond (decide (x211 < (x189.length : Int))) (G.bind (G.lift (idx x189 x211)) fun x226 => G.bind (G.lift (mkS 8 (0 : Int) a0.ji)) fun x228 => G.bind (G.lift (idx a0.je x226)) fun x232 => G.bind (G.lift (cpy x228 x232)) fun x233 => G.bind (G.loop (σ := (Int × (List Int))) (α := (List Int)) (fun (x254, x255) => G.cond (decide (x254 < (x233.2.length : Int))) (G.bind (α := (List Int)) (G.bind (G.lift (idx x255 x254)) fun x270 => G.cond (decide (0 ≤ x270)) (G.bind (G.lift (idx x187 x270)) fun x273 => G.bind (G.lift (idx x255 x254)) fun x274 => G.pure (x255.set (x254 : Int).toNat x273)) (G.pure x255)) fun x267 => G.pure (.inl ((w64 (x254 + 1)), x267))) (G.pure (.inr x255))) (0, x233.2)) fun x288 => G.bind (G.lift (app 24 x212 ([x288] : List (List Int)))) fun x292 => G.bind (G.lift (idx a0.jl x226)) fun x296 => G.bind (G.lift (app 8 x214 ([x296] : List Int))) fun x297 => G.pure (.inl ((w64 (x211 + 1)), x292, x297))) (G.pure (.inr (x212, x214)))) (0, [], [])) fun (x306, x308) => G.pure (⟨((⟨a0.jp, a0.ji, x306, x308⟩ : jd).jp), ((⟨a0.jp, a0.ji, x306, x308⟩ : jd).ji), ((⟨a0.jp, a0.ji, x306, x308⟩ : jd).je), ((⟨a0.jp, a0.ji, x306, x308⟩ : jd).jl)⟩ : jd))
theorem zhl {nn : Nat} {a0 : jd} {r : jd} (h0 : zcc a0 nn = some r) : PCall Try.prog 7 [jc a0] (· = jc r) := by
 unfold zcc at h0
 refine PCall.intro' Try.func7 rfl Try.ntmps7 (by simp) fun W => ?_
 refine A1 0 (e_ (jc a0)) fun F f0 => ?_
 generalize PHeap.empty = H
 refine SR fun K1 hK1 => ?_
 refine Q3 (PV.rp (jc a0).cells) (zk f0 (qt _ _)) ?_
 refine PL.allocA 202 (cs := (((arV (n := 256) U8) (arZ 256 0)).cells ++ [(I 0), (PV.u (.slice none 0 0)), (PV.u (.slice none 0 0))])) rfl rfl rfl (by decide) Y8 (by kernel_rfl) (by kernel_rfl) fun v202 H b202 fz2 => ?_
 refine PL.recell (cs' := (((arV (n := 256) U8) (arZ 256 0)).cells ++ [(I 0), (qk []), (slI [])])) b202 (WeakL.app (WeakL.refl _) (WeakL.cons (Weak.refl _) (WeakL.cons (Weak.nil _) (WeakL.cons (Weak.nil _) (WeakL.nil))))) fun H b202 fz3 => ?_
 refine PL.nil (hK1 _ _ ?_)
 refine A2 1 (e_ (PV.rp (jc a0).cells)) 2 (e_ (PV.pp 202 0 v202)) fun F f1 f2 => ?_
 refine PC.seq fun K4 hK4 => ?_
 refine SR fun K5 hK5 => ?_
 refine Q1 (jc a0) (vw v7 f1 (qe _)) ?_
 obtain ⟨x6, hx6, h0⟩ := bs h0
 refine Q3 (B x6) (j0 (by kernel_rfl) (am (e_ (jc a0)) (am0)) (js (qa _) (j2)) (Vw hx6)) ?_
 refine Q1 (B (!x6)) (yn (e_ (B x6))) ?_
 refine PL.nil (hK5 _ _ ?_)
 refine A3 1 f1 2 f2 16 (e_ (B (!x6))) fun F f1 f2 f16 => ?_
 rcases cz h0 with ⟨hb7, h0⟩ | ⟨hb7, h0⟩
 refine PC.condTb f16 hb7 ?_
 refine SR fun K8 hK8 => ?_
 refine Q3 (jc (⟨(arZ 256 0), 0, [], []⟩ : jd)) (zlv (p := (PV.agg (((arV (n := 256) U8) (arZ 256 0)).cells ++ [(I 0), (PV.u (.slice none 0 0)), (PV.u (.slice none 0 0))]))) (bm0) (by kernel_rfl) (Weak.agg (WeakL.app (WeakL.refl _) (WeakL.cons (Weak.refl _) (WeakL.cons (Weak.nil _) (WeakL.cons (Weak.nil _) (WeakL.nil))))))) ?_
 refine PL.storeA (ag := true) (cs' := (((arV (n := 256) U8) ((⟨(arZ 256 0), 0, [], []⟩ : jd).jp)).cells ++ [(I ((⟨(arZ 256 0), 0, [], []⟩ : jd).ji)), (qk ((⟨(arZ 256 0), 0, [], []⟩ : jd).je)), (slI ((⟨(arZ 256 0), 0, [], []⟩ : jd).jl))])) (ps := (((arV (n := 256) U8) ((⟨(arZ 256 0), 0, [], []⟩ : jd).jp)).cells ++ [(I ((⟨(arZ 256 0), 0, [], []⟩ : jd).ji)), (qk ((⟨(arZ 256 0), 0, [], []⟩ : jd).je)), (slI ((⟨(arZ 256 0), 0, [], []⟩ : jd).jl))])) rfl rfl (fun _ h => by cases h) f2 b202 v7 (e_ (jc (⟨(arZ 256 0), 0, [], []⟩ : jd))) (qt _ _) rfl (qb (jj _ _ (fun _ => rfl)) rfl) (by rw [(qb (jj _ _ (fun _ => rfl)) rfl)]; exact Nat.le_of_ble_eq_true rfl) (vz (N := 256 + (3)) (qb (jj _ _ (fun _ => rfl)) rfl) (qb (jj _ _ (fun _ => rfl)) rfl)) fun H b202 fz9 => ?_
 refine PL.nil (hK8 _ _ ?_)
 refine A1 2 f2 fun F f2 => ?_
 refine PC.ret ?_
 have h0 := pz h0
 subst h0
 exact fin (p0 := (jc (⟨((⟨(arZ 256 0), 0, [], []⟩ : jd).jp), ((⟨(arZ 256 0), 0, [], []⟩ : jd).ji), ((⟨(arZ 256 0), 0, [], []⟩ : jd).je), ((⟨(arZ 256 0), 0, [], []⟩ : jd).jl)⟩ : jd))) (.inr rfl) (Zu Try.results7 (zf v7 f2 b202 (yo (qe (⟨((⟨(arZ 256 0), 0, [], []⟩ : jd).jp), ((⟨(arZ 256 0), 0, [], []⟩ : jd).ji), ((⟨(arZ 256 0), 0, [], []⟩ : jd).je), ((⟨(arZ 256 0), 0, [], []⟩ : jd).jl)⟩ : jd))))) (qa _)
 refine PC.condFb f16 hb7 ?_
 refine PC.skip ?_
 refine hK4 _ _ ?_
 refine A2 1 f1 2 f2 fun F f1 f2 => ?_
 refine PC.seq fun K10 hK10 => ?_
 refine PC.regionQ mixed (by kernel_rfl) ?_
 refine Q2 (jc a0) (vw v7 f1 (qe _)) ?_
 obtain ⟨x11, hx11, h0⟩ := bs h0
 refine Q4 (slB x11) (j0 (by kernel_rfl) (am (e_ (jc a0)) (am0)) (js (qa _) (j2)) (zae hx11)) ?_
 refine Q2 (jc a0) (vw v7 f1 (qe _)) ?_
 obtain ⟨x12, hx12, h0⟩ := bs h0
 refine Q4 (slB x12) (j0 (by kernel_rfl) (am (e_ (jc a0)) (am0)) (js (qa _) (j2)) (zhg hx12)) ?_
 refine Q2 _ (jf (e_ (slB x11))) ?_
 refine Q2 _ (jf (e_ (slB x12))) ?_
 refine QF.nil ?_
 refine hK10 _ _ ?_
 refine A4 1 f1 2 f2 3 (e_ (slB x11)) 4 (e_ (slB x12)) fun F f1 f2 f3 f4 => ?_
 refine SR fun K13 hK13 => ?_
 refine Q1 (PV.rp ((jc a0).cells.drop 257)) (j8 vx qi (by decide) f1) ?_
 refine Q1 (qk a0.je) (jx qi (e_ (PV.rp ((jc a0).cells.drop 257))) (qm a0)) ?_
 refine Q1 (I (a0.je.length : Int)) (qg (rep := slI) (xs := a0.je) vp (e_ (qk a0.je))) ?_
 obtain ⟨x14, hx14, h0⟩ := bs h0
 refine PL.mkS (rep := I) 1005 rfl rfl rfl (by decide) qj rfl rfl (e_ (I (a0.je.length : Int))) hx14 fun q15 H o1005 fz16 => ?_
 have b202 := (fz16 202 (by decide)).trans b202
 refine Q1 _ (jf (e_ q15)) ?_
 refine PL.nil (hK13 _ _ ?_)
 refine A5 1 f1 2 f2 3 f3 4 f4 5 (e_ q15) fun F f1 f2 f3 f4 f5 => ?_
 refine SR fun K17 hK17 => ?_
 refine Q1 (PV.u (.slice none 0 0)) (jf rfl) ?_
 have o1006 : ownL 3 1 I H 1006 (PV.u (.slice none 0 0)) [] := ownL.nil _ _
 refine PL.nil (hK17 _ _ ?_)
 refine A6 1 f1 2 f2 3 f3 4 f4 5 f5 6 (e_ (PV.u (.slice none 0 0))) fun F f1 f2 f3 f4 f5 f6 => ?_
 refine PC.seq fun K18 hK18 => ?_
 refine SR fun K19 hK19 => ?_
 refine Q1 _ (jb f5) ?_
 refine Q1 (I (x14.length : Int)) (Vu ql o1005 (e_ q15)) ?_
 refine Q1 _ (jb (e_ (I 0))) ?_
 refine PL.nil (hK19 _ _ ?_)
 refine A8 1 f1 2 f2 3 f3 4 f4 5 f5 6 f6 27 (e_ (I (x14.length : Int))) 28 (e_ (I 0)) fun F f1 f2 f3 f4 f5 f6 f27 f28 => ?_
 refine PC.block ?_
 obtain ⟨o34, ho34, h0⟩ := bs h0
 obtain ⟨B35, hB35, ho34⟩ := G.loop_some ho34
 refine PC.loop (fun m38 F H => ∃ s315 : (Int × (List Int) × (List Int)), ∃ q31, ∃ q33, qw B35 m38 s315 = some o34 ∧ F 1 = (PV.rp (jc a0).cells) ∧ F 2 = (PV.pp 202 0 v202) ∧ F 3 = (slB x11) ∧ F 4 = (slB x12) ∧ F 5 = q31 ∧ F 6 = q33 ∧ F 27 = (I (x14.length : Int)) ∧ F 28 = (I s315.1) ∧ H 202 = ⟨v202, some (.box 26 (((arV (n := 256) U8) (arZ 256 0)).cells ++ [(I 0), (qk []), (slI [])]))⟩ ∧ ownL 3 1 I H 1005 q31 s315.2.1 ∧ ownL 3 1 I H 1006 q33 s315.2.2) (m := nn) ⟨(0, x14, []), q15, (PV.u (.slice none 0 0)), ho34, f1, f2, f3, f4, f5, f6, f27, f28, b202, o1005, o1006⟩ fun m38 F H hI => ?_
 obtain ⟨⟨x29, x30, x32⟩, q31, q33, ho34, f1, f2, f3, f4, f5, f6, f27, f28, b202, o1005, o1006⟩ := hI
 obtain ⟨m38, rfl, st36, hs37, ho34⟩ := jw ho34
 rw [hB35] at hs37
 try dsimp only at hs37
 refine SR fun K39 hK39 => ?_
 refine Q1 (B (decide (x29 < (x14.length : Int)))) (jh rfl f28 f27 jv) ?_
 refine PL.nil (hK39 _ _ ?_)
 refine A9 1 f1 2 f2 3 f3 4 f4 5 f5 6 f6 27 f27 28 f28 29 (e_ (B (decide (x29 < (x14.length : Int))))) fun F f1 f2 f3 f4 f5 f6 f27 f28 f29 => ?_
 refine PC.seq fun K40 hK40 => ?_
 rcases cz hs37 with ⟨hb41, hs37⟩ | ⟨hb41, hs37⟩
 refine PC.condTb f29 hb41 ?_
 refine PC.skip ?_
 refine hK40 _ _ ?_
 refine A8 1 f1 2 f2 3 f3 4 f4 5 f5 6 f6 27 f27 28 f28 fun F f1 f2 f3 f4 f5 f6 f27 f28 => ?_
 obtain ⟨o43, ho43, hs37⟩ := bs hs37
 refine PC.seqM (fun F H => ∃ s62 : ((List Int) × (List Int)), ∃ q45, ∃ q47, o43 = s62 ∧ F 1 = (PV.rp (jc a0).cells) ∧ F 2 = (PV.pp 202 0 v202) ∧ F 3 = (slB x11) ∧ F 4 = (slB x12) ∧ F 5 = q45 ∧ F 6 = q47 ∧ F 27 = (I (x14.length : Int)) ∧ F 28 = (I x29) ∧ H 202 = ⟨v202, some (.box 26 (((arV (n := 256) U8) (arZ 256 0)).cells ++ [(I 0), (qk []), (slI [])]))⟩ ∧ ownL 3 1 I H 1005 q45 s62.1 ∧ ownL 3 1 I H 1006 q47 s62.2) ?_ ?_
 refine PC.block ?_
 refine SR fun K48 hK48 => ?_
 refine Q1 _ (jb f28) ?_
 refine Q1 _ (jf (e_ (I x29))) ?_
 refine PL.nil (hK48 _ _ ?_)
 refine A9 1 f1 2 f2 3 f3 4 f4 5 f5 6 f6 7 (e_ (I x29)) 27 f27 28 f28 fun F f1 f2 f3 f4 f5 f6 f7 f27 f28 => ?_
 refine SR fun K49 hK49 => ?_
 refine Q1 _ (jb f5) ?_
 refine Q1 _ (jb f7) ?_
 obtain ⟨x50, hx50, ho43⟩ := bs ho43
 refine Q1 (PV.pp 1005 ((x29 : Int).toNat * 1) (yh q31)) (z7 (rep := I) vk o1005 (e_ q31) (e_ (I x29)) hx50) ?_
 refine PL.stO (rep := I) (v := (-1)) rfl rfl (fun _ h => by cases h) (e_ (PV.pp 1005 ((x29 : Int).toNat * 1) (yh q31))) o1005 qz hx50 (e_ (I (-1))) (fun _ => rfl) fun H o1005 fz51 => ?_
 have b202 := (fz51 202 (by decide)).trans b202
 have o1006 := o1006.mono (fz51 1006 (by decide))
 refine PL.nil (hK49 _ _ ?_)
 refine A9 1 f1 2 f2 3 f3 4 f4 5 f5 6 f6 7 f7 27 f27 28 f28 fun F f1 f2 f3 f4 f5 f6 f7 f27 f28 => ?_
 refine SR fun K52 hK52 => ?_
 refine Q1 _ (jb f7) ?_
 refine Q1 _ (jh rfl (e_ (I x29)) (e_ (I 0)) j7) ?_
 refine Q1 _ (jb (e_ (B (decide (x29 = 0))))) ?_
 refine GF (slB x11) rfl (e_ (B (decide (x29 = 0)))) (fun hb => jb f3) ?_
 refine GF (I x29) rfl (e_ (B (decide (x29 = 0)))) (fun hb => jb f7) ?_
 obtain ⟨x53, hx53, ho43⟩ := bs ho43
 refine GF (PV.rp (B x53).cells) rfl (e_ (B (decide (x29 = 0)))) (fun hb => j1 (rep := B) (xs := x11) Zz (gvp hb (e_ (gv (!(decide (x29 = 0))) (slB x11)))) (gvp hb (e_ (gv (!(decide (x29 = 0))) (I x29)))) (G.cond_pos hx53 hb)) ?_
 refine GF (B x53) rfl (e_ (B (decide (x29 = 0)))) (fun hb => qr zc0 (gvp hb (e_ (gv (!(decide (x29 = 0))) (PV.rp (B x53).cells))))) ?_
 refine GF (B x53) rfl (e_ (B (decide (x29 = 0)))) (fun hb => jb (gvp hb (e_ (gv (!(decide (x29 = 0))) (B x53))))) ?_
 refine PL.gq (p := (slB x12)) (c := (!(decide (x29 = 0)))) (c' := ((!(decide (x29 = 0))) && x53)) rfl rfl (e_ (gv (!(decide (x29 = 0))) (B x53))) (Jo _ _) (j4 (by decide)) (fun hb => ju (jb f4)) ?_
 refine PL.gq (p := (I x29)) (c := (!(decide (x29 = 0)))) (c' := ((!(decide (x29 = 0))) && x53)) rfl rfl (e_ (gv (!(decide (x29 = 0))) (B x53))) (Jo _ _) (j4 (by decide)) (fun hb => ju (jb f7)) ?_
 obtain ⟨x54, hx54, ho43⟩ := bs ho43
 refine PL.gq (p := (PV.rp (B x54).cells)) (c := (!(decide (x29 = 0)))) (c' := ((!(decide (x29 = 0))) && x53)) rfl rfl (e_ (gv (!(decide (x29 = 0))) (B x53))) (Jo _ _) (j4 (by decide)) (fun hb => ju (j1 (rep := B) (xs := x12) Zz (gvp hb (e_ (gv ((!(decide (x29 = 0))) && x53) (slB x12)))) (gvp hb (e_ (gv ((!(decide (x29 = 0))) && x53) (I x29)))) (G.cond_pos hx54 hb))) ?_
 refine PL.gq (p := (B x54)) (c := (!(decide (x29 = 0)))) (c' := ((!(decide (x29 = 0))) && x53)) rfl rfl (e_ (gv (!(decide (x29 = 0))) (B x53))) (Jo _ _) (j4 (by decide)) (fun hb => ju (qr zc0 (gvp hb (e_ (gv ((!(decide (x29 = 0))) && x53) (PV.rp (B x54).cells)))))) ?_
 refine GF (B (x53 && x54)) rfl (e_ (B (decide (x29 = 0)))) (fun hb => Vx hb (gvp hb (e_ (gv (!(decide (x29 = 0))) (B x53)))) (e_ (gv ((!(decide (x29 = 0))) && x53) (B x54))) rfl) ?_
 refine Q1 (B ((decide (x29 = 0)) || (x53 && x54))) (yf (e_ (B (decide (x29 = 0)))) rfl (e_ (gv (!(decide (x29 = 0))) (B (x53 && x54))))) ?_
 refine PL.nil (hK52 _ _ ?_)
 refine A10 1 f1 2 f2 3 f3 4 f4 5 f5 6 f6 7 f7 27 f27 28 f28 47 (e_ (B ((decide (x29 = 0)) || (x53 && x54)))) fun F f1 f2 f3 f4 f5 f6 f7 f27 f28 f47 => ?_
 rcases cz ho43 with ⟨hb55, ho43⟩ | ⟨hb55, ho43⟩
 refine PC.condTb f47 hb55 ?_
 refine SR fun K56 hK56 => ?_
 refine Q1 _ (jb f5) ?_
 refine Q1 _ (jb f7) ?_
 refine Q1 _ (jb f6) ?_
 refine Q1 (I (x32.length : Int)) (Vu ql o1006 (e_ q33)) ?_
 obtain ⟨x57, hx57, ho43⟩ := bs ho43
 refine Q1 (PV.pp 1005 ((x29 : Int).toNat * 1) (yh q31)) (z7 (rep := I) vk o1005 (e_ q31) (e_ (I x29)) hx57) ?_
 refine PL.stO (rep := I) (v := (x32.length : Int)) rfl rfl (fun _ h => by cases h) (e_ (PV.pp 1005 ((x29 : Int).toNat * 1) (yh q31))) o1005 qz hx57 (e_ (I (x32.length : Int))) (fun _ => rfl) fun H o1005 fz58 => ?_
 have b202 := (fz58 202 (by decide)).trans b202
 have o1006 := o1006.mono (fz58 1006 (by decide))
 refine PL.nil (hK56 _ _ ?_)
 refine A9 1 f1 2 f2 3 f3 4 f4 5 f5 6 f6 7 f7 27 f27 28 f28 fun F f1 f2 f3 f4 f5 f6 f7 f27 f28 => ?_
 refine PC.region ?_
 refine Q1 _ (jb f6) ?_
 refine Q1 _ (jb f7) ?_
 refine Q3 (slI ([x29] : List Int)) (yx (rep := I) (xs := [x29]) qj rfl (by decide) (bm (e_ (I x29)) (bm0)) rfl rfl) ?_
 obtain ⟨x59, hx59, ho43⟩ := bs ho43
 refine PL.appG (rep := I) (ys := ([x29] : List Int)) rfl rfl rfl (by decide) qj (e_ q33) o1006 (e_ (slI ([x29] : List Int))) (fun _ => rfl) (lf1 (fun _ => rfl) (fun _ => rfl)) hx59 fun q60 H o1006 fz61 => ?_
 have b202 := (fz61 202 (by decide)).trans b202
 have o1005 := o1005.mono (fz61 1005 (by decide))
 refine Q1 _ (jf (e_ q60)) ?_
 refine PL.nil ?_
 have ho43 := pz ho43
 subst ho43
 exact ⟨(((x30.set (x29 : Int).toNat (-1)).set (x29 : Int).toNat (x32.length : Int)), x59), q31, q60, rfl, f1, f2, f3, f4, f5, (e_ q60), f27, f28, b202, o1005, o1006⟩
 refine PC.condFb f47 hb55 ?_
 refine PC.skip ?_
 have ho43 := pz ho43
 subst ho43
 exact ⟨((x30.set (x29 : Int).toNat (-1)), x32), q31, q33, rfl, f1, f2, f3, f4, f5, f6, f27, f28, b202, o1005, o1006⟩
 intro F H hI
 obtain ⟨⟨x44, x46⟩, q45, q47, ho, f1, f2, f3, f4, f5, f6, f27, f28, b202, o1005, o1006⟩ := hI
 have ho := ho.symm
 subst ho
 try dsimp only at hs37
 refine PC.region ?_
 refine Q1 _ (jh rfl f28 (e_ (I 1)) j3) ?_
 refine Q1 _ (jb (e_ (I (w64 (x29 + 1))))) ?_
 refine PL.nil ?_
 have hs37 := pz hs37
 subst hs37
 exact ⟨m38, Nat.lt_succ_self _, ((w64 (x29 + 1)), x44, x46), q45, q47, ho34, f1, f2, f3, f4, f5, f6, f27, (e_ (I (w64 (x29 + 1)))), b202, o1005, o1006⟩
 refine PC.condFb f29 hb41 ?_
 refine PC.exit ?_
 have hs37 := pz hs37
 subst hs37
 try dsimp only at ho34
 subst ho34
 try dsimp only at h0
 refine hK18 _ _ ?_
 refine A4 1 f1 2 f2 5 f5 6 f6 fun F f1 f2 f5 f6 => ?_
 refine SR fun K63 hK63 => ?_
 refine Q1 (PV.rp ((jc a0).cells.drop 0)) (j8 Q7 y5 (by decide) f1) ?_
 refine Q1 ((arV (n := 256) U8) a0.jp) (jx y5 (e_ (PV.rp ((jc a0).cells.drop 0))) (yy a0)) ?_
 refine Q1 (PV.rp ((jc a0).cells.drop 256)) (j8 Qk qz (by decide) f1) ?_
 refine Q1 (I a0.ji) (jx qz (e_ (PV.rp ((jc a0).cells.drop 256))) (zi a0)) ?_
 refine Q1 (PV.agg (((arV (n := 256) U8) a0.jp).cells ++ [(I a0.ji), (PV.u (.slice none 0 0)), (PV.u (.slice none 0 0))])) (Jg (bm (e_ ((arV (n := 256) U8) a0.jp)) (bm (e_ (I a0.ji)) (bm0))) (znp (zs := (((arV (n := 256) U8) (arZ 256 0)).cells ++ [(I 0), (PV.u (.slice none 0 0)), (PV.u (.slice none 0 0))])) (places := [(0, 256), (256, 1), (257, 1), (258, 1)]) (by kernel_rfl) (by kernel_rfl) (ziz (cs1 := (((arV (n := 256) U8) a0.jp).cells ++ [(I 0), (PV.u (.slice none 0 0)), (PV.u (.slice none 0 0))])) rfl (jj _ _ (fun _ => rfl)) (by rw [(qb (jj _ _ (fun _ => rfl)) rfl)]; exact Nat.le_of_ble_eq_true rfl) (v8 _ _ _ (fun _ => rfl)) (sm_l (jj _ _ (fun _ => rfl)) (jj _ _ (fun _ => rfl))) (ziz (cs1 := (((arV (n := 256) U8) a0.jp).cells ++ [(I a0.ji), (PV.u (.slice none 0 0)), (PV.u (.slice none 0 0))])) rfl rfl (by rw [(qb (jj _ _ (fun _ => rfl)) rfl)]; exact Nat.le_of_ble_eq_true rfl) rfl (zli (m := 256) (i := 0) (jj _ _ (fun _ => rfl)) rfl) (zm8))))) ?_
 refine PL.allocA 208 (cs := (((arV (n := 256) U8) (arZ 256 0)).cells ++ [(I 0), (PV.u (.slice none 0 0)), (PV.u (.slice none 0 0))])) rfl rfl rfl (by decide) Y8 (by kernel_rfl) (by kernel_rfl) fun v208 H b208 fz64 => ?_
 have b202 := (fz64 202 (by decide)).trans b202
 have o1005 := o1005.mono (fz64 1005 (by decide))
 have o1006 := o1006.mono (fz64 1006 (by decide))
 have o1097 : ownL 24 1 slI H 1097 (PV.u (.slice none 0 0)) [] := ownL.nil _ _
 have o1103 : ownL 3 1 I H 1103 (PV.u (.slice none 0 0)) [] := ownL.nil _ _
 refine PL.storeA (ag := true) (cs' := (((arV (n := 256) U8) a0.jp).cells ++ [(I a0.ji), (PV.u (.slice none 0 0)), (PV.u (.slice none 0 0))])) (ps := (((arV (n := 256) U8) a0.jp).cells ++ [(I a0.ji), (PV.u (.slice none 0 0)), (PV.u (.slice none 0 0))])) rfl rfl (fun _ h => by cases h) (e_ (PV.pp 208 0 v208)) b208 v7 (e_ (PV.agg (((arV (n := 256) U8) a0.jp).cells ++ [(I a0.ji), (PV.u (.slice none 0 0)), (PV.u (.slice none 0 0))]))) (zjk (zet _ _ _ (fun _ => rfl)) rfl) rfl (qb (jj _ _ (fun _ => rfl)) rfl) (by rw [(qb (jj _ _ (fun _ => rfl)) rfl)]; exact Nat.le_of_ble_eq_true rfl) (vz (N := 256 + (3)) (qb (jj _ _ (fun _ => rfl)) rfl) (qb (jj _ _ (fun _ => rfl)) rfl)) fun H b208 fz65 => ?_
 have b202 := (fz65 202 (by decide)).trans b202
 have o1005 := o1005.mono (fz65 1005 (by decide))
 have o1006 := o1006.mono (fz65 1006 (by decide))
 have o1097 := o1097.mono (fz65 1097 (by decide))
 have o1103 := o1103.mono (fz65 1103 (by decide))
 have o1097 : ownL 24 1 slI H 1097 (PV.u (.slice none 0 0)) [] := ownL.nil _ _
 have o1103 : ownL 3 1 I H 1103 (PV.u (.slice none 0 0)) [] := ownL.nil _ _
 refine PL.nil (hK63 _ _ ?_)
 refine A5 1 f1 2 f2 5 f5 6 f6 8 (e_ (PV.pp 208 0 v208)) fun F f1 f2 f5 f6 f8 => ?_
 refine PC.seq fun K66 hK66 => ?_
 refine SR fun K67 hK67 => ?_
 refine Q1 _ (jb f6) ?_
 refine Q1 (I (x32.length : Int)) (Vu ql o1006 (e_ q33)) ?_
 refine Q1 _ (jb (e_ (I 0))) ?_
 refine PL.nil (hK67 _ _ ?_)
 refine A7 1 f1 2 f2 5 f5 8 f8 63 (e_ q33) 64 (e_ (I (x32.length : Int))) 65 (e_ (I 0)) fun F f1 f2 f5 f8 f63 f64 f65 => ?_
 refine PC.block ?_
 obtain ⟨o88, ho88, h0⟩ := bs h0
 obtain ⟨B89, hB89, ho88⟩ := G.loop_some ho88
 refine PC.loop (fun m92 F H => ∃ s186 : (Int × (List (List Int)) × (List Int)), ∃ q85, ∃ q87, qw B89 m92 s186 = some o88 ∧ F 1 = (PV.rp (jc a0).cells) ∧ F 2 = (PV.pp 202 0 v202) ∧ F 5 = q31 ∧ F 8 = (PV.pp 208 0 v208) ∧ F 63 = q33 ∧ F 64 = (I (x32.length : Int)) ∧ F 65 = (I s186.1) ∧ H 202 = ⟨v202, some (.box 26 (((arV (n := 256) U8) (arZ 256 0)).cells ++ [(I 0), (qk []), (slI [])]))⟩ ∧ H 208 = ⟨v208, some (.box 26 (((arV (n := 256) U8) a0.jp).cells ++ [(I a0.ji), q85, q87]))⟩ ∧ ownL 3 1 I H 1005 q31 x30 ∧ ownL 3 1 I H 1006 q33 x32 ∧ ownL 24 1 slI H 1097 q85 s186.2.1 ∧ ownL 3 1 I H 1103 q87 s186.2.2) (m := nn) ⟨(0, [], []), (PV.u (.slice none 0 0)), (PV.u (.slice none 0 0)), ho88, f1, f2, f5, f8, f63, f64, f65, b202, b208, o1005, o1006, o1097, o1103⟩ fun m92 F H hI => ?_
 obtain ⟨⟨x83, x84, x86⟩, q85, q87, ho88, f1, f2, f5, f8, f63, f64, f65, b202, b208, o1005, o1006, o1097, o1103⟩ := hI
 obtain ⟨m92, rfl, st90, hs91, ho88⟩ := jw ho88
 rw [hB89] at hs91
 try dsimp only at hs91
 refine SR fun K93 hK93 => ?_
 refine Q1 (B (decide (x83 < (x32.length : Int)))) (jh rfl f65 f64 jv) ?_
 refine PL.nil (hK93 _ _ ?_)
 refine A8 1 f1 2 f2 5 f5 8 f8 63 f63 64 f64 65 f65 66 (e_ (B (decide (x83 < (x32.length : Int))))) fun F f1 f2 f5 f8 f63 f64 f65 f66 => ?_
 refine PC.seq fun K94 hK94 => ?_
 rcases cz hs91 with ⟨hb95, hs91⟩ | ⟨hb95, hs91⟩
 refine PC.condTb f66 hb95 ?_
 refine PC.skip ?_
 refine hK94 _ _ ?_
 refine A7 1 f1 2 f2 5 f5 8 f8 63 f63 64 f64 65 f65 fun F f1 f2 f5 f8 f63 f64 f65 => ?_
 refine PC.seq fun K96 hK96 => ?_
 refine PC.block ?_
 refine SR fun K97 hK97 => ?_
 obtain ⟨x98, hx98, hs91⟩ := bs hs91
 refine Q1 (PV.pp 1006 ((x83 : Int).toNat * 1) (yh q33)) (z7 (rep := I) vk o1006 f63 f65 hx98) ?_
 refine Q1 (I x98) (zdd qz (e_ (PV.pp 1006 ((x83 : Int).toNat * 1) (yh q33))) o1006 hx98) ?_
 refine Q1 _ (jf (e_ (I x98))) ?_
 refine PL.nil (hK97 _ _ ?_)
 refine A8 1 f1 2 f2 5 f5 8 f8 10 (e_ (I x98)) 63 f63 64 f64 65 f65 fun F f1 f2 f5 f8 f10 f63 f64 f65 => ?_
 refine SR fun K99 hK99 => ?_
 refine Q1 (PV.rp ((jc a0).cells.drop 256)) (j8 Qk qz (by decide) f1) ?_
 refine Q1 (I a0.ji) (jx qz (e_ (PV.rp ((jc a0).cells.drop 256))) (zi a0)) ?_
 obtain ⟨x100, hx100, hs91⟩ := bs hs91
 refine PL.mkS (rep := I) 1011 rfl rfl rfl (by decide) qj rfl rfl (e_ (I a0.ji)) hx100 fun q101 H o1011 fz102 => ?_
 have b202 := (fz102 202 (by decide)).trans b202
 have o1005 := o1005.mono (fz102 1005 (by decide))
 have o1006 := o1006.mono (fz102 1006 (by decide))
 have b208 := (fz102 208 (by decide)).trans b208
 have o1097 := o1097.mono (fz102 1097 (by decide))
 have o1103 := o1103.mono (fz102 1103 (by decide))
 refine Q1 _ (jf (e_ q101)) ?_
 refine PL.nil (hK99 _ _ ?_)
 refine A9 1 f1 2 f2 5 f5 8 f8 10 f10 11 (e_ q101) 63 f63 64 f64 65 f65 fun F f1 f2 f5 f8 f10 f11 f63 f64 f65 => ?_
 refine SR fun K103 hK103 => ?_
 refine Q1 _ (jb f11) ?_
 refine Q1 (PV.rp ((jc a0).cells.drop 257)) (j8 vx qi (by decide) f1) ?_
 refine Q1 (qk a0.je) (jx qi (e_ (PV.rp ((jc a0).cells.drop 257))) (qm a0)) ?_
 refine Q1 _ (jb f10) ?_
 obtain ⟨x104, hx104, hs91⟩ := bs hs91
 refine Q1 (PV.rp (slI x104).cells) (j1 (rep := slI) (xs := a0.je) Jz (e_ (qk a0.je)) (e_ (I x98)) hx104) ?_
 refine Q1 (slI x104) (qr qh (e_ (PV.rp (slI x104).cells))) ?_
 obtain ⟨x105, hx105, hs91⟩ := bs hs91
 refine PL.copyO (rep := I) (ys := x104) rfl rfl rfl (by decide) (by kernel_rfl) (by kernel_rfl) (e_ q101) o1011 (e_ (slI x104)) hx105 (fun _ => rfl) (fun _ => rfl) fun H o1011 fz106 => ?_
 have b202 := (fz106 202 (by decide)).trans b202
 have o1005 := o1005.mono (fz106 1005 (by decide))
 have o1006 := o1006.mono (fz106 1006 (by decide))
 have b208 := (fz106 208 (by decide)).trans b208
 have o1097 := o1097.mono (fz106 1097 (by decide))
 have o1103 := o1103.mono (fz106 1103 (by decide))
 refine PL.nil (hK103 _ _ ?_)
 refine A9 1 f1 2 f2 5 f5 8 f8 10 f10 11 f11 63 f63 64 f64 65 f65 fun F f1 f2 f5 f8 f10 f11 f63 f64 f65 => ?_
 refine PC.seq fun K107 hK107 => ?_
 refine SR fun K108 hK108 => ?_
 refine Q1 _ (jb f11) ?_
 refine Q1 (I (x105.2.length : Int)) (Vu ql o1011 (e_ q101)) ?_
 refine Q1 _ (jb (e_ (I 0))) ?_
 refine PL.nil (hK108 _ _ ?_)
 refine A12 1 f1 2 f2 5 f5 8 f8 10 f10 11 f11 63 f63 64 f64 65 f65 79 (e_ q101) 80 (e_ (I (x105.2.length : Int))) 81 (e_ (I 0)) fun F f1 f2 f5 f8 f10 f11 f63 f64 f65 f79 f80 f81 => ?_
 refine PC.block ?_
 obtain ⟨o129, ho129, hs91⟩ := bs hs91
 obtain ⟨B130, hB130, ho129⟩ := G.loop_some ho129
 refine PC.loop (fun m133 F H => ∃ s173 : (Int × (List Int)), ∃ q128, qw B130 m133 s173 = some o129 ∧ F 1 = (PV.rp (jc a0).cells) ∧ F 2 = (PV.pp 202 0 v202) ∧ F 5 = q31 ∧ F 8 = (PV.pp 208 0 v208) ∧ F 10 = (I x98) ∧ F 11 = q128 ∧ F 63 = q33 ∧ F 64 = (I (x32.length : Int)) ∧ F 65 = (I x83) ∧ F 79 = q128 ∧ F 80 = (I (x105.2.length : Int)) ∧ F 81 = (I s173.1) ∧ H 202 = ⟨v202, some (.box 26 (((arV (n := 256) U8) (arZ 256 0)).cells ++ [(I 0), (qk []), (slI [])]))⟩ ∧ H 208 = ⟨v208, some (.box 26 (((arV (n := 256) U8) a0.jp).cells ++ [(I a0.ji), q85, q87]))⟩ ∧ ownL 3 1 I H 1005 q31 x30 ∧ ownL 3 1 I H 1006 q33 x32 ∧ ownL 3 1 I H 1011 q128 s173.2 ∧ ownL 24 1 slI H 1097 q85 x84 ∧ ownL 3 1 I H 1103 q87 x86) (m := nn) ⟨(0, x105.2), q101, ho129, f1, f2, f5, f8, f10, f11, f63, f64, f65, f79, f80, f81, b202, b208, o1005, o1006, o1011, o1097, o1103⟩ fun m133 F H hI => ?_
 obtain ⟨⟨x126, x127⟩, q128, ho129, f1, f2, f5, f8, f10, f11, f63, f64, f65, f79, f80, f81, b202, b208, o1005, o1006, o1011, o1097, o1103⟩ := hI
 obtain ⟨m133, rfl, st131, hs132, ho129⟩ := jw ho129
 rw [hB130] at hs132
 try dsimp only at hs132
 refine SR fun K134 hK134 => ?_
 refine Q1 (B (decide (x126 < (x105.2.length : Int)))) (jh rfl f81 f80 jv) ?_
 refine PL.nil (hK134 _ _ ?_)
 refine A13 1 f1 2 f2 5 f5 8 f8 10 f10 11 f11 63 f63 64 f64 65 f65 79 f79 80 f80 81 f81 82 (e_ (B (decide (x126 < (x105.2.length : Int))))) fun F f1 f2 f5 f8 f10 f11 f63 f64 f65 f79 f80 f81 f82 => ?_
 refine PC.seq fun K135 hK135 => ?_
 rcases cz hs132 with ⟨hb136, hs132⟩ | ⟨hb136, hs132⟩
 refine PC.condTb f82 hb136 ?_
 refine PC.skip ?_
 refine hK135 _ _ ?_
 refine A12 1 f1 2 f2 5 f5 8 f8 10 f10 11 f11 63 f63 64 f64 65 f65 79 f79 80 f80 81 f81 fun F f1 f2 f5 f8 f10 f11 f63 f64 f65 f79 f80 f81 => ?_
 obtain ⟨o138, ho138, hs132⟩ := bs hs132
 refine PC.seqM (fun F H => ∃ s148 : (List Int), ∃ q140, o138 = s148 ∧ F 1 = (PV.rp (jc a0).cells) ∧ F 2 = (PV.pp 202 0 v202) ∧ F 5 = q31 ∧ F 8 = (PV.pp 208 0 v208) ∧ F 10 = (I x98) ∧ F 11 = q140 ∧ F 63 = q33 ∧ F 64 = (I (x32.length : Int)) ∧ F 65 = (I x83) ∧ F 79 = q140 ∧ F 80 = (I (x105.2.length : Int)) ∧ F 81 = (I x126) ∧ H 202 = ⟨v202, some (.box 26 (((arV (n := 256) U8) (arZ 256 0)).cells ++ [(I 0), (qk []), (slI [])]))⟩ ∧ H 208 = ⟨v208, some (.box 26 (((arV (n := 256) U8) a0.jp).cells ++ [(I a0.ji), q85, q87]))⟩ ∧ ownL 3 1 I H 1005 q31 x30 ∧ ownL 3 1 I H 1006 q33 x32 ∧ ownL 3 1 I H 1011 q140 s148 ∧ ownL 24 1 slI H 1097 q85 x84 ∧ ownL 3 1 I H 1103 q87 x86) ?_ ?_
 refine PC.block ?_
 refine SR fun K141 hK141 => ?_
 refine Q1 _ (jb f81) ?_
 obtain ⟨x142, hx142, ho138⟩ := bs ho138
 refine Q1 (PV.pp 1011 ((x126 : Int).toNat * 1) (yh q128)) (z7 (rep := I) vk o1011 f79 f81 hx142) ?_
 refine Q1 (I x142) (zdd qz (e_ (PV.pp 1011 ((x126 : Int).toNat * 1) (yh q128))) o1011 hx142) ?_
 refine Q1 _ (jf (e_ (I x126))) ?_
 refine Q1 _ (jf (e_ (I x142))) ?_
 refine PL.nil (hK141 _ _ ?_)
 refine A14 1 f1 2 f2 5 f5 8 f8 10 f10 11 f11 12 (e_ (I x126)) 13 (e_ (I x142)) 63 f63 64 f64 65 f65 79 f79 80 f80 81 f81 fun F f1 f2 f5 f8 f10 f11 f12 f13 f63 f64 f65 f79 f80 f81 => ?_
 refine SR fun K143 hK143 => ?_
 refine Q1 _ (jb f13) ?_
 refine Q1 _ (jh rfl (e_ (I x142)) (e_ (I 0)) vr) ?_
 refine PL.nil (hK143 _ _ ?_)
 refine A15 1 f1 2 f2 5 f5 8 f8 10 f10 11 f11 12 f12 13 f13 63 f63 64 f64 65 f65 79 f79 80 f80 81 f81 87 (e_ (B (decide (0 ≤ x142)))) fun F f1 f2 f5 f8 f10 f11 f12 f13 f63 f64 f65 f79 f80 f81 f87 => ?_
 rcases cz ho138 with ⟨hb144, ho138⟩ | ⟨hb144, ho138⟩
 refine PC.condTb f87 hb144 ?_
 refine PC.region ?_
 refine Q1 _ (jb f11) ?_
 refine Q1 _ (jb f12) ?_
 refine Q1 _ (jb f5) ?_
 refine Q1 _ (jb f13) ?_
 obtain ⟨x145, hx145, ho138⟩ := bs ho138
 refine Q1 (PV.pp 1005 ((x142 : Int).toNat * 1) (yh q31)) (z7 (rep := I) vk o1005 (e_ q31) (e_ (I x142)) hx145) ?_
 refine Q1 (I x145) (zdd qz (e_ (PV.pp 1005 ((x142 : Int).toNat * 1) (yh q31))) o1005 hx145) ?_
 obtain ⟨x146, hx146, ho138⟩ := bs ho138
 refine Q1 (PV.pp 1011 ((x126 : Int).toNat * 1) (yh q128)) (z7 (rep := I) vk o1011 (e_ q128) (e_ (I x126)) hx146) ?_
 refine PL.stO (rep := I) (v := x145) rfl rfl (fun _ h => by cases h) (e_ (PV.pp 1011 ((x126 : Int).toNat * 1) (yh q128))) o1011 qz hx146 (e_ (I x145)) (fun _ => rfl) fun H o1011 fz147 => ?_
 have b202 := (fz147 202 (by decide)).trans b202
 have o1005 := o1005.mono (fz147 1005 (by decide))
 have o1006 := o1006.mono (fz147 1006 (by decide))
 have b208 := (fz147 208 (by decide)).trans b208
 have o1097 := o1097.mono (fz147 1097 (by decide))
 have o1103 := o1103.mono (fz147 1103 (by decide))
 refine PL.nil ?_
 have ho138 := pz ho138
 subst ho138
 exact ⟨(x127.set (x126 : Int).toNat x145), q128, rfl, f1, f2, f5, f8, f10, f11, f63, f64, f65, f79, f80, f81, b202, b208, o1005, o1006, o1011, o1097, o1103⟩
 refine PC.condFb f87 hb144 ?_
 refine PC.skip ?_
 have ho138 := pz ho138
 subst ho138
 exact ⟨x127, q128, rfl, f1, f2, f5, f8, f10, f11, f63, f64, f65, f79, f80, f81, b202, b208, o1005, o1006, o1011, o1097, o1103⟩
 intro F H hI
 obtain ⟨x139, q140, ho, f1, f2, f5, f8, f10, f11, f63, f64, f65, f79, f80, f81, b202, b208, o1005, o1006, o1011, o1097, o1103⟩ := hI
 have ho := ho.symm
 subst ho
 try dsimp only at hs132
 refine PC.region ?_
 refine Q1 _ (jh rfl f81 (e_ (I 1)) j3) ?_
 refine Q1 _ (jb (e_ (I (w64 (x126 + 1))))) ?_
 refine PL.nil ?_
 have hs132 := pz hs132
 subst hs132
 exact ⟨m133, Nat.lt_succ_self _, ((w64 (x126 + 1)), x139), q140, ho129, f1, f2, f5, f8, f10, f11, f63, f64, f65, f79, f80, (e_ (I (w64 (x126 + 1)))), b202, b208, o1005, o1006, o1011, o1097, o1103⟩
 refine PC.condFb f82 hb136 ?_
 refine PC.exit ?_
 have hs132 := pz hs132
 subst hs132
 try dsimp only at ho129
 subst ho129
 try dsimp only at hs91
 refine hK107 _ _ ?_
 refine A9 1 f1 2 f2 5 f5 8 f8 10 f10 11 f11 63 f63 64 f64 65 f65 fun F f1 f2 f5 f8 f10 f11 f63 f64 f65 => ?_
 refine PC.seq fun K149 hK149 => ?_
 refine PC.freezeL (rep := I) 11 f11 o1011 (fun _ => rfl) fun H fz150 => ?_
 have b202 := (fz150 202 (by decide)).trans b202
 have o1005 := o1005.mono (fz150 1005 (by decide))
 have o1006 := o1006.mono (fz150 1006 (by decide))
 have b208 := (fz150 208 (by decide)).trans b208
 have o1097 := o1097.mono (fz150 1097 (by decide))
 have o1103 := o1103.mono (fz150 1103 (by decide))
 refine PC.region ?_
 refine Q1 (PV.pp 208 257 v208) (yu vx qi (by decide) f8 b208) ?_
 refine Q1 q85 (vm qi (e_ (PV.pp 208 257 v208)) b208 (zhq (m := 256) (i := 1) (jj _ _ (fun _ => rfl)) rfl)) ?_
 refine Q1 _ (jb (e_ (slI x127))) ?_
 refine Q3 (qk ([x127] : List (List Int))) (yx (rep := slI) (xs := [x127]) Qh rfl (by decide) (bm (e_ (slI x127)) (bm0)) rfl rfl) ?_
 obtain ⟨x151, hx151, hs91⟩ := bs hs91
 refine PL.appG (rep := slI) (ys := ([x127] : List (List Int))) rfl rfl rfl (by decide) Qh (e_ q85) o1097 (e_ (qk ([x127] : List (List Int)))) (fun _ => rfl) (lf1 (fun _ => rfl) (fun _ => rfl)) hx151 fun q152 H o1097 fz153 => ?_
 have b202 := (fz153 202 (by decide)).trans b202
 have o1005 := o1005.mono (fz153 1005 (by decide))
 have o1006 := o1006.mono (fz153 1006 (by decide))
 have b208 := (fz153 208 (by decide)).trans b208
 have o1103 := o1103.mono (fz153 1103 (by decide))
 refine Q1 (PV.pp 208 257 v208) (yu vx qi (by decide) f8 b208) ?_
 refine PL.storeA (ag := false) (cs' := (((arV (n := 256) U8) a0.jp).cells ++ [(I a0.ji), q152, q87])) (ps := [q152]) rfl rfl (fun _ h => by cases h) (e_ (PV.pp 208 257 v208)) b208 qi (e_ q152) (Zw o1097) (Jt o1097) rfl (by rw [(qb (jj _ _ (fun _ => rfl)) rfl)]; exact Nat.le_of_ble_eq_true rfl) (zli (m := 256) (i := 1) (jj _ _ (fun _ => rfl)) rfl) fun H b208 fz154 => ?_
 have b202 := (fz154 202 (by decide)).trans b202
 have o1005 := o1005.mono (fz154 1005 (by decide))
 have o1006 := o1006.mono (fz154 1006 (by decide))
 have o1097 := o1097.mono (fz154 1097 (by decide))
 have o1103 := o1103.mono (fz154 1103 (by decide))
 refine PL.nil (hK149 _ _ ?_)
 refine A8 1 f1 2 f2 5 f5 8 f8 10 f10 63 f63 64 f64 65 f65 fun F f1 f2 f5 f8 f10 f63 f64 f65 => ?_
 refine PC.regionT 8 mixed (by kernel_rfl) ?_
 refine Q2 (PV.pp 208 258 v208) (yu ze qh (by decide) f8 b208) ?_
 refine Q2 q87 (vm qh (e_ (PV.pp 208 258 v208)) b208 (zhq (m := 256) (i := 2) (jj _ _ (fun _ => rfl)) rfl)) ?_
 refine Q2 (PV.rp ((jc a0).cells.drop 258)) (j8 ze qh (by decide) f1) ?_
 refine Q2 (slI a0.jl) (jx qh (e_ (PV.rp ((jc a0).cells.drop 258))) (yg a0)) ?_
 refine Q2 _ (jb f10) ?_
 obtain ⟨x155, hx155, hs91⟩ := bs hs91
 refine Q2 (PV.rp (I x155).cells) (j1 (rep := I) (xs := a0.jl) vk (e_ (slI a0.jl)) (e_ (I x98)) hx155) ?_
 refine Q2 (I x155) (qr qz (e_ (PV.rp (I x155).cells))) ?_
 refine Q4 (slI ([x155] : List Int)) (yx (rep := I) (xs := [x155]) qj rfl (by decide) (bm (e_ (I x155)) (bm0)) rfl rfl) ?_
 refine QF.nil ?_
 obtain ⟨x156, hx156, hs91⟩ := bs hs91
 refine PL.appG (rep := I) (ys := ([x155] : List Int)) rfl rfl rfl (by decide) qj (e_ q87) o1103 (e_ (slI ([x155] : List Int))) (fun _ => rfl) (lf1 (fun _ => rfl) (fun _ => rfl)) hx156 fun q157 H o1103 fz158 => ?_
 have b202 := (fz158 202 (by decide)).trans b202
 have o1005 := o1005.mono (fz158 1005 (by decide))
 have o1006 := o1006.mono (fz158 1006 (by decide))
 have b208 := (fz158 208 (by decide)).trans b208
 have o1097 := o1097.mono (fz158 1097 (by decide))
 refine Q1 (PV.pp 208 258 v208) (yu ze qh (by decide) f8 b208) ?_
 refine PL.storeA (ag := false) (cs' := (((arV (n := 256) U8) a0.jp).cells ++ [(I a0.ji), q152, q157])) (ps := [q157]) rfl rfl (fun _ h => by cases h) (e_ (PV.pp 208 258 v208)) b208 qh (e_ q157) (Zw o1103) (Jt o1103) rfl (by rw [(qb (jj _ _ (fun _ => rfl)) rfl)]; exact Nat.le_of_ble_eq_true rfl) (zli (m := 256) (i := 2) (jj _ _ (fun _ => rfl)) rfl) fun H b208 fz159 => ?_
 have b202 := (fz159 202 (by decide)).trans b202
 have o1005 := o1005.mono (fz159 1005 (by decide))
 have o1006 := o1006.mono (fz159 1006 (by decide))
 have o1097 := o1097.mono (fz159 1097 (by decide))
 have o1103 := o1103.mono (fz159 1103 (by decide))
 refine PL.nil (hK96 _ _ ?_)
 refine A7 1 f1 2 f2 5 f5 8 f8 63 f63 64 f64 65 f65 fun F f1 f2 f5 f8 f63 f64 f65 => ?_
 refine PC.region ?_
 refine Q1 _ (jh rfl f65 (e_ (I 1)) j3) ?_
 refine Q1 _ (jb (e_ (I (w64 (x83 + 1))))) ?_
 refine PL.nil ?_
 have hs91 := pz hs91
 subst hs91
 exact ⟨m92, Nat.lt_succ_self _, ((w64 (x83 + 1)), x151, x156), q152, q157, ho88, f1, f2, f5, f8, f63, f64, (e_ (I (w64 (x83 + 1)))), b202, b208, o1005, o1006, o1097, o1103⟩
 refine PC.condFb f66 hb95 ?_
 refine PC.exit ?_
 have hs91 := pz hs91
 subst hs91
 try dsimp only at ho88
 subst ho88
 try dsimp only at h0
 refine hK66 _ _ ?_
 refine A2 2 f2 8 f8 fun F f2 f8 => ?_
 refine PC.seq fun K174 hK174 => ?_
 refine PC.freezeC (rep := slI) (cs' := (((arV (n := 256) U8) a0.jp).cells ++ [(I a0.ji), (qk x84), q87])) (i := 257) b208 (zlq (m := 256) (i := 1) (jj _ _ (fun _ => rfl)) rfl) o1097 (fun _ => rfl) (by decide) (zlp (m := 256) (i := 1) (jj _ _ (fun _ => rfl)) rfl) fun H b208 fz175 => ?_
 have b202 := (fz175 202 (by decide) (by decide)).trans b202
 have o1103 := o1103.mono (fz175 1103 (by decide) (by decide))
 refine PC.freezeC (rep := I) (cs' := (((arV (n := 256) U8) a0.jp).cells ++ [(I a0.ji), (qk x84), (slI x86)])) (i := 258) b208 (zlq (m := 256) (i := 2) (jj _ _ (fun _ => rfl)) rfl) o1103 (fun _ => rfl) (by decide) (zlp (m := 256) (i := 2) (jj _ _ (fun _ => rfl)) rfl) fun H b208 fz176 => ?_
 have b202 := (fz176 202 (by decide) (by decide)).trans b202
 refine PC.region ?_
 refine Q1 (jc (⟨a0.jp, a0.ji, x84, x86⟩ : jd)) (vm v7 f8 b208 (yo (qe (⟨a0.jp, a0.ji, x84, x86⟩ : jd)))) ?_
 refine PL.storeA (ag := true) (cs' := (((arV (n := 256) U8) ((⟨a0.jp, a0.ji, x84, x86⟩ : jd).jp)).cells ++ [(I ((⟨a0.jp, a0.ji, x84, x86⟩ : jd).ji)), (qk ((⟨a0.jp, a0.ji, x84, x86⟩ : jd).je)), (slI ((⟨a0.jp, a0.ji, x84, x86⟩ : jd).jl))])) (ps := (((arV (n := 256) U8) ((⟨a0.jp, a0.ji, x84, x86⟩ : jd).jp)).cells ++ [(I ((⟨a0.jp, a0.ji, x84, x86⟩ : jd).ji)), (qk ((⟨a0.jp, a0.ji, x84, x86⟩ : jd).je)), (slI ((⟨a0.jp, a0.ji, x84, x86⟩ : jd).jl))])) rfl rfl (fun _ h => by cases h) f2 b202 v7 (e_ (jc (⟨a0.jp, a0.ji, x84, x86⟩ : jd))) (qt _ _) rfl (qb (jj _ _ (fun _ => rfl)) rfl) (by rw [(qb (jj _ _ (fun _ => rfl)) rfl)]; exact Nat.le_of_ble_eq_true rfl) (vz (N := 256 + (3)) (qb (jj _ _ (fun _ => rfl)) rfl) (qb (jj _ _ (fun _ => rfl)) rfl)) fun H b202 fz177 => ?_
 have b208 := (fz177 208 (by decide)).trans b208
 refine PL.nil (hK174 _ _ ?_)
 refine A1 2 f2 fun F f2 => ?_
 refine PC.ret ?_
 have h0 := pz h0
 subst h0
 exact fin (p0 := (jc (⟨((⟨a0.jp, a0.ji, x84, x86⟩ : jd).jp), ((⟨a0.jp, a0.ji, x84, x86⟩ : jd).ji), ((⟨a0.jp, a0.ji, x84, x86⟩ : jd).je), ((⟨a0.jp, a0.ji, x84, x86⟩ : jd).jl)⟩ : jd))) (.inr rfl) (Zu Try.results7 (zf v7 f2 b202 (yo (qe (⟨((⟨a0.jp, a0.ji, x84, x86⟩ : jd).jp), ((⟨a0.jp, a0.ji, x84, x86⟩ : jd).ji), ((⟨a0.jp, a0.ji, x84, x86⟩ : jd).je), ((⟨a0.jp, a0.ji, x84, x86⟩ : jd).jl)⟩ : jd))))) (qa _)
end Go.Proofs.Ytpohfkgjghiofaa
