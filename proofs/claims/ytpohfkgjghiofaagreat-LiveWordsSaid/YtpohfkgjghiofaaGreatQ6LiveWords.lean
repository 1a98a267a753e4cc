/-
  Texts of this proof, put together: Lv32, Pb, Pc, Pd, Pe, Pf, Pm, Pg, Ph, Pi, Pj, Pk, Pl, Pq, Pr, Ps.
-/

import Derived.Test.YtpohfkgjghiofaaGreatQ5LiveWords

namespace Go.Proofs.YtpohfkgjghiofaaGreat
open Go Go.RowKit L
set_option maxRecDepth 10000
set_option maxHeartbeats 4000000
set_option linter.unusedVariables false
set_option linter.unusedSimpArgs false
def zn (a0 : je) : G (List Int) :=
  G.bind (Jq a0) fun x5 => G.bind (G.loop (σ := (Int × (List Int))) (α := (List Int)) (fun (x9, x10) => G.cond (decide (x9 < (x5.length : Int))) (G.bind (α := (List Int)) (G.bind (G.lift (idx x5 x9)) fun x25 => G.bind (G.cond x25 (G.lift (idx a0.jj x9)) (G.pure 0)) fun x27 => G.cond (x25 && (decide (0 ≤ x27))) (G.bind (G.lift (idx a0.jj x9)) fun x29 => G.bind (G.lift (app 8 x10 ([x29] : List Int))) fun x30 => G.pure x30) (G.pure x10)) fun x22 => G.pure (.inl ((w64 (x9 + 1)), x22))) (G.pure (.inr x10))) (0, [])) fun x41 => G.bind (G.lift (zbo x41 (Y8 x41))) fun x44 => G.bind (G.lift (zbo x44 (Qs x44))) fun x47 => G.pure x47
theorem zgk {nn : Nat} {a0 : je} {r : (List Int)} (h0 : zn a0 nn = some r) : PCall Tryz.prog 18 [jc a0] (· = PV.fr 3 1 (r.map I)) := by
 unfold zn at h0
 refine PCall.intro' Tryz.func18 rfl Tryz.ntmps18 (by simp) fun W => ?_
 refine A1 0 (e_ (jc a0)) fun F f0 => ?_
 generalize PHeap.empty = H
 refine SR fun K1 hK1 => ?_
 refine Q3 (PV.rp (jc a0).cells) (zw f0 (qx _ _)) ?_
 refine Q1 (PV.u (.slice none 0 0)) (jf rfl) ?_
 have o1002 : ownL 3 1 I H 1002 (PV.u (.slice none 0 0)) [] := ownL.nil _ _
 refine PL.nil (hK1 _ _ ?_)
 refine A1 1 (e_ (PV.rp (jc a0).cells)) fun F f1 => ?_
 refine SR fun K2 hK2 => ?_
 refine Q1 (PV.u (.slice none 0 0)) (jf rfl) ?_
 have o1002 : ownL 3 1 I H 1002 (PV.u (.slice none 0 0)) [] := ownL.nil _ _
 refine PL.nil (hK2 _ _ ?_)
 refine A2 1 f1 3 (e_ (PV.u (.slice none 0 0))) fun F f1 f3 => ?_
 refine PC.seq fun K3 hK3 => ?_
 refine SR fun K4 hK4 => ?_
 refine Q1 (jc a0) (v7 yc f1 (qe _)) ?_
 obtain ⟨x5, hx5, h0⟩ := bs h0
 refine Q3 (slB x5) (j3 (by kernel_rfl) (am (e_ (jc a0)) (am0)) (ju (qa _) (j6)) (za6 hx5)) ?_
 refine Q1 (I (x5.length : Int)) (qh (rep := B) (xs := x5) Z4 (e_ (slB x5))) ?_
 refine Q1 _ (ja (e_ (I 0))) ?_
 refine PL.nil (hK4 _ _ ?_)
 refine A5 1 f1 3 f3 7 (e_ (slB x5)) 8 (e_ (I (x5.length : Int))) 9 (e_ (I 0)) fun F f1 f3 f7 f8 f9 => ?_
 refine PC.block ?_
 obtain ⟨o12, ho12, h0⟩ := bs h0
 obtain ⟨B13, hB13, ho12⟩ := G.loop_some ho12
 refine PC.loop (fun m16 F H => ∃ s50 : (Int × (List Int)), ∃ q11, qt B13 m16 s50 = some o12 ∧ F 1 = (PV.rp (jc a0).cells) ∧ F 3 = q11 ∧ F 7 = (slB x5) ∧ F 8 = (I (x5.length : Int)) ∧ F 9 = (I s50.1) ∧ ownL 3 1 I H 1002 q11 s50.2) (m := nn) ⟨(0, []), (PV.u (.slice none 0 0)), ho12, f1, f3, f7, f8, f9, o1002⟩ fun m16 F H hI => ?_
 obtain ⟨⟨x9, x10⟩, q11, ho12, f1, f3, f7, f8, f9, o1002⟩ := hI
 obtain ⟨m16, rfl, st14, hs15, ho12⟩ := jx ho12
 rw [hB13] at hs15
 try dsimp only at hs15
 refine SR fun K17 hK17 => ?_
 refine Q1 (B (decide (x9 < (x5.length : Int)))) (jh rfl f9 f8 jw) ?_
 refine PL.nil (hK17 _ _ ?_)
 refine A6 1 f1 3 f3 7 f7 8 f8 9 f9 10 (e_ (B (decide (x9 < (x5.length : Int))))) fun F f1 f3 f7 f8 f9 f10 => ?_
 refine PC.seq fun K18 hK18 => ?_
 rcases cz hs15 with ⟨hb19, hs15⟩ | ⟨hb19, hs15⟩
 refine PC.condTb f10 hb19 ?_
 refine PC.skip ?_
 refine hK18 _ _ ?_
 refine A5 1 f1 3 f3 7 f7 8 f8 9 f9 fun F f1 f3 f7 f8 f9 => ?_
 obtain ⟨o21, ho21, hs15⟩ := bs hs15
 refine PC.seqM (fun F H => ∃ s33 : (List Int), ∃ q23, o21 = s33 ∧ F 1 = (PV.rp (jc a0).cells) ∧ F 3 = q23 ∧ F 7 = (slB x5) ∧ F 8 = (I (x5.length : Int)) ∧ F 9 = (I x9) ∧ ownL 3 1 I H 1002 q23 s33) ?_ ?_
 refine PC.block ?_
 refine SR fun K24 hK24 => ?_
 refine Q1 _ (ja f9) ?_
 obtain ⟨x25, hx25, ho21⟩ := bs ho21
 refine Q1 (PV.rp (B x25).cells) (j0 (rep := B) (xs := x5) Js f7 f9 hx25) ?_
 refine Q1 (B x25) (qn Vo (e_ (PV.rp (B x25).cells))) ?_
 refine Q1 _ (jf (e_ (I x9))) ?_
 refine Q1 _ (jf (e_ (B x25))) ?_
 refine PL.nil (hK24 _ _ ?_)
 refine A7 1 f1 3 f3 4 (e_ (I x9)) 5 (e_ (B x25)) 7 f7 8 f8 9 f9 fun F f1 f3 f4 f5 f7 f8 f9 => ?_
 refine SR fun K26 hK26 => ?_
 refine Q1 _ (ja f5) ?_
 refine Q1 _ (ja (e_ (B x25))) ?_
 refine GT (PV.rp ((jc a0).cells.drop 258)) rfl (e_ (B x25)) (fun hb => j5 zg ql (by decide) f1) ?_
 refine GT (slI a0.jj) rfl (e_ (B x25)) (fun hb => jz ql (gvp hb (e_ (gv x25 (PV.rp ((jc a0).cells.drop 258))))) (yg a0)) ?_
 refine GT (I x9) rfl (e_ (B x25)) (fun hb => ja f4) ?_
 obtain ⟨x27, hx27, ho21⟩ := bs ho21
 refine GT (PV.rp (I x27).cells) rfl (e_ (B x25)) (fun hb => j0 (rep := I) (xs := a0.jj) q6 (gvp hb (e_ (gv x25 (slI a0.jj)))) (gvp hb (e_ (gv x25 (I x9)))) (G.cond_pos hx27 hb)) ?_
 refine GT (I x27) rfl (e_ (B x25)) (fun hb => qn qu (gvp hb (e_ (gv x25 (PV.rp (I x27).cells))))) ?_
 refine GT (B (decide (0 ≤ x27))) rfl (e_ (B x25)) (fun hb => jh rfl (gvp hb (e_ (gv x25 (I x27)))) (e_ (I 0)) v8) ?_
 refine Q1 (B (x25 && (decide (0 ≤ x27)))) (vm (e_ (B x25)) (e_ (gv x25 (B (decide (0 ≤ x27))))) rfl) ?_
 refine PL.nil (hK26 _ _ ?_)
 refine A7 1 f1 3 f3 4 f4 7 f7 8 f8 9 f9 22 (e_ (B (x25 && (decide (0 ≤ x27))))) fun F f1 f3 f4 f7 f8 f9 f22 => ?_
 rcases cz ho21 with ⟨hb28, ho21⟩ | ⟨hb28, ho21⟩
 refine PC.condTb f22 hb28 ?_
 refine PC.region ?_
 refine Q1 _ (ja f3) ?_
 refine Q1 (PV.rp ((jc a0).cells.drop 258)) (j5 zg ql (by decide) f1) ?_
 refine Q1 (slI a0.jj) (jz ql (e_ (PV.rp ((jc a0).cells.drop 258))) (yg a0)) ?_
 refine Q1 _ (ja f4) ?_
 obtain ⟨x29, hx29, ho21⟩ := bs ho21
 refine Q1 (PV.rp (I x29).cells) (j0 (rep := I) (xs := a0.jj) q6 (e_ (slI a0.jj)) (e_ (I x9)) hx29) ?_
 refine Q1 (I x29) (qn qu (e_ (PV.rp (I x29).cells))) ?_
 refine Q3 (slI ([x29] : List Int)) (yq (rep := I) (xs := [x29]) qb rfl (by decide) (bm (e_ (I x29)) (bm0)) rfl rfl) ?_
 obtain ⟨x30, hx30, ho21⟩ := bs ho21
 refine PL.appG (rep := I) (ys := ([x29] : List Int)) rfl rfl rfl (by decide) qb (e_ q11) o1002 (e_ (slI ([x29] : List Int))) (fun _ => rfl) (lf1 (fun _ => rfl) (fun _ => rfl)) hx30 fun q31 H o1002 fz32 => ?_
 refine Q1 _ (jf (e_ q31)) ?_
 refine PL.nil ?_
 have ho21 := pz ho21
 subst ho21
 exact ⟨x30, q31, rfl, f1, (e_ q31), f7, f8, f9, o1002⟩
 refine PC.condFb f22 hb28 ?_
 refine PC.skip ?_
 have ho21 := pz ho21
 subst ho21
 exact ⟨x10, q11, rfl, f1, f3, f7, f8, f9, o1002⟩
 intro F H hI
 obtain ⟨x22, q23, ho, f1, f3, f7, f8, f9, o1002⟩ := hI
 have ho := ho.symm
 subst ho
 try dsimp only at hs15
 refine PC.region ?_
 refine Q1 _ (jh rfl f9 (e_ (I 1)) j4) ?_
 refine Q1 _ (ja (e_ (I (w64 (x9 + 1))))) ?_
 refine PL.nil ?_
 have hs15 := pz hs15
 subst hs15
 exact ⟨m16, Nat.lt_succ_self _, ((w64 (x9 + 1)), x22), q23, ho12, f1, f3, f7, f8, (e_ (I (w64 (x9 + 1)))), o1002⟩
 refine PC.condFb f10 hb19 ?_
 refine PC.exit ?_
 have hs15 := pz hs15
 subst hs15
 try dsimp only at ho12
 subst ho12
 try dsimp only at h0
 refine hK3 _ _ ?_
 refine A1 3 f3 fun F f3 => ?_
 refine SR fun K34 hK34 => ?_
 refine Q1 _ (ja f3) ?_
 obtain ⟨x35, hx35, h0⟩ := bs h0
 refine PL.sortI 1002 rfl rfl (by simp [zh]) (e_ q11) o1002 hx35 fun H o1002 fz36 => ?_
 refine PL.nil (hK34 _ _ ?_)
 refine A1 3 f3 fun F f3 => ?_
 refine SR fun K37 hK37 => ?_
 refine Q1 _ (ja f3) ?_
 obtain ⟨x38, hx38, h0⟩ := bs h0
 refine PL.compI 1002 rfl rfl rfl (by decide) (e_ q11) o1002 hx38 fun q39 H o1002 fz40 => ?_
 refine Q1 _ (jf (e_ q39)) ?_
 refine PL.nil (hK37 _ _ ?_)
 refine A1 2 (e_ q39) fun F f2 => ?_
 refine PC.ret ?_
 have h0 := pz h0
 subst h0
 exact y0 (.inr rfl) (qc Tryz.results18 f2) o1002 (fun _ => rfl)
theorem Y3 {nn : Nat} {a0 : je} {r : (List Int)} (h0 : zn a0 nn = some r) : PCall Tryz.prog 18 [jc a0] (· = slI r) := (zgk h0).forget
def Qb  : G Bool :=
  G.bind (zbr ([(⟨#[91, 98, 45, 100, 93, 43, 99]⟩ : ByteArray)] : List ByteArray)) fun x3 => G.bind (Jn x3 0) fun x4 => G.bind (zbr ([(⟨#[97]⟩ : ByteArray), (⟨#[97, 91, 94, 92, 120, 48, 48, 45, 92, 120, 102, 102, 93]⟩ : ByteArray)] : List ByteArray)) fun x6 => G.bind (zcr x6) fun x7 => G.bind (G.cond ((x4.2 && (x4.1.toList == (⟨#[98, 99]⟩ : ByteArray).toList)) && (decide ((x7.jd.length : Int) = 2))) (zn (⟨x7.jp, x7.ji, x7.jd, x7.jj⟩ : je)) (G.pure [])) fun x12 => G.bind (G.cond ((x4.2 && (x4.1.toList == (⟨#[98, 99]⟩ : ByteArray).toList)) && (decide ((x7.jd.length : Int) = 2))) (za x12 ([0] : List Int)) (G.pure false)) fun x13 => G.pure (((x4.2 && (x4.1.toList == (⟨#[98, 99]⟩ : ByteArray).toList)) && (decide ((x7.jd.length : Int) = 2))) && x13)
theorem zb4 {nn : Nat}  {r : Bool} (h0 : Qb nn = some r) : PCall Tryz.prog 6 [] (· = B r) := by
 unfold Qb at h0
 refine PCall.intro' Tryz.func6 rfl Tryz.ntmps6 (by simp) fun W => ?_
 refine PC.absF (fun F => True) trivial ?_
 intro F hI
 clear hI
 generalize PHeap.empty = H
 refine SR fun K1 hK1 => ?_
 refine Q1 _ (jf (e_ (B false))) ?_
 refine PL.nil (hK1 _ _ ?_)
 refine PC.absF (fun F => True) trivial ?_
 intro F hI
 clear hI
 refine SR fun K2 hK2 => ?_
 refine Q3 (zjb ([(⟨#[91, 98, 45, 100, 93, 43, 99]⟩ : ByteArray)] : List ByteArray)) (yq (rep := S) (xs := [(⟨#[91, 98, 45, 100, 93, 43, 99]⟩ : ByteArray)]) zej rfl (by decide) (bm (e_ (S (⟨#[91, 98, 45, 100, 93, 43, 99]⟩ : ByteArray))) (bm0)) rfl rfl) ?_
 obtain ⟨x3, hx3, h0⟩ := bs h0
 refine Q3 (jc x3) (j3 (by kernel_rfl) (am (e_ (zjb ([(⟨#[91, 98, 45, 100, 93, 43, 99]⟩ : ByteArray)] : List ByteArray))) (am0)) (ju (zk3 _) (j6)) (ze9 hx3)) ?_
 obtain ⟨x4, hx4, h0⟩ := bs h0
 refine Q3 (PV.tup [(S x4.1), (B x4.2)]) (j3 (by kernel_rfl) (am (e_ (jc x3)) (am (e_ (I 0)) (am0))) (ju (qa _) (ju (.u _) (j6))) (za1 hx4)) ?_
 refine Q1 _ (ja (e_ (PV.tup [(S x4.1), (B x4.2)]))) ?_
 refine Q1 _ (vq (e_ (PV.tup [(S x4.1), (B x4.2)])) rfl) ?_
 refine Q1 _ (vq (e_ (PV.tup [(S x4.1), (B x4.2)])) rfl) ?_
 refine Q1 _ (jf (e_ (S x4.1))) ?_
 refine Q1 _ (jf (e_ (B x4.2))) ?_
 refine PL.nil (hK2 _ _ ?_)
 refine A2 1 (e_ (S x4.1)) 2 (e_ (B x4.2)) fun F f1 f2 => ?_
 refine SR fun K5 hK5 => ?_
 refine Q3 (zjb ([(⟨#[97]⟩ : ByteArray), (⟨#[97, 91, 94, 92, 120, 48, 48, 45, 92, 120, 102, 102, 93]⟩ : ByteArray)] : List ByteArray)) (yq (rep := S) (xs := [(⟨#[97]⟩ : ByteArray), (⟨#[97, 91, 94, 92, 120, 48, 48, 45, 92, 120, 102, 102, 93]⟩ : ByteArray)]) zej rfl (by decide) (bm (e_ (S (⟨#[97]⟩ : ByteArray))) (bm (e_ (S (⟨#[97, 91, 94, 92, 120, 48, 48, 45, 92, 120, 102, 102, 93]⟩ : ByteArray))) (bm0))) rfl rfl) ?_
 obtain ⟨x6, hx6, h0⟩ := bs h0
 refine Q3 (jc x6) (j3 (by kernel_rfl) (am (e_ (zjb ([(⟨#[97]⟩ : ByteArray), (⟨#[97, 91, 94, 92, 120, 48, 48, 45, 92, 120, 102, 102, 93]⟩ : ByteArray)] : List ByteArray))) (am0)) (ju (zk3 _) (j6)) (ze9 hx6)) ?_
 obtain ⟨x7, hx7, h0⟩ := bs h0
 refine Q3 (jc x7) (j3 (by kernel_rfl) (am (e_ (jc x6)) (am0)) (ju (qa _) (j6)) (zi5 hx7)) ?_
 refine PL.allocA 203 (cs := (((arV (n := 256) U8) (arZ 256 0)).cells ++ [(I 0), (PV.u (.slice none 0 0)), (PV.u (.slice none 0 0))])) rfl rfl rfl (by decide) Zr (by kernel_rfl) (by kernel_rfl) fun v203 H b203 fz8 => ?_
 refine PL.recell (cs' := (((arV (n := 256) U8) (arZ 256 0)).cells ++ [(I 0), (qk []), (slI [])])) b203 (WeakL.app (WeakL.refl _) (WeakL.cons (Weak.refl _) (WeakL.cons (Weak.nil _) (WeakL.cons (Weak.nil _) (WeakL.nil))))) fun H b203 fz9 => ?_
 refine PL.storeA (ag := true) (cs' := (((arV (n := 256) U8) x7.jp).cells ++ [(I x7.ji), (qk x7.jd), (slI x7.jj)])) (ps := (((arV (n := 256) U8) x7.jp).cells ++ [(I x7.ji), (qk x7.jd), (slI x7.jj)])) rfl rfl (fun _ h => by cases h) (e_ (PV.pp 203 0 v203)) b203 yc (e_ (jc x7)) (qx _ _) rfl (qg (jk _ _ (fun _ => rfl)) rfl) (by rw [(qg (jk _ _ (fun _ => rfl)) rfl)]; exact Nat.le_of_ble_eq_true rfl) (ya (N := 256 + (3)) (qg (jk _ _ (fun _ => rfl)) rfl) (qg (jk _ _ (fun _ => rfl)) rfl)) fun H b203 fz10 => ?_
 refine PL.nil (hK5 _ _ ?_)
 refine A3 1 f1 2 f2 3 (e_ (PV.pp 203 0 v203)) fun F f1 f2 f3 => ?_
 refine SR fun K11 hK11 => ?_
 refine Q1 _ (ja f2) ?_
 refine Q1 _ (ja (e_ (B x4.2))) ?_
 refine GT (S x4.1) rfl (e_ (B x4.2)) (fun hb => ja f1) ?_
 refine GT (B (x4.1.toList == (⟨#[98, 99]⟩ : ByteArray).toList)) rfl (e_ (B x4.2)) (fun hb => jh rfl (gvp hb (e_ (gv x4.2 (S x4.1)))) (e_ (S (⟨#[98, 99]⟩ : ByteArray))) (zde _ _)) ?_
 refine Q1 (B (x4.2 && (x4.1.toList == (⟨#[98, 99]⟩ : ByteArray).toList))) (vm (e_ (B x4.2)) (e_ (gv x4.2 (B (x4.1.toList == (⟨#[98, 99]⟩ : ByteArray).toList)))) rfl) ?_
 refine Q1 _ (ja (e_ (B (x4.2 && (x4.1.toList == (⟨#[98, 99]⟩ : ByteArray).toList))))) ?_
 refine GT (PV.pp 203 257 v203) rfl (e_ (B (x4.2 && (x4.1.toList == (⟨#[98, 99]⟩ : ByteArray).toList)))) (fun hb => yz qy j8 (by decide) f3 b203) ?_
 refine GT (qk x7.jd) rfl (e_ (B (x4.2 && (x4.1.toList == (⟨#[98, 99]⟩ : ByteArray).toList)))) (fun hb => vz j8 (gvp hb (e_ (gv (x4.2 && (x4.1.toList == (⟨#[98, 99]⟩ : ByteArray).toList)) (PV.pp 203 257 v203)))) b203 (zja (m := 256) (i := 1) (jk _ _ (fun _ => rfl)) rfl)) ?_
 refine GT (I (x7.jd.length : Int)) rfl (e_ (B (x4.2 && (x4.1.toList == (⟨#[98, 99]⟩ : ByteArray).toList)))) (fun hb => qh (rep := slI) (xs := x7.jd) qv (gvp hb (e_ (gv (x4.2 && (x4.1.toList == (⟨#[98, 99]⟩ : ByteArray).toList)) (qk x7.jd))))) ?_
 refine GT (B (decide ((x7.jd.length : Int) = 2))) rfl (e_ (B (x4.2 && (x4.1.toList == (⟨#[98, 99]⟩ : ByteArray).toList)))) (fun hb => jh rfl (gvp hb (e_ (gv (x4.2 && (x4.1.toList == (⟨#[98, 99]⟩ : ByteArray).toList)) (I (x7.jd.length : Int))))) (e_ (I 2)) j9) ?_
 refine Q1 (B ((x4.2 && (x4.1.toList == (⟨#[98, 99]⟩ : ByteArray).toList)) && (decide ((x7.jd.length : Int) = 2)))) (vm (e_ (B (x4.2 && (x4.1.toList == (⟨#[98, 99]⟩ : ByteArray).toList)))) (e_ (gv (x4.2 && (x4.1.toList == (⟨#[98, 99]⟩ : ByteArray).toList)) (B (decide ((x7.jd.length : Int) = 2))))) rfl) ?_
 refine Q1 _ (ja (e_ (B ((x4.2 && (x4.1.toList == (⟨#[98, 99]⟩ : ByteArray).toList)) && (decide ((x7.jd.length : Int) = 2)))))) ?_
 refine GT (jc (⟨x7.jp, x7.ji, x7.jd, x7.jj⟩ : je)) rfl (e_ (B ((x4.2 && (x4.1.toList == (⟨#[98, 99]⟩ : ByteArray).toList)) && (decide ((x7.jd.length : Int) = 2))))) (fun hb => vz yc f3 b203 (yp (qe (⟨x7.jp, x7.ji, x7.jd, x7.jj⟩ : je)))) ?_
 obtain ⟨x12, hx12, h0⟩ := bs h0
 refine GTq (slI x12) rfl (e_ (B ((x4.2 && (x4.1.toList == (⟨#[98, 99]⟩ : ByteArray).toList)) && (decide ((x7.jd.length : Int) = 2))))) (fun hb => j3 (by kernel_rfl) (am (gvp hb (e_ (gv ((x4.2 && (x4.1.toList == (⟨#[98, 99]⟩ : ByteArray).toList)) && (decide ((x7.jd.length : Int) = 2))) (jc (⟨x7.jp, x7.ji, x7.jd, x7.jj⟩ : je))))) (am0)) (ju (qa _) (j6)) (Y3 (G.cond_pos hx12 hb))) ?_
 refine GTq (slI ([0] : List Int)) rfl (e_ (B ((x4.2 && (x4.1.toList == (⟨#[98, 99]⟩ : ByteArray).toList)) && (decide ((x7.jd.length : Int) = 2))))) (fun hb => yq (rep := I) (xs := [0]) qb rfl (by decide) (bm (e_ (I 0)) (bm0)) rfl rfl) ?_
 obtain ⟨x13, hx13, h0⟩ := bs h0
 refine GTq (B x13) rfl (e_ (B ((x4.2 && (x4.1.toList == (⟨#[98, 99]⟩ : ByteArray).toList)) && (decide ((x7.jd.length : Int) = 2))))) (fun hb => j3 (by kernel_rfl) (am (gvp hb (e_ (gv ((x4.2 && (x4.1.toList == (⟨#[98, 99]⟩ : ByteArray).toList)) && (decide ((x7.jd.length : Int) = 2))) (slI x12)))) (am (gvp hb (e_ (gv ((x4.2 && (x4.1.toList == (⟨#[98, 99]⟩ : ByteArray).toList)) && (decide ((x7.jd.length : Int) = 2))) (slI ([0] : List Int))))) (am0))) (ju (vt _) (ju (vt _) (j6))) (Zp (G.cond_pos hx13 hb))) ?_
 refine Q1 (B (((x4.2 && (x4.1.toList == (⟨#[98, 99]⟩ : ByteArray).toList)) && (decide ((x7.jd.length : Int) = 2))) && x13)) (vm (e_ (B ((x4.2 && (x4.1.toList == (⟨#[98, 99]⟩ : ByteArray).toList)) && (decide ((x7.jd.length : Int) = 2))))) (e_ (gv ((x4.2 && (x4.1.toList == (⟨#[98, 99]⟩ : ByteArray).toList)) && (decide ((x7.jd.length : Int) = 2))) (B x13))) rfl) ?_
 refine Q1 _ (jf (e_ (B (((x4.2 && (x4.1.toList == (⟨#[98, 99]⟩ : ByteArray).toList)) && (decide ((x7.jd.length : Int) = 2))) && x13)))) ?_
 refine PL.nil (hK11 _ _ ?_)
 refine A1 0 (e_ (B (((x4.2 && (x4.1.toList == (⟨#[98, 99]⟩ : ByteArray).toList)) && (decide ((x7.jd.length : Int) = 2))) && x13))) fun F f0 => ?_
 refine PC.ret ?_
 have h0 := pz h0
 subst h0
 exact fin (.inr rfl) (qc Tryz.results6 f0) (.u _)
def Q8 (a0 : (Arr 256 Int)) : G Bool :=
  G.bind (G.loop (σ := (Int × Int)) (α := Unit ⊕ Bool) (fun (x7, x8) => G.cond (decide (x8 < 256)) (G.bind (α := Int ⊕ Bool) (G.bind (G.lift (idx a0.1 x8)) fun x22 => G.cond (decide (x7 < (w64 x22))) (G.pure (.inr false)) (G.bind (G.lift (idx a0.1 x8)) fun x26 => G.cond (decide ((w64 x26) = x7)) (G.pure (.inl (w64 (x7 + 1)))) (G.pure (.inl x7)))) fun o => match o with | .inl x19 => G.pure (.inl (x19, (w64 (x8 + 1)))) | .inr r28 => G.pure (.inr (.inr r28))) (G.pure (.inr (.inl ())))) (0, 0)) fun o => match o with | .inl () => G.pure true | .inr r32 => G.pure r32
theorem zgp {nn : Nat} {a0 : (Arr 256 Int)} {r : Bool} (h0 : Q8 a0 nn = some r) : PCall Tryz.prog 38 [(arV (n := 256) U8) a0] (· = B r) := by
 unfold Q8 at h0
 refine PCall.intro' Tryz.func38 rfl Tryz.ntmps38 (by simp) fun W => ?_
 refine A1 0 (e_ ((arV (n := 256) U8) a0)) fun F f0 => ?_
 generalize PHeap.empty = H
 refine SR fun K1 hK1 => ?_
 refine Q3 (PV.rp ((arV (n := 256) U8) a0).cells) (zw f0 (yd _ _ _ (fun _ => rfl))) ?_
 refine Q1 _ (jf (e_ (B false))) ?_
 refine PL.nil (hK1 _ _ ?_)
 refine A1 1 (e_ (PV.rp ((arV (n := 256) U8) a0).cells)) fun F f1 => ?_
 refine SR fun K2 hK2 => ?_
 refine Q1 _ (jf (e_ (I 0))) ?_
 refine PL.nil (hK2 _ _ ?_)
 refine A2 1 f1 3 (e_ (I 0)) fun F f1 f3 => ?_
 refine PC.seq fun K3 hK3 => ?_
 refine SR fun K4 hK4 => ?_
 refine Q1 _ (jf (e_ (I 0))) ?_
 refine PL.nil (hK4 _ _ ?_)
 refine A3 1 f1 3 f3 4 (e_ (I 0)) fun F f1 f3 f4 => ?_
 refine PC.block ?_
 obtain ⟨o9, ho9, h0⟩ := bs h0
 obtain ⟨B10, hB10, ho9⟩ := G.loop_some ho9
 refine PC.loop (fun m13 F H => ∃ s33 : (Int × Int), qt B10 m13 s33 = some o9 ∧ F 1 = (PV.rp ((arV (n := 256) U8) a0).cells) ∧ F 3 = (I s33.1) ∧ F 4 = (I s33.2)) (m := nn) ⟨(0, 0), ho9, f1, f3, f4⟩ fun m13 F H hI => ?_
 obtain ⟨⟨x7, x8⟩, ho9, f1, f3, f4⟩ := hI
 obtain ⟨m13, rfl, st11, hs12, ho9⟩ := jx ho9
 rw [hB10] at hs12
 try dsimp only at hs12
 refine PC.seq fun K14 hK14 => ?_
 refine SR fun K15 hK15 => ?_
 refine Q1 _ (ja f4) ?_
 refine Q1 _ (jh rfl (e_ (I x8)) (e_ (I 256)) jw) ?_
 refine PL.nil (hK15 _ _ ?_)
 refine A4 1 f1 3 f3 4 f4 6 (e_ (B (decide (x8 < 256)))) fun F f1 f3 f4 f6 => ?_
 rcases cz hs12 with ⟨hb16, hs12⟩ | ⟨hb16, hs12⟩
 refine PC.condTb f6 hb16 ?_
 refine PC.skip ?_
 refine hK14 _ _ ?_
 refine A3 1 f1 3 f3 4 f4 fun F f1 f3 f4 => ?_
 obtain ⟨o18, ho18, hs12⟩ := bs hs12
 refine PC.seqM (fun F H => ∃ s29 : Int, o18 = .inl s29 ∧ F 1 = (PV.rp ((arV (n := 256) U8) a0).cells) ∧ F 3 = (I s29) ∧ F 4 = (I x8)) ?_ ?_
 refine PC.block ?_
 refine PC.seq fun K20 hK20 => ?_
 refine SR fun K21 hK21 => ?_
 refine Q1 _ (ja f4) ?_
 obtain ⟨x22, hx22, ho18⟩ := bs ho18
 refine Q1 (PV.rp (((arV (n := 256) U8) a0).cells.drop ((x8 : Int).toNat * 1))) (zc9 (rep := U8) (a := a0) Zu f1 (e_ (I x8)) hx22) ?_
 refine Q1 (U8 x22) (jz za0 (e_ (PV.rp (((arV (n := 256) U8) a0).cells.drop ((x8 : Int).toNat * 1)))) (zcz hx22)) ?_
 refine Q1 (I (w64 x22)) (Jl (by kernel_rfl) (by kernel_rfl) (e_ (U8 x22))) ?_
 refine Q1 _ (ja f3) ?_
 refine Q1 _ (jh rfl (e_ (I (w64 x22))) (e_ (I x7)) Q5) ?_
 refine PL.nil (hK21 _ _ ?_)
 refine A4 1 f1 3 f3 4 f4 14 (e_ (B (decide (x7 < (w64 x22))))) fun F f1 f3 f4 f14 => ?_
 rcases cz ho18 with ⟨hb23, ho18⟩ | ⟨hb23, ho18⟩
 refine PC.condTb f14 hb23 ?_
 refine SR fun K24 hK24 => ?_
 refine Q1 _ (jf (e_ (B false))) ?_
 refine PL.nil (hK24 _ _ ?_)
 refine A1 2 (e_ (B false)) fun F f2 => ?_
 have ho18 := pz ho18
 subst ho18
 try dsimp only at hs12
 have hs12 := pz hs12
 subst hs12
 try dsimp only at ho9
 subst ho9
 try dsimp only at h0
 refine PC.ret ?_
 have h0 := pz h0
 subst h0
 exact fin (.inr rfl) (qc Tryz.results38 f2) (.u _)
 refine PC.condFb f14 hb23 ?_
 refine PC.skip ?_
 refine hK20 _ _ ?_
 refine A3 1 f1 3 f3 4 f4 fun F f1 f3 f4 => ?_
 refine SR fun K25 hK25 => ?_
 refine Q1 _ (ja f4) ?_
 obtain ⟨x26, hx26, ho18⟩ := bs ho18
 refine Q1 (PV.rp (((arV (n := 256) U8) a0).cells.drop ((x8 : Int).toNat * 1))) (zc9 (rep := U8) (a := a0) Zu f1 (e_ (I x8)) hx26) ?_
 refine Q1 (U8 x26) (jz za0 (e_ (PV.rp (((arV (n := 256) U8) a0).cells.drop ((x8 : Int).toNat * 1)))) (zcz hx26)) ?_
 refine Q1 (I (w64 x26)) (Jl (by kernel_rfl) (by kernel_rfl) (e_ (U8 x26))) ?_
 refine Q1 _ (ja f3) ?_
 refine Q1 _ (jh rfl (e_ (I (w64 x26))) (e_ (I x7)) j9) ?_
 refine PL.nil (hK25 _ _ ?_)
 refine A4 1 f1 3 f3 4 f4 20 (e_ (B (decide ((w64 x26) = x7)))) fun F f1 f3 f4 f20 => ?_
 rcases cz ho18 with ⟨hb27, ho18⟩ | ⟨hb27, ho18⟩
 refine PC.condTb f20 hb27 ?_
 refine PC.region ?_
 refine Q1 _ (ja f3) ?_
 refine Q1 _ (jh rfl (e_ (I x7)) (e_ (I 1)) j4) ?_
 refine Q1 _ (jf (e_ (I (w64 (x7 + 1))))) ?_
 refine PL.nil ?_
 have ho18 := pz ho18
 subst ho18
 exact ⟨(w64 (x7 + 1)), rfl, f1, (e_ (I (w64 (x7 + 1)))), f4⟩
 refine PC.condFb f20 hb27 ?_
 refine PC.skip ?_
 have ho18 := pz ho18
 subst ho18
 exact ⟨x7, rfl, f1, f3, f4⟩
 intro F H hI
 obtain ⟨x19, ho, f1, f3, f4⟩ := hI
 have ho := ho.symm
 subst ho
 try dsimp only at hs12
 refine PC.region ?_
 refine Q1 _ (ja f4) ?_
 refine Q1 _ (jh rfl (e_ (I x8)) (e_ (I 1)) j4) ?_
 refine Q1 _ (jf (e_ (I (w64 (x8 + 1))))) ?_
 refine PL.nil ?_
 have hs12 := pz hs12
 subst hs12
 exact ⟨m13, Nat.lt_succ_self _, (x19, (w64 (x8 + 1))), ho9, f1, f3, (e_ (I (w64 (x8 + 1))))⟩
 refine PC.condFb f6 hb16 ?_
 refine PC.exit ?_
 have hs12 := pz hs12
 subst hs12
 try dsimp only at ho9
 subst ho9
 try dsimp only at h0
 refine hK3 _ _ ?_
 refine PC.absF (fun F => True) trivial ?_
 intro F hI
 clear hI
 refine SR fun K30 hK30 => ?_
 refine Q1 _ (jf (e_ (B true))) ?_
 refine PL.nil (hK30 _ _ ?_)
 refine A1 2 (e_ (B true)) fun F f2 => ?_
 refine PC.ret ?_
 have h0 := pz h0
 subst h0
 exact fin (.inr rfl) (qc Tryz.results38 f2) (.u _)
def Qc (a0 : (Arr 256 Int)) : G Int :=
  G.bind (G.loop (σ := (Int × Int)) (α := Int) (fun (x7, x8) => G.cond (decide (x8 < 256)) (G.bind (G.lift (idx a0.1 x8)) fun x18 => G.pure (.inl ((max x7 (w64 ((w64 x18) + 1))), (w64 (x8 + 1))))) (G.pure (.inr x7))) (0, 0)) fun x20 => G.pure x20
theorem zgq {nn : Nat} {a0 : (Arr 256 Int)} {r : Int} (h0 : Qc a0 nn = some r) : PCall Tryz.prog 39 [(arV (n := 256) U8) a0] (· = I r) := by
 unfold Qc at h0
 refine PCall.intro' Tryz.func39 rfl Tryz.ntmps39 (by simp) fun W => ?_
 refine A1 0 (e_ ((arV (n := 256) U8) a0)) fun F f0 => ?_
 generalize PHeap.empty = H
 refine SR fun K1 hK1 => ?_
 refine Q3 (PV.rp ((arV (n := 256) U8) a0).cells) (zw f0 (yd _ _ _ (fun _ => rfl))) ?_
 refine Q1 _ (jf (e_ (I 0))) ?_
 refine PL.nil (hK1 _ _ ?_)
 refine A1 1 (e_ (PV.rp ((arV (n := 256) U8) a0).cells)) fun F f1 => ?_
 refine SR fun K2 hK2 => ?_
 refine Q1 _ (jf (e_ (I 0))) ?_
 refine PL.nil (hK2 _ _ ?_)
 refine A2 1 f1 3 (e_ (I 0)) fun F f1 f3 => ?_
 refine PC.seq fun K3 hK3 => ?_
 refine SR fun K4 hK4 => ?_
 refine Q1 _ (jf (e_ (I 0))) ?_
 refine PL.nil (hK4 _ _ ?_)
 refine A3 1 f1 3 f3 4 (e_ (I 0)) fun F f1 f3 f4 => ?_
 refine PC.block ?_
 obtain ⟨o9, ho9, h0⟩ := bs h0
 obtain ⟨B10, hB10, ho9⟩ := G.loop_some ho9
 refine PC.loop (fun m13 F H => ∃ s22 : (Int × Int), qt B10 m13 s22 = some o9 ∧ F 1 = (PV.rp ((arV (n := 256) U8) a0).cells) ∧ F 3 = (I s22.1) ∧ F 4 = (I s22.2)) (m := nn) ⟨(0, 0), ho9, f1, f3, f4⟩ fun m13 F H hI => ?_
 obtain ⟨⟨x7, x8⟩, ho9, f1, f3, f4⟩ := hI
 obtain ⟨m13, rfl, st11, hs12, ho9⟩ := jx ho9
 rw [hB10] at hs12
 try dsimp only at hs12
 refine PC.seq fun K14 hK14 => ?_
 refine SR fun K15 hK15 => ?_
 refine Q1 _ (ja f4) ?_
 refine Q1 _ (jh rfl (e_ (I x8)) (e_ (I 256)) jw) ?_
 refine PL.nil (hK15 _ _ ?_)
 refine A4 1 f1 3 f3 4 f4 6 (e_ (B (decide (x8 < 256)))) fun F f1 f3 f4 f6 => ?_
 rcases cz hs12 with ⟨hb16, hs12⟩ | ⟨hb16, hs12⟩
 refine PC.condTb f6 hb16 ?_
 refine PC.skip ?_
 refine hK14 _ _ ?_
 refine A3 1 f1 3 f3 4 f4 fun F f1 f3 f4 => ?_
 refine PC.seq fun K17 hK17 => ?_
 refine PC.block ?_
 refine PC.region ?_
 refine Q1 _ (ja f3) ?_
 refine Q1 _ (ja f4) ?_
 obtain ⟨x18, hx18, hs12⟩ := bs hs12
 refine Q1 (PV.rp (((arV (n := 256) U8) a0).cells.drop ((x8 : Int).toNat * 1))) (zc9 (rep := U8) (a := a0) Zu f1 (e_ (I x8)) hx18) ?_
 refine Q1 (U8 x18) (jz za0 (e_ (PV.rp (((arV (n := 256) U8) a0).cells.drop ((x8 : Int).toNat * 1)))) (zcz hx18)) ?_
 refine Q1 (I (w64 x18)) (Jl (by kernel_rfl) (by kernel_rfl) (e_ (U8 x18))) ?_
 refine Q1 _ (jh rfl (e_ (I (w64 x18))) (e_ (I 1)) j4) ?_
 refine Q1 (I (max x7 (w64 ((w64 x18) + 1)))) (zog (e_ (I x7)) (e_ (I (w64 ((w64 x18) + 1))))) ?_
 refine Q1 _ (jf (e_ (I (max x7 (w64 ((w64 x18) + 1)))))) ?_
 refine PL.nil (hK17 _ _ ?_)
 refine A3 1 f1 3 (e_ (I (max x7 (w64 ((w64 x18) + 1))))) 4 f4 fun F f1 f3 f4 => ?_
 refine PC.region ?_
 refine Q1 _ (ja f4) ?_
 refine Q1 _ (jh rfl (e_ (I x8)) (e_ (I 1)) j4) ?_
 refine Q1 _ (jf (e_ (I (w64 (x8 + 1))))) ?_
 refine PL.nil ?_
 have hs12 := pz hs12
 subst hs12
 exact ⟨m13, Nat.lt_succ_self _, ((max x7 (w64 ((w64 x18) + 1))), (w64 (x8 + 1))), ho9, f1, f3, (e_ (I (w64 (x8 + 1))))⟩
 refine PC.condFb f6 hb16 ?_
 refine PC.exit ?_
 have hs12 := pz hs12
 subst hs12
 try dsimp only at ho9
 subst ho9
 try dsimp only at h0
 refine hK3 _ _ ?_
 refine A1 3 f3 fun F f3 => ?_
 refine SR fun K19 hK19 => ?_
 refine Q1 _ (ja f3) ?_
 refine Q1 _ (jf (e_ (I x7))) ?_
 refine PL.nil (hK19 _ _ ?_)
 refine A1 2 (e_ (I x7)) fun F f2 => ?_
 refine PC.ret ?_
 have h0 := pz h0
 subst h0
 exact fin (.inr rfl) (qc Tryz.results39 f2) (.u _)
def Jh (a0 : je) : G Bool :=
  G.bind (Q8 a0.jp) fun x4 => G.bind (G.cond (!(!x4)) (Qc a0.jp) (G.pure 0)) fun x5 => G.cond ((((!x4) || (decide (¬ a0.ji = x5))) || (decide ((a0.jd.length : Int) = 0))) || (decide (¬ (a0.jj.length : Int) = (a0.jd.length : Int)))) (G.pure false) (G.bind (G.loop (σ := Int) (α := Unit ⊕ Bool) (fun x11 => G.cond (decide (x11 < (a0.jd.length : Int))) (G.bind (G.lift (idx a0.jd x11)) fun x23 => G.bind (G.cond (!(decide (¬ (x23.length : Int) = a0.ji))) (G.lift (idx a0.jj x11)) (G.pure 0)) fun x24 => G.cond ((decide (¬ (x23.length : Int) = a0.ji)) || (decide (x24 < (-1)))) (G.pure (.inr (.inr false))) (G.bind (G.loop (σ := Int) (α := Unit ⊕ Bool) (fun x29 => G.cond (decide (x29 < a0.ji)) (G.bind (G.lift (idx a0.jd x11)) fun x40 => G.bind (G.lift (idx x40 x29)) fun x41 => G.bind (G.cond (!(decide (x41 < (-1)))) (G.lift (idx a0.jd x11)) (G.pure [])) fun x42 => G.bind (G.cond (!(decide (x41 < (-1)))) (G.lift (idx x42 x29)) (G.pure 0)) fun x43 => G.cond ((decide (x41 < (-1))) || (decide ((a0.jd.length : Int) ≤ x43))) (G.pure (.inr (.inr false))) (G.pure (.inl (w64 (x29 + 1))))) (G.pure (.inr (.inl ())))) 0) fun o => match o with | .inl () => G.pure (.inl (w64 (x11 + 1))) | .inr r46 => G.pure (.inr (.inr r46)))) (G.pure (.inr (.inl ())))) 0) fun o => match o with | .inl () => G.pure true | .inr r50 => G.pure r50)
theorem zbt {nn : Nat} {a0 : je} {r : Bool} (h0 : Jh a0 nn = some r) : PCall Tryz.prog 26 [jc a0] (· = B r) := by
 unfold Jh at h0
 refine PCall.intro' Tryz.func26 rfl Tryz.ntmps26 (by simp) fun W => ?_
 refine A1 0 (e_ (jc a0)) fun F f0 => ?_
 generalize PHeap.empty = H
 refine SR fun K1 hK1 => ?_
 refine Q3 (PV.rp (jc a0).cells) (zw f0 (qx _ _)) ?_
 refine Q1 _ (jf (e_ (B false))) ?_
 refine PL.nil (hK1 _ _ ?_)
 refine A1 1 (e_ (PV.rp (jc a0).cells)) fun F f1 => ?_
 refine PC.seq fun K2 hK2 => ?_
 refine PC.seq fun K3 hK3 => ?_
 refine PC.regionQ mixed (by kernel_rfl) ?_
 refine Q2 (PV.rp ((jc a0).cells.drop 0)) (j5 Vw y5 (by decide) f1) ?_
 refine Q2 ((arV (n := 256) U8) a0.jp) (jz y5 (e_ (PV.rp ((jc a0).cells.drop 0))) (zr a0)) ?_
 obtain ⟨x4, hx4, h0⟩ := bs h0
 refine Q4 (B x4) (j3 (by kernel_rfl) (am (e_ ((arV (n := 256) U8) a0.jp)) (am0)) (ju (vg _ (fun _ => (.u _))) (j6)) (zgp hx4)) ?_
 refine Q2 (B (!x4)) (yn (e_ (B x4))) ?_
 refine Q2 _ (ja (e_ (B (!x4)))) ?_
 refine HF_ (PV.rp ((jc a0).cells.drop 256)) rfl (e_ (B (!x4))) (fun hb => j5 J5 qu (by decide) f1) ?_
 refine HF_ (I a0.ji) rfl (e_ (B (!x4))) (fun hb => jz qu (gvp hb (e_ (gv (!(!x4)) (PV.rp ((jc a0).cells.drop 256))))) (yv a0)) ?_
 refine HF_ (PV.rp ((jc a0).cells.drop 0)) rfl (e_ (B (!x4))) (fun hb => j5 Vw y5 (by decide) f1) ?_
 refine HF_ ((arV (n := 256) U8) a0.jp) rfl (e_ (B (!x4))) (fun hb => jz y5 (gvp hb (e_ (gv (!(!x4)) (PV.rp ((jc a0).cells.drop 0))))) (zr a0)) ?_
 obtain ⟨x5, hx5, h0⟩ := bs h0
 refine HFq (I x5) rfl (e_ (B (!x4))) (fun hb => j3 (by kernel_rfl) (am (gvp hb (e_ (gv (!(!x4)) ((arV (n := 256) U8) a0.jp)))) (am0)) (ju (vg _ (fun _ => (.u _))) (j6)) (zgq (G.cond_pos hx5 hb))) ?_
 refine HF_ (B (decide (¬ a0.ji = x5))) rfl (e_ (B (!x4))) (fun hb => jh rfl (gvp hb (e_ (gv (!(!x4)) (I a0.ji)))) (gvp hb (e_ (gv (!(!x4)) (I x5)))) yi) ?_
 refine Q2 (B ((!x4) || (decide (¬ a0.ji = x5)))) (yj (e_ (B (!x4))) rfl (e_ (gv (!(!x4)) (B (decide (¬ a0.ji = x5)))))) ?_
 refine Q2 _ (ja (e_ (B ((!x4) || (decide (¬ a0.ji = x5)))))) ?_
 refine HF_ (PV.rp ((jc a0).cells.drop 257)) rfl (e_ (B ((!x4) || (decide (¬ a0.ji = x5))))) (fun hb => j5 qy j8 (by decide) f1) ?_
 refine HF_ (qk a0.jd) rfl (e_ (B ((!x4) || (decide (¬ a0.ji = x5))))) (fun hb => jz j8 (gvp hb (e_ (gv (!((!x4) || (decide (¬ a0.ji = x5)))) (PV.rp ((jc a0).cells.drop 257))))) (j7 a0)) ?_
 refine HF_ (I (a0.jd.length : Int)) rfl (e_ (B ((!x4) || (decide (¬ a0.ji = x5))))) (fun hb => qh (rep := slI) (xs := a0.jd) qv (gvp hb (e_ (gv (!((!x4) || (decide (¬ a0.ji = x5)))) (qk a0.jd))))) ?_
 refine HF_ (B (decide ((a0.jd.length : Int) = 0))) rfl (e_ (B ((!x4) || (decide (¬ a0.ji = x5))))) (fun hb => jh rfl (gvp hb (e_ (gv (!((!x4) || (decide (¬ a0.ji = x5)))) (I (a0.jd.length : Int))))) (e_ (I 0)) j9) ?_
 refine Q2 (B (((!x4) || (decide (¬ a0.ji = x5))) || (decide ((a0.jd.length : Int) = 0)))) (yj (e_ (B ((!x4) || (decide (¬ a0.ji = x5))))) rfl (e_ (gv (!((!x4) || (decide (¬ a0.ji = x5)))) (B (decide ((a0.jd.length : Int) = 0)))))) ?_
 refine Q2 _ (ja (e_ (B (((!x4) || (decide (¬ a0.ji = x5))) || (decide ((a0.jd.length : Int) = 0)))))) ?_
 refine HF_ (PV.rp ((jc a0).cells.drop 258)) rfl (e_ (B (((!x4) || (decide (¬ a0.ji = x5))) || (decide ((a0.jd.length : Int) = 0))))) (fun hb => j5 zg ql (by decide) f1) ?_
 refine HF_ (slI a0.jj) rfl (e_ (B (((!x4) || (decide (¬ a0.ji = x5))) || (decide ((a0.jd.length : Int) = 0))))) (fun hb => jz ql (gvp hb (e_ (gv (!(((!x4) || (decide (¬ a0.ji = x5))) || (decide ((a0.jd.length : Int) = 0)))) (PV.rp ((jc a0).cells.drop 258))))) (yg a0)) ?_
 refine HF_ (I (a0.jj.length : Int)) rfl (e_ (B (((!x4) || (decide (¬ a0.ji = x5))) || (decide ((a0.jd.length : Int) = 0))))) (fun hb => qh (rep := I) (xs := a0.jj) qm (gvp hb (e_ (gv (!(((!x4) || (decide (¬ a0.ji = x5))) || (decide ((a0.jd.length : Int) = 0)))) (slI a0.jj))))) ?_
 refine HF_ (PV.rp ((jc a0).cells.drop 257)) rfl (e_ (B (((!x4) || (decide (¬ a0.ji = x5))) || (decide ((a0.jd.length : Int) = 0))))) (fun hb => j5 qy j8 (by decide) f1) ?_
 refine HF_ (qk a0.jd) rfl (e_ (B (((!x4) || (decide (¬ a0.ji = x5))) || (decide ((a0.jd.length : Int) = 0))))) (fun hb => jz j8 (gvp hb (e_ (gv (!(((!x4) || (decide (¬ a0.ji = x5))) || (decide ((a0.jd.length : Int) = 0)))) (PV.rp ((jc a0).cells.drop 257))))) (j7 a0)) ?_
 refine HF_ (I (a0.jd.length : Int)) rfl (e_ (B (((!x4) || (decide (¬ a0.ji = x5))) || (decide ((a0.jd.length : Int) = 0))))) (fun hb => qh (rep := slI) (xs := a0.jd) qv (gvp hb (e_ (gv (!(((!x4) || (decide (¬ a0.ji = x5))) || (decide ((a0.jd.length : Int) = 0)))) (qk a0.jd))))) ?_
 refine HF_ (B (decide (¬ (a0.jj.length : Int) = (a0.jd.length : Int)))) rfl (e_ (B (((!x4) || (decide (¬ a0.ji = x5))) || (decide ((a0.jd.length : Int) = 0))))) (fun hb => jh rfl (gvp hb (e_ (gv (!(((!x4) || (decide (¬ a0.ji = x5))) || (decide ((a0.jd.length : Int) = 0)))) (I (a0.jj.length : Int))))) (gvp hb (e_ (gv (!(((!x4) || (decide (¬ a0.ji = x5))) || (decide ((a0.jd.length : Int) = 0)))) (I (a0.jd.length : Int))))) yi) ?_
 refine Q2 (B ((((!x4) || (decide (¬ a0.ji = x5))) || (decide ((a0.jd.length : Int) = 0))) || (decide (¬ (a0.jj.length : Int) = (a0.jd.length : Int))))) (yj (e_ (B (((!x4) || (decide (¬ a0.ji = x5))) || (decide ((a0.jd.length : Int) = 0))))) rfl (e_ (gv (!(((!x4) || (decide (¬ a0.ji = x5))) || (decide ((a0.jd.length : Int) = 0)))) (B (decide (¬ (a0.jj.length : Int) = (a0.jd.length : Int))))))) ?_
 refine QF.nil ?_
 refine hK3 _ _ ?_
 refine A2 1 f1 31 (e_ (B ((((!x4) || (decide (¬ a0.ji = x5))) || (decide ((a0.jd.length : Int) = 0))) || (decide (¬ (a0.jj.length : Int) = (a0.jd.length : Int)))))) fun F f1 f31 => ?_
 rcases cz h0 with ⟨hb6, h0⟩ | ⟨hb6, h0⟩
 refine PC.condTb f31 hb6 ?_
 refine SR fun K7 hK7 => ?_
 refine Q1 _ (jf (e_ (B false))) ?_
 refine PL.nil (hK7 _ _ ?_)
 refine A1 2 (e_ (B false)) fun F f2 => ?_
 refine PC.ret ?_
 have h0 := pz h0
 subst h0
 exact fin (.inr rfl) (qc Tryz.results26 f2) (.u _)
 refine PC.condFb f31 hb6 ?_
 refine PC.skip ?_
 refine hK2 _ _ ?_
 refine A1 1 f1 fun F f1 => ?_
 refine PC.seq fun K8 hK8 => ?_
 refine SR fun K9 hK9 => ?_
 refine Q1 _ (jf (e_ (I 0))) ?_
 refine PL.nil (hK9 _ _ ?_)
 refine A2 1 f1 3 (e_ (I 0)) fun F f1 f3 => ?_
 refine PC.block ?_
 obtain ⟨o12, ho12, h0⟩ := bs h0
 obtain ⟨B13, hB13, ho12⟩ := G.loop_some ho12
 refine PC.loop (fun m16 F H => ∃ s51 : Int, qt B13 m16 s51 = some o12 ∧ F 1 = (PV.rp (jc a0).cells) ∧ F 3 = (I s51)) (m := nn) ⟨0, ho12, f1, f3⟩ fun m16 F H hI => ?_
 obtain ⟨x11, ho12, f1, f3⟩ := hI
 obtain ⟨m16, rfl, st14, hs15, ho12⟩ := jx ho12
 rw [hB13] at hs15
 try dsimp only at hs15
 refine PC.seq fun K17 hK17 => ?_
 refine SR fun K18 hK18 => ?_
 refine Q1 _ (ja f3) ?_
 refine Q1 (PV.rp ((jc a0).cells.drop 257)) (j5 qy j8 (by decide) f1) ?_
 refine Q1 (qk a0.jd) (jz j8 (e_ (PV.rp ((jc a0).cells.drop 257))) (j7 a0)) ?_
 refine Q1 (I (a0.jd.length : Int)) (qh (rep := slI) (xs := a0.jd) qv (e_ (qk a0.jd))) ?_
 refine Q1 _ (jh rfl (e_ (I x11)) (e_ (I (a0.jd.length : Int))) jw) ?_
 refine PL.nil (hK18 _ _ ?_)
 refine A3 1 f1 3 f3 36 (e_ (B (decide (x11 < (a0.jd.length : Int))))) fun F f1 f3 f36 => ?_
 rcases cz hs15 with ⟨hb19, hs15⟩ | ⟨hb19, hs15⟩
 refine PC.condTb f36 hb19 ?_
 refine PC.skip ?_
 refine hK17 _ _ ?_
 refine A2 1 f1 3 f3 fun F f1 f3 => ?_
 refine PC.seq fun K20 hK20 => ?_
 refine PC.block ?_
 refine PC.seq fun K21 hK21 => ?_
 refine PC.seq fun K22 hK22 => ?_
 refine PC.regionQ mixed (by kernel_rfl) ?_
 refine Q2 (PV.rp ((jc a0).cells.drop 257)) (j5 qy j8 (by decide) f1) ?_
 refine Q2 (qk a0.jd) (jz j8 (e_ (PV.rp ((jc a0).cells.drop 257))) (j7 a0)) ?_
 refine Q2 _ (ja f3) ?_
 obtain ⟨x23, hx23, hs15⟩ := bs hs15
 refine Q2 (PV.rp (slI x23).cells) (j0 (rep := slI) (xs := a0.jd) Jy (e_ (qk a0.jd)) (e_ (I x11)) hx23) ?_
 refine Q2 (slI x23) (qn ql (e_ (PV.rp (slI x23).cells))) ?_
 refine Q2 (I (x23.length : Int)) (qh (rep := I) (xs := x23) qm (e_ (slI x23))) ?_
 refine Q2 (PV.rp ((jc a0).cells.drop 256)) (j5 J5 qu (by decide) f1) ?_
 refine Q2 (I a0.ji) (jz qu (e_ (PV.rp ((jc a0).cells.drop 256))) (yv a0)) ?_
 refine Q2 _ (jh rfl (e_ (I (x23.length : Int))) (e_ (I a0.ji)) yi) ?_
 refine Q2 _ (ja (e_ (B (decide (¬ (x23.length : Int) = a0.ji))))) ?_
 refine HF_ (PV.rp ((jc a0).cells.drop 258)) rfl (e_ (B (decide (¬ (x23.length : Int) = a0.ji)))) (fun hb => j5 zg ql (by decide) f1) ?_
 refine HF_ (slI a0.jj) rfl (e_ (B (decide (¬ (x23.length : Int) = a0.ji)))) (fun hb => jz ql (gvp hb (e_ (gv (!(decide (¬ (x23.length : Int) = a0.ji))) (PV.rp ((jc a0).cells.drop 258))))) (yg a0)) ?_
 refine HF_ (I x11) rfl (e_ (B (decide (¬ (x23.length : Int) = a0.ji)))) (fun hb => ja f3) ?_
 obtain ⟨x24, hx24, hs15⟩ := bs hs15
 refine HF_ (PV.rp (I x24).cells) rfl (e_ (B (decide (¬ (x23.length : Int) = a0.ji)))) (fun hb => j0 (rep := I) (xs := a0.jj) q6 (gvp hb (e_ (gv (!(decide (¬ (x23.length : Int) = a0.ji))) (slI a0.jj)))) (gvp hb (e_ (gv (!(decide (¬ (x23.length : Int) = a0.ji))) (I x11)))) (G.cond_pos hx24 hb)) ?_
 refine HF_ (I x24) rfl (e_ (B (decide (¬ (x23.length : Int) = a0.ji)))) (fun hb => qn qu (gvp hb (e_ (gv (!(decide (¬ (x23.length : Int) = a0.ji))) (PV.rp (I x24).cells))))) ?_
 refine HF_ (B (decide (x24 < (-1)))) rfl (e_ (B (decide (¬ (x23.length : Int) = a0.ji)))) (fun hb => jh rfl (gvp hb (e_ (gv (!(decide (¬ (x23.length : Int) = a0.ji))) (I x24)))) (e_ (I (-1))) jw) ?_
 refine Q2 (B ((decide (¬ (x23.length : Int) = a0.ji)) || (decide (x24 < (-1))))) (yj (e_ (B (decide (¬ (x23.length : Int) = a0.ji)))) rfl (e_ (gv (!(decide (¬ (x23.length : Int) = a0.ji))) (B (decide (x24 < (-1))))))) ?_
 refine QF.nil ?_
 refine hK22 _ _ ?_
 refine A3 1 f1 3 f3 55 (e_ (B ((decide (¬ (x23.length : Int) = a0.ji)) || (decide (x24 < (-1)))))) fun F f1 f3 f55 => ?_
 rcases cz hs15 with ⟨hb25, hs15⟩ | ⟨hb25, hs15⟩
 refine PC.condTb f55 hb25 ?_
 refine SR fun K26 hK26 => ?_
 refine Q1 _ (jf (e_ (B false))) ?_
 refine PL.nil (hK26 _ _ ?_)
 refine A1 2 (e_ (B false)) fun F f2 => ?_
 have hs15 := pz hs15
 subst hs15
 try dsimp only at ho12
 subst ho12
 try dsimp only at h0
 refine PC.ret ?_
 have h0 := pz h0
 subst h0
 exact fin (.inr rfl) (qc Tryz.results26 f2) (.u _)
 refine PC.condFb f55 hb25 ?_
 refine PC.skip ?_
 refine hK21 _ _ ?_
 refine A2 1 f1 3 f3 fun F f1 f3 => ?_
 refine SR fun K27 hK27 => ?_
 refine Q1 _ (jf (e_ (I 0))) ?_
 refine PL.nil (hK27 _ _ ?_)
 refine A3 1 f1 3 f3 4 (e_ (I 0)) fun F f1 f3 f4 => ?_
 refine PC.block ?_
 obtain ⟨o30, ho30, hs15⟩ := bs hs15
 obtain ⟨B31, hB31, ho30⟩ := G.loop_some ho30
 refine PC.loop (fun m34 F H => ∃ s47 : Int, qt B31 m34 s47 = some o30 ∧ F 1 = (PV.rp (jc a0).cells) ∧ F 3 = (I x11) ∧ F 4 = (I s47)) (m := nn) ⟨0, ho30, f1, f3, f4⟩ fun m34 F H hI => ?_
 obtain ⟨x29, ho30, f1, f3, f4⟩ := hI
 obtain ⟨m34, rfl, st32, hs33, ho30⟩ := jx ho30
 rw [hB31] at hs33
 try dsimp only at hs33
 refine PC.seq fun K35 hK35 => ?_
 refine SR fun K36 hK36 => ?_
 refine Q1 _ (ja f4) ?_
 refine Q1 (PV.rp ((jc a0).cells.drop 256)) (j5 J5 qu (by decide) f1) ?_
 refine Q1 (I a0.ji) (jz qu (e_ (PV.rp ((jc a0).cells.drop 256))) (yv a0)) ?_
 refine Q1 _ (jh rfl (e_ (I x29)) (e_ (I a0.ji)) jw) ?_
 refine PL.nil (hK36 _ _ ?_)
 refine A4 1 f1 3 f3 4 f4 59 (e_ (B (decide (x29 < a0.ji)))) fun F f1 f3 f4 f59 => ?_
 rcases cz hs33 with ⟨hb37, hs33⟩ | ⟨hb37, hs33⟩
 refine PC.condTb f59 hb37 ?_
 refine PC.skip ?_
 refine hK35 _ _ ?_
 refine A3 1 f1 3 f3 4 f4 fun F f1 f3 f4 => ?_
 refine PC.seq fun K38 hK38 => ?_
 refine PC.block ?_
 refine PC.seq fun K39 hK39 => ?_
 refine PC.regionQ mixed (by kernel_rfl) ?_
 refine Q2 (PV.rp ((jc a0).cells.drop 257)) (j5 qy j8 (by decide) f1) ?_
 refine Q2 (qk a0.jd) (jz j8 (e_ (PV.rp ((jc a0).cells.drop 257))) (j7 a0)) ?_
 refine Q2 _ (ja f3) ?_
 obtain ⟨x40, hx40, hs33⟩ := bs hs33
 refine Q2 (PV.rp (slI x40).cells) (j0 (rep := slI) (xs := a0.jd) Jy (e_ (qk a0.jd)) (e_ (I x11)) hx40) ?_
 refine Q2 (slI x40) (qn ql (e_ (PV.rp (slI x40).cells))) ?_
 refine Q2 _ (ja f4) ?_
 obtain ⟨x41, hx41, hs33⟩ := bs hs33
 refine Q2 (PV.rp (I x41).cells) (j0 (rep := I) (xs := x40) q6 (e_ (slI x40)) (e_ (I x29)) hx41) ?_
 refine Q2 (I x41) (qn qu (e_ (PV.rp (I x41).cells))) ?_
 refine Q2 _ (jh rfl (e_ (I x41)) (e_ (I (-1))) jw) ?_
 refine Q2 _ (ja (e_ (B (decide (x41 < (-1)))))) ?_
 refine HF_ (PV.rp ((jc a0).cells.drop 257)) rfl (e_ (B (decide (x41 < (-1))))) (fun hb => j5 qy j8 (by decide) f1) ?_
 refine HF_ (qk a0.jd) rfl (e_ (B (decide (x41 < (-1))))) (fun hb => jz j8 (gvp hb (e_ (gv (!(decide (x41 < (-1)))) (PV.rp ((jc a0).cells.drop 257))))) (j7 a0)) ?_
 refine HF_ (I x11) rfl (e_ (B (decide (x41 < (-1))))) (fun hb => ja f3) ?_
 obtain ⟨x42, hx42, hs33⟩ := bs hs33
 refine HF_ (PV.rp (slI x42).cells) rfl (e_ (B (decide (x41 < (-1))))) (fun hb => j0 (rep := slI) (xs := a0.jd) Jy (gvp hb (e_ (gv (!(decide (x41 < (-1)))) (qk a0.jd)))) (gvp hb (e_ (gv (!(decide (x41 < (-1)))) (I x11)))) (G.cond_pos hx42 hb)) ?_
 refine HF_ (slI x42) rfl (e_ (B (decide (x41 < (-1))))) (fun hb => qn ql (gvp hb (e_ (gv (!(decide (x41 < (-1)))) (PV.rp (slI x42).cells))))) ?_
 refine HF_ (I x29) rfl (e_ (B (decide (x41 < (-1))))) (fun hb => ja f4) ?_
 obtain ⟨x43, hx43, hs33⟩ := bs hs33
 refine HF_ (PV.rp (I x43).cells) rfl (e_ (B (decide (x41 < (-1))))) (fun hb => j0 (rep := I) (xs := x42) q6 (gvp hb (e_ (gv (!(decide (x41 < (-1)))) (slI x42)))) (gvp hb (e_ (gv (!(decide (x41 < (-1)))) (I x29)))) (G.cond_pos hx43 hb)) ?_
 refine HF_ (I x43) rfl (e_ (B (decide (x41 < (-1))))) (fun hb => qn qu (gvp hb (e_ (gv (!(decide (x41 < (-1)))) (PV.rp (I x43).cells))))) ?_
 refine HF_ (PV.rp ((jc a0).cells.drop 257)) rfl (e_ (B (decide (x41 < (-1))))) (fun hb => j5 qy j8 (by decide) f1) ?_
 refine HF_ (qk a0.jd) rfl (e_ (B (decide (x41 < (-1))))) (fun hb => jz j8 (gvp hb (e_ (gv (!(decide (x41 < (-1)))) (PV.rp ((jc a0).cells.drop 257))))) (j7 a0)) ?_
 refine HF_ (I (a0.jd.length : Int)) rfl (e_ (B (decide (x41 < (-1))))) (fun hb => qh (rep := slI) (xs := a0.jd) qv (gvp hb (e_ (gv (!(decide (x41 < (-1)))) (qk a0.jd))))) ?_
 refine HF_ (B (decide ((a0.jd.length : Int) ≤ x43))) rfl (e_ (B (decide (x41 < (-1))))) (fun hb => jh rfl (gvp hb (e_ (gv (!(decide (x41 < (-1)))) (I x43)))) (gvp hb (e_ (gv (!(decide (x41 < (-1)))) (I (a0.jd.length : Int))))) v8) ?_
 refine Q2 (B ((decide (x41 < (-1))) || (decide ((a0.jd.length : Int) ≤ x43)))) (yj (e_ (B (decide (x41 < (-1))))) rfl (e_ (gv (!(decide (x41 < (-1)))) (B (decide ((a0.jd.length : Int) ≤ x43)))))) ?_
 refine QF.nil ?_
 refine hK39 _ _ ?_
 refine A4 1 f1 3 f3 4 f4 84 (e_ (B ((decide (x41 < (-1))) || (decide ((a0.jd.length : Int) ≤ x43))))) fun F f1 f3 f4 f84 => ?_
 rcases cz hs33 with ⟨hb44, hs33⟩ | ⟨hb44, hs33⟩
 refine PC.condTb f84 hb44 ?_
 refine SR fun K45 hK45 => ?_
 refine Q1 _ (jf (e_ (B false))) ?_
 refine PL.nil (hK45 _ _ ?_)
 refine A1 2 (e_ (B false)) fun F f2 => ?_
 have hs33 := pz hs33
 subst hs33
 try dsimp only at ho30
 subst ho30
 try dsimp only at hs15
 have hs15 := pz hs15
 subst hs15
 try dsimp only at ho12
 subst ho12
 try dsimp only at h0
 refine PC.ret ?_
 have h0 := pz h0
 subst h0
 exact fin (.inr rfl) (qc Tryz.results26 f2) (.u _)
 refine PC.condFb f84 hb44 ?_
 refine PC.skip ?_
 refine hK38 _ _ ?_
 refine A3 1 f1 3 f3 4 f4 fun F f1 f3 f4 => ?_
 refine PC.region ?_
 refine Q1 _ (ja f4) ?_
 refine Q1 _ (jh rfl (e_ (I x29)) (e_ (I 1)) j4) ?_
 refine Q1 _ (jf (e_ (I (w64 (x29 + 1))))) ?_
 refine PL.nil ?_
 have hs33 := pz hs33
 subst hs33
 exact ⟨m34, Nat.lt_succ_self _, (w64 (x29 + 1)), ho30, f1, f3, (e_ (I (w64 (x29 + 1))))⟩
 refine PC.condFb f59 hb37 ?_
 refine PC.exit ?_
 have hs33 := pz hs33
 subst hs33
 try dsimp only at ho30
 subst ho30
 try dsimp only at hs15
 refine hK20 _ _ ?_
 refine A2 1 f1 3 f3 fun F f1 f3 => ?_
 refine PC.region ?_
 refine Q1 _ (ja f3) ?_
 refine Q1 _ (jh rfl (e_ (I x11)) (e_ (I 1)) j4) ?_
 refine Q1 _ (jf (e_ (I (w64 (x11 + 1))))) ?_
 refine PL.nil ?_
 have hs15 := pz hs15
 subst hs15
 exact ⟨m16, Nat.lt_succ_self _, (w64 (x11 + 1)), ho12, f1, (e_ (I (w64 (x11 + 1))))⟩
 refine PC.condFb f36 hb19 ?_
 refine PC.exit ?_
 have hs15 := pz hs15
 subst hs15
 try dsimp only at ho12
 subst ho12
 try dsimp only at h0
 refine hK8 _ _ ?_
 refine PC.absF (fun F => True) trivial ?_
 intro F hI
 clear hI
 refine SR fun K48 hK48 => ?_
 refine Q1 _ (jf (e_ (B true))) ?_
 refine PL.nil (hK48 _ _ ?_)
 refine A1 2 (e_ (B true)) fun F f2 => ?_
 refine PC.ret ?_
 have h0 := pz h0
 subst h0
 exact fin (.inr rfl) (qc Tryz.results26 f2) (.u _)
def z2 (a0 : je) : G (List Bool) :=
  G.bind (Jh a0) fun x4 => G.cond (!x4) (G.pure []) (G.bind (G.lift (mkS 1 (false : Bool) (a0.jd.length : Int))) fun x10 => G.bind (G.lift (idx x10 0)) fun x14 => G.bind (G.loop (σ := (Int × (List Bool))) (α := (List Bool)) (fun (x21, x22) => G.cond (decide (x21 < (x22.length : Int))) (G.bind (G.loop (σ := (Int × (List Bool))) (α := (List Bool)) (fun (x37, x38) => G.cond (decide (x37 < (x38.length : Int))) (G.bind (G.loop (σ := (Int × (List Bool))) (α := (List Bool)) (fun (x53, x54) => G.bind (G.lift (idx x54 x37)) fun x63 => G.cond (x63 && (decide (x53 < a0.ji))) (G.bind (α := (List Bool)) (G.bind (G.lift (idx a0.jd x37)) fun x70 => G.bind (G.lift (idx x70 x53)) fun x71 => G.cond (decide (0 ≤ x71)) (G.bind (G.lift (idx a0.jd x37)) fun x73 => G.bind (G.lift (idx x73 x53)) fun x74 => G.bind (G.lift (idx x54 x74)) fun x75 => G.pure (x54.set (x74 : Int).toNat true)) (G.pure x54)) fun x67 => G.pure (.inl ((w64 (x53 + 1)), x67))) (G.pure (.inr x54))) (0, x38)) fun x78 => G.pure (.inl ((w64 (x37 + 1)), x78))) (G.pure (.inr x38))) (0, x22)) fun x81 => G.pure (.inl ((w64 (x21 + 1)), x81))) (G.pure (.inr x22))) (0, (x10.set (0 : Int).toNat true))) fun x85 => G.pure x85)
theorem ze5 {nn : Nat} {a0 : je} {r : (List Bool)} (h0 : z2 a0 nn = some r) : PCall Tryz.prog 9 [jc a0] (· = PV.fr 4 1 (r.map B)) := by
 unfold z2 at h0
 refine PCall.intro' Tryz.func9 rfl Tryz.ntmps9 (by simp) fun W => ?_
 refine A1 0 (e_ (jc a0)) fun F f0 => ?_
 generalize PHeap.empty = H
 refine SR fun K1 hK1 => ?_
 refine Q3 (PV.rp (jc a0).cells) (zw f0 (qx _ _)) ?_
 refine Q1 (PV.u (.slice none 0 0)) (jf rfl) ?_
 have o1002 : ownL 4 1 B H 1002 (PV.u (.slice none 0 0)) [] := ownL.nil _ _
 refine PL.nil (hK1 _ _ ?_)
 refine A1 1 (e_ (PV.rp (jc a0).cells)) fun F f1 => ?_
 refine PC.seq fun K2 hK2 => ?_
 refine SR fun K3 hK3 => ?_
 refine Q1 (jc a0) (v7 yc f1 (qe _)) ?_
 obtain ⟨x4, hx4, h0⟩ := bs h0
 refine Q3 (B x4) (j3 (by kernel_rfl) (am (e_ (jc a0)) (am0)) (ju (qa _) (j6)) (zbt hx4)) ?_
 refine Q1 (B (!x4)) (yn (e_ (B x4))) ?_
 refine PL.nil (hK3 _ _ ?_)
 refine A2 1 f1 9 (e_ (B (!x4))) fun F f1 f9 => ?_
 rcases cz h0 with ⟨hb5, h0⟩ | ⟨hb5, h0⟩
 refine PC.condTb f9 hb5 ?_
 refine SR fun K6 hK6 => ?_
 refine PL.litO (rep := B) (xs := []) 1002 rfl rfl rfl (by decide) Zz rfl (by decide) (bm0) rfl rfl fun q7 H o1002 fz8 => ?_
 refine Q1 _ (jf (e_ q7)) ?_
 refine PL.nil (hK6 _ _ ?_)
 refine A1 2 (e_ q7) fun F f2 => ?_
 refine PC.ret ?_
 have h0 := pz h0
 subst h0
 exact y0 (.inr rfl) (qc Tryz.results9 f2) o1002 (fun _ => rfl)
 refine PC.condFb f9 hb5 ?_
 refine PC.skip ?_
 refine hK2 _ _ ?_
 refine A1 1 f1 fun F f1 => ?_
 refine SR fun K9 hK9 => ?_
 refine Q1 (PV.rp ((jc a0).cells.drop 257)) (j5 qy j8 (by decide) f1) ?_
 refine Q1 (qk a0.jd) (jz j8 (e_ (PV.rp ((jc a0).cells.drop 257))) (j7 a0)) ?_
 refine Q1 (I (a0.jd.length : Int)) (qh (rep := slI) (xs := a0.jd) qv (e_ (qk a0.jd))) ?_
 obtain ⟨x10, hx10, h0⟩ := bs h0
 refine PL.mkS (rep := B) 1002 rfl rfl rfl (by decide) Zz rfl rfl (e_ (I (a0.jd.length : Int))) hx10 fun q11 H o1002 fz12 => ?_
 refine Q1 _ (jf (e_ q11)) ?_
 refine PL.nil (hK9 _ _ ?_)
 refine A2 1 f1 3 (e_ q11) fun F f1 f3 => ?_
 refine SR fun K13 hK13 => ?_
 refine Q1 _ (ja f3) ?_
 obtain ⟨x14, hx14, h0⟩ := bs h0
 refine Q1 (PV.pp 1002 ((0 : Int).toNat * 1) (qo q11)) (vw (rep := B) Js o1002 (e_ q11) (e_ (I 0)) hx14) ?_
 refine PL.stO (rep := B) (v := true) rfl rfl (fun _ h => by cases h) (e_ (PV.pp 1002 ((0 : Int).toNat * 1) (qo q11))) o1002 Vo hx14 (e_ (B true)) (fun _ => rfl) fun H o1002 fz15 => ?_
 refine PL.nil (hK13 _ _ ?_)
 refine A2 1 f1 3 f3 fun F f1 f3 => ?_
 refine PC.seq fun K16 hK16 => ?_
 refine SR fun K17 hK17 => ?_
 refine Q1 _ (jf (e_ (I 0))) ?_
 refine PL.nil (hK17 _ _ ?_)
 refine A3 1 f1 3 f3 4 (e_ (I 0)) fun F f1 f3 f4 => ?_
 refine PC.block ?_
 obtain ⟨o24, ho24, h0⟩ := bs h0
 obtain ⟨B25, hB25, ho24⟩ := G.loop_some ho24
 refine PC.loop (fun m28 F H => ∃ s88 : (Int × (List Bool)), ∃ q23, qt B25 m28 s88 = some o24 ∧ F 1 = (PV.rp (jc a0).cells) ∧ F 3 = q23 ∧ F 4 = (I s88.1) ∧ ownL 4 1 B H 1002 q23 s88.2) (m := nn) ⟨(0, (x10.set (0 : Int).toNat true)), q11, ho24, f1, f3, f4, o1002⟩ fun m28 F H hI => ?_
 obtain ⟨⟨x21, x22⟩, q23, ho24, f1, f3, f4, o1002⟩ := hI
 obtain ⟨m28, rfl, st26, hs27, ho24⟩ := jx ho24
 rw [hB25] at hs27
 try dsimp only at hs27
 refine PC.seq fun K29 hK29 => ?_
 refine SR fun K30 hK30 => ?_
 refine Q1 _ (ja f4) ?_
 refine Q1 _ (ja f3) ?_
 refine Q1 (I (x22.length : Int)) (Qu Z4 o1002 (e_ q23)) ?_
 refine Q1 _ (jh rfl (e_ (I x21)) (e_ (I (x22.length : Int))) jw) ?_
 refine PL.nil (hK30 _ _ ?_)
 refine A4 1 f1 3 f3 4 f4 20 (e_ (B (decide (x21 < (x22.length : Int))))) fun F f1 f3 f4 f20 => ?_
 rcases cz hs27 with ⟨hb31, hs27⟩ | ⟨hb31, hs27⟩
 refine PC.condTb f20 hb31 ?_
 refine PC.skip ?_
 refine hK29 _ _ ?_
 refine A3 1 f1 3 f3 4 f4 fun F f1 f3 f4 => ?_
 refine PC.seq fun K32 hK32 => ?_
 refine PC.block ?_
 refine SR fun K33 hK33 => ?_
 refine Q1 _ (jf (e_ (I 0))) ?_
 refine PL.nil (hK33 _ _ ?_)
 refine A4 1 f1 3 f3 4 f4 5 (e_ (I 0)) fun F f1 f3 f4 f5 => ?_
 refine PC.block ?_
 obtain ⟨o40, ho40, hs27⟩ := bs hs27
 obtain ⟨B41, hB41, ho40⟩ := G.loop_some ho40
 refine PC.loop (fun m44 F H => ∃ s83 : (Int × (List Bool)), ∃ q39, qt B41 m44 s83 = some o40 ∧ F 1 = (PV.rp (jc a0).cells) ∧ F 3 = q39 ∧ F 4 = (I x21) ∧ F 5 = (I s83.1) ∧ ownL 4 1 B H 1002 q39 s83.2) (m := nn) ⟨(0, x22), q23, ho40, f1, f3, f4, f5, o1002⟩ fun m44 F H hI => ?_
 obtain ⟨⟨x37, x38⟩, q39, ho40, f1, f3, f4, f5, o1002⟩ := hI
 obtain ⟨m44, rfl, st42, hs43, ho40⟩ := jx ho40
 rw [hB41] at hs43
 try dsimp only at hs43
 refine PC.seq fun K45 hK45 => ?_
 refine SR fun K46 hK46 => ?_
 refine Q1 _ (ja f5) ?_
 refine Q1 _ (ja f3) ?_
 refine Q1 (I (x38.length : Int)) (Qu Z4 o1002 (e_ q39)) ?_
 refine Q1 _ (jh rfl (e_ (I x37)) (e_ (I (x38.length : Int))) jw) ?_
 refine PL.nil (hK46 _ _ ?_)
 refine A5 1 f1 3 f3 4 f4 5 f5 26 (e_ (B (decide (x37 < (x38.length : Int))))) fun F f1 f3 f4 f5 f26 => ?_
 rcases cz hs43 with ⟨hb47, hs43⟩ | ⟨hb47, hs43⟩
 refine PC.condTb f26 hb47 ?_
 refine PC.skip ?_
 refine hK45 _ _ ?_
 refine A4 1 f1 3 f3 4 f4 5 f5 fun F f1 f3 f4 f5 => ?_
 refine PC.seq fun K48 hK48 => ?_
 refine PC.block ?_
 refine SR fun K49 hK49 => ?_
 refine Q1 _ (jf (e_ (I 0))) ?_
 refine PL.nil (hK49 _ _ ?_)
 refine A5 1 f1 3 f3 4 f4 5 f5 6 (e_ (I 0)) fun F f1 f3 f4 f5 f6 => ?_
 refine PC.block ?_
 obtain ⟨o56, ho56, hs43⟩ := bs hs43
 obtain ⟨B57, hB57, ho56⟩ := G.loop_some ho56
 refine PC.loop (fun m60 F H => ∃ s80 : (Int × (List Bool)), ∃ q55, qt B57 m60 s80 = some o56 ∧ F 1 = (PV.rp (jc a0).cells) ∧ F 3 = q55 ∧ F 4 = (I x21) ∧ F 5 = (I x37) ∧ F 6 = (I s80.1) ∧ ownL 4 1 B H 1002 q55 s80.2) (m := nn) ⟨(0, x38), q39, ho56, f1, f3, f4, f5, f6, o1002⟩ fun m60 F H hI => ?_
 obtain ⟨⟨x53, x54⟩, q55, ho56, f1, f3, f4, f5, f6, o1002⟩ := hI
 obtain ⟨m60, rfl, st58, hs59, ho56⟩ := jx ho56
 rw [hB57] at hs59
 try dsimp only at hs59
 refine PC.seq fun K61 hK61 => ?_
 refine SR fun K62 hK62 => ?_
 refine Q1 _ (ja f3) ?_
 refine Q1 _ (ja f5) ?_
 obtain ⟨x63, hx63, hs59⟩ := bs hs59
 refine Q1 (PV.pp 1002 ((x37 : Int).toNat * 1) (qo q55)) (vw (rep := B) Js o1002 (e_ q55) (e_ (I x37)) hx63) ?_
 refine Q1 (B x63) (z1 Vo (e_ (PV.pp 1002 ((x37 : Int).toNat * 1) (qo q55))) o1002 hx63) ?_
 refine Q1 _ (ja (e_ (B x63))) ?_
 refine GT (I x53) rfl (e_ (B x63)) (fun hb => ja f6) ?_
 refine GT (PV.rp ((jc a0).cells.drop 256)) rfl (e_ (B x63)) (fun hb => j5 J5 qu (by decide) f1) ?_
 refine GT (I a0.ji) rfl (e_ (B x63)) (fun hb => jz qu (gvp hb (e_ (gv x63 (PV.rp ((jc a0).cells.drop 256))))) (yv a0)) ?_
 refine GT (B (decide (x53 < a0.ji))) rfl (e_ (B x63)) (fun hb => jh rfl (gvp hb (e_ (gv x63 (I x53)))) (gvp hb (e_ (gv x63 (I a0.ji)))) jw) ?_
 refine Q1 (B (x63 && (decide (x53 < a0.ji)))) (vm (e_ (B x63)) (e_ (gv x63 (B (decide (x53 < a0.ji))))) rfl) ?_
 refine PL.nil (hK62 _ _ ?_)
 refine A6 1 f1 3 f3 4 f4 5 f5 6 f6 38 (e_ (B (x63 && (decide (x53 < a0.ji))))) fun F f1 f3 f4 f5 f6 f38 => ?_
 rcases cz hs59 with ⟨hb64, hs59⟩ | ⟨hb64, hs59⟩
 refine PC.condTb f38 hb64 ?_
 refine PC.skip ?_
 refine hK61 _ _ ?_
 refine A5 1 f1 3 f3 4 f4 5 f5 6 f6 fun F f1 f3 f4 f5 f6 => ?_
 obtain ⟨o66, ho66, hs59⟩ := bs hs59
 refine PC.seqM (fun F H => ∃ s77 : (List Bool), ∃ q68, o66 = s77 ∧ F 1 = (PV.rp (jc a0).cells) ∧ F 3 = q68 ∧ F 4 = (I x21) ∧ F 5 = (I x37) ∧ F 6 = (I x53) ∧ ownL 4 1 B H 1002 q68 s77) ?_ ?_
 refine PC.block ?_
 refine SR fun K69 hK69 => ?_
 refine Q1 (PV.rp ((jc a0).cells.drop 257)) (j5 qy j8 (by decide) f1) ?_
 refine Q1 (qk a0.jd) (jz j8 (e_ (PV.rp ((jc a0).cells.drop 257))) (j7 a0)) ?_
 refine Q1 _ (ja f5) ?_
 obtain ⟨x70, hx70, ho66⟩ := bs ho66
 refine Q1 (PV.rp (slI x70).cells) (j0 (rep := slI) (xs := a0.jd) Jy (e_ (qk a0.jd)) (e_ (I x37)) hx70) ?_
 refine Q1 (slI x70) (qn ql (e_ (PV.rp (slI x70).cells))) ?_
 refine Q1 _ (ja f6) ?_
 obtain ⟨x71, hx71, ho66⟩ := bs ho66
 refine Q1 (PV.rp (I x71).cells) (j0 (rep := I) (xs := x70) q6 (e_ (slI x70)) (e_ (I x53)) hx71) ?_
 refine Q1 (I x71) (qn qu (e_ (PV.rp (I x71).cells))) ?_
 refine Q1 _ (jh rfl (e_ (I x71)) (e_ (I 0)) v8) ?_
 refine PL.nil (hK69 _ _ ?_)
 refine A6 1 f1 3 f3 4 f4 5 f5 6 f6 49 (e_ (B (decide (0 ≤ x71)))) fun F f1 f3 f4 f5 f6 f49 => ?_
 rcases cz ho66 with ⟨hb72, ho66⟩ | ⟨hb72, ho66⟩
 refine PC.condTb f49 hb72 ?_
 refine PC.region ?_
 refine Q1 _ (ja f3) ?_
 refine Q1 (PV.rp ((jc a0).cells.drop 257)) (j5 qy j8 (by decide) f1) ?_
 refine Q1 (qk a0.jd) (jz j8 (e_ (PV.rp ((jc a0).cells.drop 257))) (j7 a0)) ?_
 refine Q1 _ (ja f5) ?_
 obtain ⟨x73, hx73, ho66⟩ := bs ho66
 refine Q1 (PV.rp (slI x73).cells) (j0 (rep := slI) (xs := a0.jd) Jy (e_ (qk a0.jd)) (e_ (I x37)) hx73) ?_
 refine Q1 (slI x73) (qn ql (e_ (PV.rp (slI x73).cells))) ?_
 refine Q1 _ (ja f6) ?_
 obtain ⟨x74, hx74, ho66⟩ := bs ho66
 refine Q1 (PV.rp (I x74).cells) (j0 (rep := I) (xs := x73) q6 (e_ (slI x73)) (e_ (I x53)) hx74) ?_
 refine Q1 (I x74) (qn qu (e_ (PV.rp (I x74).cells))) ?_
 obtain ⟨x75, hx75, ho66⟩ := bs ho66
 refine Q1 (PV.pp 1002 ((x74 : Int).toNat * 1) (qo q55)) (vw (rep := B) Js o1002 (e_ q55) (e_ (I x74)) hx75) ?_
 refine PL.stO (rep := B) (v := true) rfl rfl (fun _ h => by cases h) (e_ (PV.pp 1002 ((x74 : Int).toNat * 1) (qo q55))) o1002 Vo hx75 (e_ (B true)) (fun _ => rfl) fun H o1002 fz76 => ?_
 refine PL.nil ?_
 have ho66 := pz ho66
 subst ho66
 exact ⟨(x54.set (x74 : Int).toNat true), q55, rfl, f1, f3, f4, f5, f6, o1002⟩
 refine PC.condFb f49 hb72 ?_
 refine PC.skip ?_
 have ho66 := pz ho66
 subst ho66
 exact ⟨x54, q55, rfl, f1, f3, f4, f5, f6, o1002⟩
 intro F H hI
 obtain ⟨x67, q68, ho, f1, f3, f4, f5, f6, o1002⟩ := hI
 have ho := ho.symm
 subst ho
 try dsimp only at hs59
 refine PC.region ?_
 refine Q1 _ (ja f6) ?_
 refine Q1 _ (jh rfl (e_ (I x53)) (e_ (I 1)) j4) ?_
 refine Q1 _ (jf (e_ (I (w64 (x53 + 1))))) ?_
 refine PL.nil ?_
 have hs59 := pz hs59
 subst hs59
 exact ⟨m60, Nat.lt_succ_self _, ((w64 (x53 + 1)), x67), q68, ho56, f1, f3, f4, f5, (e_ (I (w64 (x53 + 1)))), o1002⟩
 refine PC.condFb f38 hb64 ?_
 refine PC.exit ?_
 have hs59 := pz hs59
 subst hs59
 try dsimp only at ho56
 subst ho56
 try dsimp only at hs43
 refine hK48 _ _ ?_
 refine A4 1 f1 3 f3 4 f4 5 f5 fun F f1 f3 f4 f5 => ?_
 refine PC.region ?_
 refine Q1 _ (ja f5) ?_
 refine Q1 _ (jh rfl (e_ (I x37)) (e_ (I 1)) j4) ?_
 refine Q1 _ (jf (e_ (I (w64 (x37 + 1))))) ?_
 refine PL.nil ?_
 have hs43 := pz hs43
 subst hs43
 exact ⟨m44, Nat.lt_succ_self _, ((w64 (x37 + 1)), x54), q55, ho40, f1, f3, f4, (e_ (I (w64 (x37 + 1)))), o1002⟩
 refine PC.condFb f26 hb47 ?_
 refine PC.exit ?_
 have hs43 := pz hs43
 subst hs43
 try dsimp only at ho40
 subst ho40
 try dsimp only at hs27
 refine hK32 _ _ ?_
 refine A3 1 f1 3 f3 4 f4 fun F f1 f3 f4 => ?_
 refine PC.region ?_
 refine Q1 _ (ja f4) ?_
 refine Q1 _ (jh rfl (e_ (I x21)) (e_ (I 1)) j4) ?_
 refine Q1 _ (jf (e_ (I (w64 (x21 + 1))))) ?_
 refine PL.nil ?_
 have hs27 := pz hs27
 subst hs27
 exact ⟨m28, Nat.lt_succ_self _, ((w64 (x21 + 1)), x38), q39, ho24, f1, f3, (e_ (I (w64 (x21 + 1)))), o1002⟩
 refine PC.condFb f20 hb31 ?_
 refine PC.exit ?_
 have hs27 := pz hs27
 subst hs27
 try dsimp only at ho24
 subst ho24
 try dsimp only at h0
 refine hK16 _ _ ?_
 refine A1 3 f3 fun F f3 => ?_
 refine SR fun K84 hK84 => ?_
 refine Q1 _ (ja f3) ?_
 refine Q1 _ (jf (e_ q23)) ?_
 refine PL.nil (hK84 _ _ ?_)
 refine A1 2 (e_ q23) fun F f2 => ?_
 refine PC.ret ?_
 have h0 := pz h0
 subst h0
 exact y0 (.inr rfl) (qc Tryz.results9 f2) o1002 (fun _ => rfl)
theorem zfg {nn : Nat} {a0 : je} {r : (List Bool)} (h0 : z2 a0 nn = some r) : PCall Tryz.prog 9 [jc a0] (· = slB r) := (ze5 h0).forget
def zed (a0 : je) (a1 : je) : G Bool :=
  G.bind (G.cond (!(((!(a0.jp.1 == a1.jp.1)) || (decide (¬ a0.ji = a1.ji))) || (decide (¬ (a0.jd.length : Int) = (a1.jd.length : Int))))) (za a0.jj a1.jj) (G.pure false)) fun x4 => G.cond ((((!(a0.jp.1 == a1.jp.1)) || (decide (¬ a0.ji = a1.ji))) || (decide (¬ (a0.jd.length : Int) = (a1.jd.length : Int)))) || (!x4)) (G.pure false) (G.bind (G.loop (σ := Int) (α := Unit ⊕ Bool) (fun x10 => G.cond (decide (x10 < (a0.jd.length : Int))) (G.bind (G.lift (idx a0.jd x10)) fun x21 => G.bind (G.lift (idx a1.jd x10)) fun x22 => G.bind (za x21 x22) fun x23 => G.cond (!x23) (G.pure (.inr (.inr false))) (G.pure (.inl (w64 (x10 + 1))))) (G.pure (.inr (.inl ())))) 0) fun o => match o with | .inl () => G.pure true | .inr r28 => G.pure r28)
def J3 (a0 : je) (a1 : Int) : G (ByteArray × Bool) :=
  G.bind (Jh a0) fun x4 => G.cond ((!x4) || (decide (a1 < 0))) (G.pure ((⟨#[]⟩ : ByteArray), false)) (G.bind (G.lift (mkS 16 (⟨#[]⟩ : ByteArray) (a0.jd.length : Int))) fun x8 => G.bind (G.lift (mkS 1 (false : Bool) (a0.jd.length : Int))) fun x12 => G.bind (G.lift (idx x12 0)) fun x16 => G.bind (G.loop (σ := (Int × (List ByteArray) × (List Bool))) (α := Unit ⊕ (ByteArray × Bool)) (fun (x25, x26, x28) => G.cond (decide (x25 ≤ (a0.jd.length : Int))) (G.bind (G.loop (σ := (ByteArray × Bool × Int)) (α := (ByteArray × Bool)) (fun (x49, x50, x51) => G.cond (decide (x51 < (a0.jd.length : Int))) (G.bind (α := (ByteArray × Bool)) (G.bind (G.lift (idx x28 x51)) fun x65 => G.bind (G.cond x65 (G.lift (idx x26 x51)) (G.pure (⟨#[]⟩))) fun x66 => G.bind (G.cond (x65 && (decide ((x66.size : Int) = x25))) (G.lift (idx a0.jj x51)) (G.pure 0)) fun x67 => G.bind (G.cond (((x65 && (decide ((x66.size : Int) = x25))) && (decide (x67 = a1))) && (!(!x50))) (G.lift (idx x26 x51)) (G.pure (⟨#[]⟩))) fun x68 => G.cond (((x65 && (decide ((x66.size : Int) = x25))) && (decide (x67 = a1))) && ((!x50) || (zb7 x68 x49))) (G.bind (G.lift (idx x26 x51)) fun x70 => G.pure (x70, true)) (G.pure (x49, x50))) fun (x62, x63) => G.pure (.inl (x62, x63, (w64 (x51 + 1))))) (G.pure (.inr (x49, x50)))) ((⟨#[]⟩ : ByteArray), false, 0)) fun (x238, x239) => G.cond x239 (G.pure (.inr (.inr (x238, true)))) (G.bind (G.lift (mkS 16 (⟨#[]⟩ : ByteArray) (a0.jd.length : Int))) fun x245 => G.bind (G.loop (σ := (Int × (List ByteArray))) (α := (List ByteArray)) (fun (x257, x258) => G.cond (decide (x257 < (a0.jd.length : Int))) (G.bind (G.loop (σ := (Int × (List ByteArray))) (α := (List ByteArray)) (fun (x277, x278) => G.bind (G.lift (idx x28 x257)) fun x287 => G.bind (G.cond x287 (G.lift (idx x26 x257)) (G.pure (⟨#[]⟩))) fun x288 => G.cond ((x287 && (decide ((x288.size : Int) = x25))) && (decide (x277 < a0.ji))) (G.bind (α := (List ByteArray)) (G.bind (G.lift (idx a0.jd x257)) fun x295 => G.bind (G.lift (idx x295 x277)) fun x296 => G.bind (G.cond (!(decide (x296 < 0))) (G.lift (idx x28 x296)) (G.pure false)) fun x299 => G.bind (G.cond ((!(decide (x296 < 0))) && x299) (G.lift (idx x26 x296)) (G.pure (⟨#[]⟩))) fun x300 => G.cond ((decide (x296 < 0)) || (x299 && (decide ((x300.size : Int) ≤ x25)))) (G.pure x278) (G.bind (G.lift (idx x26 x257)) fun x303 => G.bind (zt a0.jp x277) fun x304 => G.bind (G.lift (zc1 x304 0 1)) fun x305 => G.bind (G.lift (zl3 x303 (strOfNums x305))) fun x306 => G.bind (G.lift (idx x278 x296)) fun x308 => G.bind (G.cond (!(x308.toList == (⟨#[]⟩ : ByteArray).toList)) (G.lift (idx x278 x296)) (G.pure (⟨#[]⟩))) fun x309 => G.cond ((x308.toList == (⟨#[]⟩ : ByteArray).toList) || (zb7 x306 x309)) (G.bind (G.lift (idx x278 x296)) fun x311 => G.pure (x278.set (x296 : Int).toNat x306)) (G.pure x278))) fun x292 => G.pure (.inl ((w64 (x277 + 1)), x292))) (G.pure (.inr x278))) (0, x258)) fun x314 => G.pure (.inl ((w64 (x257 + 1)), x314))) (G.pure (.inr x258))) (0, x245)) fun x360 => G.bind (G.loop (σ := (Int × (List ByteArray) × (List Bool))) (α := ((List ByteArray) × (List Bool))) (fun (x370, x371, x373) => G.cond (decide (x370 < (a0.jd.length : Int))) (G.bind (α := ((List ByteArray) × (List Bool))) (G.bind (G.lift (idx x360 x370)) fun x390 => G.bind (G.cond (!(x390.toList == (⟨#[]⟩ : ByteArray).toList)) (G.lift (idx x373 x370)) (G.pure false)) fun x391 => G.cond ((!(x390.toList == (⟨#[]⟩ : ByteArray).toList)) && (!x391)) (G.bind (G.lift (idx x360 x370)) fun x394 => G.bind (G.lift (idx x371 x370)) fun x395 => G.bind (G.lift (idx x373 x370)) fun x397 => G.pure ((x371.set (x370 : Int).toNat x394), (x373.set (x370 : Int).toNat true))) (G.pure (x371, x373))) fun (x385, x387) => G.pure (.inl ((w64 (x370 + 1)), x385, x387))) (G.pure (.inr (x371, x373)))) (0, x26, x28)) fun (x400, x402) => G.pure (.inl ((w64 (x25 + 1)), x400, x402)))) (G.pure (.inr (.inl ())))) (0, x8, (x12.set (0 : Int).toNat true))) fun o => match o with | .inl () => G.pure ((⟨#[]⟩ : ByteArray), false) | .inr r409 => G.pure r409)
theorem ze1 {nn : Nat} {a0 : je} {a1 : Int} {r : (ByteArray × Bool)} (h0 : J3 a0 a1 nn = some r) : PCall Tryz.prog 16 [jc a0, I a1] (· = PV.tup [S r.1, B r.2]) := by
 unfold J3 at h0
 refine PCall.intro' Tryz.func16 rfl Tryz.ntmps16 (by simp) fun W => ?_
 refine A2 0 (e_ (jc a0)) 1 (e_ (I a1)) fun F f0 f1 => ?_
 generalize PHeap.empty = H
 refine SR fun K1 hK1 => ?_
 refine Q3 (PV.rp (jc a0).cells) (zw f0 (qx _ _)) ?_
 refine Q1 _ (jf (e_ (S (⟨#[]⟩ : ByteArray)))) ?_
 refine Q1 _ (jf (e_ (B false))) ?_
 refine PL.nil (hK1 _ _ ?_)
 refine A2 1 f1 2 (e_ (PV.rp (jc a0).cells)) fun F f1 f2 => ?_
 refine PC.seq fun K2 hK2 => ?_
 refine SR fun K3 hK3 => ?_
 refine Q1 (jc a0) (v7 yc f2 (qe _)) ?_
 obtain ⟨x4, hx4, h0⟩ := bs h0
 refine Q3 (B x4) (j3 (by kernel_rfl) (am (e_ (jc a0)) (am0)) (ju (qa _) (j6)) (zbt hx4)) ?_
 refine Q1 (B (!x4)) (yn (e_ (B x4))) ?_
 refine Q1 _ (ja (e_ (B (!x4)))) ?_
 refine GF (I a1) rfl (e_ (B (!x4))) (fun hb => ja f1) ?_
 refine GF (B (decide (a1 < 0))) rfl (e_ (B (!x4))) (fun hb => jh rfl (gvp hb (e_ (gv (!(!x4)) (I a1)))) (e_ (I 0)) jw) ?_
 refine Q1 (B ((!x4) || (decide (a1 < 0)))) (yj (e_ (B (!x4))) rfl (e_ (gv (!(!x4)) (B (decide (a1 < 0)))))) ?_
 refine PL.nil (hK3 _ _ ?_)
 refine A3 1 f1 2 f2 24 (e_ (B ((!x4) || (decide (a1 < 0))))) fun F f1 f2 f24 => ?_
 rcases cz h0 with ⟨hb5, h0⟩ | ⟨hb5, h0⟩
 refine PC.condTb f24 hb5 ?_
 refine SR fun K6 hK6 => ?_
 refine Q1 _ (jf (e_ (S (⟨#[]⟩ : ByteArray)))) ?_
 refine Q1 _ (jf (e_ (B false))) ?_
 refine PL.nil (hK6 _ _ ?_)
 refine A2 4 (e_ (S (⟨#[]⟩ : ByteArray))) 5 (e_ (B false)) fun F f4 f5 => ?_
 refine PC.ret ?_
 have h0 := pz h0
 subst h0
 exact fin (.inr rfl) (zq (ss := [4, 5]) (ps := [(S (⟨#[]⟩ : ByteArray)), (B false)]) Tryz.results16 (by decide) (rm f4 (rm f5 (rfl)))) (.tup _ (ju (.u _) (ju (.u _) (j6))))
 refine PC.condFb f24 hb5 ?_
 refine PC.skip ?_
 refine hK2 _ _ ?_
 refine A2 1 f1 2 f2 fun F f1 f2 => ?_
 refine SR fun K7 hK7 => ?_
 refine Q1 (PV.rp ((jc a0).cells.drop 257)) (j5 qy j8 (by decide) f2) ?_
 refine Q1 (qk a0.jd) (jz j8 (e_ (PV.rp ((jc a0).cells.drop 257))) (j7 a0)) ?_
 refine Q1 (I (a0.jd.length : Int)) (qh (rep := slI) (xs := a0.jd) qv (e_ (qk a0.jd))) ?_
 obtain ⟨x8, hx8, h0⟩ := bs h0
 refine PL.mkS (rep := S) 1006 rfl rfl rfl (by decide) zej rfl rfl (e_ (I (a0.jd.length : Int))) hx8 fun q9 H o1006 fz10 => ?_
 refine Q1 _ (jf (e_ q9)) ?_
 refine PL.nil (hK7 _ _ ?_)
 refine A3 1 f1 2 f2 6 (e_ q9) fun F f1 f2 f6 => ?_
 refine SR fun K11 hK11 => ?_
 refine Q1 (PV.rp ((jc a0).cells.drop 257)) (j5 qy j8 (by decide) f2) ?_
 refine Q1 (qk a0.jd) (jz j8 (e_ (PV.rp ((jc a0).cells.drop 257))) (j7 a0)) ?_
 refine Q1 (I (a0.jd.length : Int)) (qh (rep := slI) (xs := a0.jd) qv (e_ (qk a0.jd))) ?_
 obtain ⟨x12, hx12, h0⟩ := bs h0
 refine PL.mkS (rep := B) 1007 rfl rfl rfl (by decide) Zz rfl rfl (e_ (I (a0.jd.length : Int))) hx12 fun q13 H o1007 fz14 => ?_
 have o1006 := o1006.mono (fz14 1006 (by decide))
 refine Q1 _ (jf (e_ q13)) ?_
 refine PL.nil (hK11 _ _ ?_)
 refine A4 1 f1 2 f2 6 f6 7 (e_ q13) fun F f1 f2 f6 f7 => ?_
 refine SR fun K15 hK15 => ?_
 refine Q1 _ (ja f7) ?_
 obtain ⟨x16, hx16, h0⟩ := bs h0
 refine Q1 (PV.pp 1007 ((0 : Int).toNat * 1) (qo q13)) (vw (rep := B) Js o1007 (e_ q13) (e_ (I 0)) hx16) ?_
 refine PL.stO (rep := B) (v := true) rfl rfl (fun _ h => by cases h) (e_ (PV.pp 1007 ((0 : Int).toNat * 1) (qo q13))) o1007 Vo hx16 (e_ (B true)) (fun _ => rfl) fun H o1007 fz17 => ?_
 have o1006 := o1006.mono (fz17 1006 (by decide))
 refine PL.nil (hK15 _ _ ?_)
 refine A4 1 f1 2 f2 6 f6 7 f7 fun F f1 f2 f6 f7 => ?_
 refine PC.seq fun K18 hK18 => ?_
 refine SR fun K19 hK19 => ?_
 refine Q1 _ (jf (e_ (I 0))) ?_
 refine PL.nil (hK19 _ _ ?_)
 refine A5 1 f1 2 f2 6 f6 7 f7 8 (e_ (I 0)) fun F f1 f2 f6 f7 f8 => ?_
 refine PC.block ?_
 obtain ⟨o30, ho30, h0⟩ := bs h0
 obtain ⟨B31, hB31, ho30⟩ := G.loop_some ho30
 refine PC.loop (fun m34 F H => ∃ s410 : (Int × (List ByteArray) × (List Bool)), ∃ q27, ∃ q29, qt B31 m34 s410 = some o30 ∧ F 1 = (I a1) ∧ F 2 = (PV.rp (jc a0).cells) ∧ F 6 = q27 ∧ F 7 = q29 ∧ F 8 = (I s410.1) ∧ ownL 9 1 S H 1006 q27 s410.2.1 ∧ ownL 4 1 B H 1007 q29 s410.2.2) (m := nn) ⟨(0, x8, (x12.set (0 : Int).toNat true)), q9, q13, ho30, f1, f2, f6, f7, f8, o1006, o1007⟩ fun m34 F H hI => ?_
 obtain ⟨⟨x25, x26, x28⟩, q27, q29, ho30, f1, f2, f6, f7, f8, o1006, o1007⟩ := hI
 obtain ⟨m34, rfl, st32, hs33, ho30⟩ := jx ho30
 rw [hB31] at hs33
 try dsimp only at hs33
 refine PC.seq fun K35 hK35 => ?_
 refine SR fun K36 hK36 => ?_
 refine Q1 _ (ja f8) ?_
 refine Q1 (PV.rp ((jc a0).cells.drop 257)) (j5 qy j8 (by decide) f2) ?_
 refine Q1 (qk a0.jd) (jz j8 (e_ (PV.rp ((jc a0).cells.drop 257))) (j7 a0)) ?_
 refine Q1 (I (a0.jd.length : Int)) (qh (rep := slI) (xs := a0.jd) qv (e_ (qk a0.jd))) ?_
 refine Q1 _ (jh rfl (e_ (I x25)) (e_ (I (a0.jd.length : Int))) J4) ?_
 refine PL.nil (hK36 _ _ ?_)
 refine A6 1 f1 2 f2 6 f6 7 f7 8 f8 39 (e_ (B (decide (x25 ≤ (a0.jd.length : Int))))) fun F f1 f2 f6 f7 f8 f39 => ?_
 rcases cz hs33 with ⟨hb37, hs33⟩ | ⟨hb37, hs33⟩
 refine PC.condTb f39 hb37 ?_
 refine PC.skip ?_
 refine hK35 _ _ ?_
 refine A5 1 f1 2 f2 6 f6 7 f7 8 f8 fun F f1 f2 f6 f7 f8 => ?_
 refine PC.seq fun K38 hK38 => ?_
 refine PC.block ?_
 refine SR fun K39 hK39 => ?_
 refine Q1 _ (jf (e_ (S (⟨#[]⟩ : ByteArray)))) ?_
 refine Q1 _ (jf (e_ (B false))) ?_
 refine PL.nil (hK39 _ _ ?_)
 refine A7 1 f1 2 f2 6 f6 7 f7 8 f8 9 (e_ (S (⟨#[]⟩ : ByteArray))) 10 (e_ (B false)) fun F f1 f2 f6 f7 f8 f9 f10 => ?_
 refine PC.seq fun K40 hK40 => ?_
 refine SR fun K41 hK41 => ?_
 refine Q1 _ (jf (e_ (I 0))) ?_
 refine PL.nil (hK41 _ _ ?_)
 refine A8 1 f1 2 f2 6 f6 7 f7 8 f8 9 f9 10 f10 11 (e_ (I 0)) fun F f1 f2 f6 f7 f8 f9 f10 f11 => ?_
 refine PC.block ?_
 obtain ⟨o52, ho52, hs33⟩ := bs hs33
 obtain ⟨B53, hB53, ho52⟩ := G.loop_some ho52
 refine PC.loop (fun m56 F H => ∃ s406 : (ByteArray × Bool × Int), qt B53 m56 s406 = some o52 ∧ F 1 = (I a1) ∧ F 2 = (PV.rp (jc a0).cells) ∧ F 6 = q27 ∧ F 7 = q29 ∧ F 8 = (I x25) ∧ F 9 = (S s406.1) ∧ F 10 = (B s406.2.1) ∧ F 11 = (I s406.2.2) ∧ ownL 9 1 S H 1006 q27 x26 ∧ ownL 4 1 B H 1007 q29 x28) (m := nn) ⟨((⟨#[]⟩ : ByteArray), false, 0), ho52, f1, f2, f6, f7, f8, f9, f10, f11, o1006, o1007⟩ fun m56 F H hI => ?_
 obtain ⟨⟨x49, x50, x51⟩, ho52, f1, f2, f6, f7, f8, f9, f10, f11, o1006, o1007⟩ := hI
 obtain ⟨m56, rfl, st54, hs55, ho52⟩ := jx ho52
 rw [hB53] at hs55
 try dsimp only at hs55
 refine PC.seq fun K57 hK57 => ?_
 refine SR fun K58 hK58 => ?_
 refine Q1 _ (ja f11) ?_
 refine Q1 (PV.rp ((jc a0).cells.drop 257)) (j5 qy j8 (by decide) f2) ?_
 refine Q1 (qk a0.jd) (jz j8 (e_ (PV.rp ((jc a0).cells.drop 257))) (j7 a0)) ?_
 refine Q1 (I (a0.jd.length : Int)) (qh (rep := slI) (xs := a0.jd) qv (e_ (qk a0.jd))) ?_
 refine Q1 _ (jh rfl (e_ (I x51)) (e_ (I (a0.jd.length : Int))) jw) ?_
 refine PL.nil (hK58 _ _ ?_)
 refine A9 1 f1 2 f2 6 f6 7 f7 8 f8 9 f9 10 f10 11 f11 46 (e_ (B (decide (x51 < (a0.jd.length : Int))))) fun F f1 f2 f6 f7 f8 f9 f10 f11 f46 => ?_
 rcases cz hs55 with ⟨hb59, hs55⟩ | ⟨hb59, hs55⟩
 refine PC.condTb f46 hb59 ?_
 refine PC.skip ?_
 refine hK57 _ _ ?_
 refine A8 1 f1 2 f2 6 f6 7 f7 8 f8 9 f9 10 f10 11 f11 fun F f1 f2 f6 f7 f8 f9 f10 f11 => ?_
 obtain ⟨o61, ho61, hs55⟩ := bs hs55
 refine PC.seqM (fun F H => ∃ s71 : (ByteArray × Bool), o61 = s71 ∧ F 1 = (I a1) ∧ F 2 = (PV.rp (jc a0).cells) ∧ F 6 = q27 ∧ F 7 = q29 ∧ F 8 = (I x25) ∧ F 9 = (S s71.1) ∧ F 10 = (B s71.2) ∧ F 11 = (I x51) ∧ ownL 9 1 S H 1006 q27 x26 ∧ ownL 4 1 B H 1007 q29 x28) ?_ ?_
 refine PC.block ?_
 refine SR fun K64 hK64 => ?_
 refine Q1 _ (ja f7) ?_
 refine Q1 _ (ja f11) ?_
 obtain ⟨x65, hx65, ho61⟩ := bs ho61
 refine Q1 (PV.pp 1007 ((x51 : Int).toNat * 1) (qo q29)) (vw (rep := B) Js o1007 (e_ q29) (e_ (I x51)) hx65) ?_
 refine Q1 (B x65) (z1 Vo (e_ (PV.pp 1007 ((x51 : Int).toNat * 1) (qo q29))) o1007 hx65) ?_
 refine Q1 _ (ja (e_ (B x65))) ?_
 refine GT q27 rfl (e_ (B x65)) (fun hb => ja f6) ?_
 refine GT (I x51) rfl (e_ (B x65)) (fun hb => ja f11) ?_
 obtain ⟨x66, hx66, ho61⟩ := bs ho61
 refine GT (PV.pp 1006 ((x51 : Int).toNat * 1) (qo q27)) rfl (e_ (B x65)) (fun hb => vw (rep := S) V6 o1006 (gvp hb (e_ (gv x65 q27))) (gvp hb (e_ (gv x65 (I x51)))) (G.cond_pos hx66 hb)) ?_
 refine GT (S x66) rfl (e_ (B x65)) (fun hb => z1 Yx (gvp hb (e_ (gv x65 (PV.pp 1006 ((x51 : Int).toNat * 1) (qo q27))))) o1006 (G.cond_pos hx66 hb)) ?_
 refine GT (I (x66.size : Int)) rfl (e_ (B x65)) (fun hb => yx qz (gvp hb (e_ (gv x65 (S x66))))) ?_
 refine GT (I x25) rfl (e_ (B x65)) (fun hb => ja f8) ?_
 refine GT (B (decide ((x66.size : Int) = x25))) rfl (e_ (B x65)) (fun hb => jh rfl (gvp hb (e_ (gv x65 (I (x66.size : Int))))) (gvp hb (e_ (gv x65 (I x25)))) j9) ?_
 refine Q1 (B (x65 && (decide ((x66.size : Int) = x25)))) (vm (e_ (B x65)) (e_ (gv x65 (B (decide ((x66.size : Int) = x25))))) rfl) ?_
 refine Q1 _ (ja (e_ (B (x65 && (decide ((x66.size : Int) = x25)))))) ?_
 refine GT (PV.rp ((jc a0).cells.drop 258)) rfl (e_ (B (x65 && (decide ((x66.size : Int) = x25))))) (fun hb => j5 zg ql (by decide) f2) ?_
 refine GT (slI a0.jj) rfl (e_ (B (x65 && (decide ((x66.size : Int) = x25))))) (fun hb => jz ql (gvp hb (e_ (gv (x65 && (decide ((x66.size : Int) = x25))) (PV.rp ((jc a0).cells.drop 258))))) (yg a0)) ?_
 refine GT (I x51) rfl (e_ (B (x65 && (decide ((x66.size : Int) = x25))))) (fun hb => ja f11) ?_
 obtain ⟨x67, hx67, ho61⟩ := bs ho61
 refine GT (PV.rp (I x67).cells) rfl (e_ (B (x65 && (decide ((x66.size : Int) = x25))))) (fun hb => j0 (rep := I) (xs := a0.jj) q6 (gvp hb (e_ (gv (x65 && (decide ((x66.size : Int) = x25))) (slI a0.jj)))) (gvp hb (e_ (gv (x65 && (decide ((x66.size : Int) = x25))) (I x51)))) (G.cond_pos hx67 hb)) ?_
 refine GT (I x67) rfl (e_ (B (x65 && (decide ((x66.size : Int) = x25))))) (fun hb => qn qu (gvp hb (e_ (gv (x65 && (decide ((x66.size : Int) = x25))) (PV.rp (I x67).cells))))) ?_
 refine GT (I a1) rfl (e_ (B (x65 && (decide ((x66.size : Int) = x25))))) (fun hb => ja f1) ?_
 refine GT (B (decide (x67 = a1))) rfl (e_ (B (x65 && (decide ((x66.size : Int) = x25))))) (fun hb => jh rfl (gvp hb (e_ (gv (x65 && (decide ((x66.size : Int) = x25))) (I x67)))) (gvp hb (e_ (gv (x65 && (decide ((x66.size : Int) = x25))) (I a1)))) j9) ?_
 refine Q1 (B ((x65 && (decide ((x66.size : Int) = x25))) && (decide (x67 = a1)))) (vm (e_ (B (x65 && (decide ((x66.size : Int) = x25))))) (e_ (gv (x65 && (decide ((x66.size : Int) = x25))) (B (decide (x67 = a1))))) rfl) ?_
 refine Q1 _ (ja (e_ (B ((x65 && (decide ((x66.size : Int) = x25))) && (decide (x67 = a1)))))) ?_
 refine GT (B x50) rfl (e_ (B ((x65 && (decide ((x66.size : Int) = x25))) && (decide (x67 = a1))))) (fun hb => ja f10) ?_
 refine GT (B (!x50)) rfl (e_ (B ((x65 && (decide ((x66.size : Int) = x25))) && (decide (x67 = a1))))) (fun hb => yn (gvp hb (e_ (gv ((x65 && (decide ((x66.size : Int) = x25))) && (decide (x67 = a1))) (B x50))))) ?_
 refine GT (B (!x50)) rfl (e_ (B ((x65 && (decide ((x66.size : Int) = x25))) && (decide (x67 = a1))))) (fun hb => ja (gvp hb (e_ (gv ((x65 && (decide ((x66.size : Int) = x25))) && (decide (x67 = a1))) (B (!x50)))))) ?_
 refine PL.gq (p := q27) (c := ((x65 && (decide ((x66.size : Int) = x25))) && (decide (x67 = a1)))) (c' := (((x65 && (decide ((x66.size : Int) = x25))) && (decide (x67 = a1))) && (!(!x50)))) rfl rfl (e_ (gv ((x65 && (decide ((x66.size : Int) = x25))) && (decide (x67 = a1))) (B (!x50)))) (Yy _ _) (qi (by decide)) (fun hb => jy (ja f6)) ?_
 refine PL.gq (p := (I x51)) (c := ((x65 && (decide ((x66.size : Int) = x25))) && (decide (x67 = a1)))) (c' := (((x65 && (decide ((x66.size : Int) = x25))) && (decide (x67 = a1))) && (!(!x50)))) rfl rfl (e_ (gv ((x65 && (decide ((x66.size : Int) = x25))) && (decide (x67 = a1))) (B (!x50)))) (Yy _ _) (qi (by decide)) (fun hb => jy (ja f11)) ?_
 obtain ⟨x68, hx68, ho61⟩ := bs ho61
 refine PL.gq (p := (PV.pp 1006 ((x51 : Int).toNat * 1) (qo q27))) (c := ((x65 && (decide ((x66.size : Int) = x25))) && (decide (x67 = a1)))) (c' := (((x65 && (decide ((x66.size : Int) = x25))) && (decide (x67 = a1))) && (!(!x50)))) rfl rfl (e_ (gv ((x65 && (decide ((x66.size : Int) = x25))) && (decide (x67 = a1))) (B (!x50)))) (Yy _ _) (qi (by decide)) (fun hb => jy (vw (rep := S) V6 o1006 (gvp hb (e_ (gv (((x65 && (decide ((x66.size : Int) = x25))) && (decide (x67 = a1))) && (!(!x50))) q27))) (gvp hb (e_ (gv (((x65 && (decide ((x66.size : Int) = x25))) && (decide (x67 = a1))) && (!(!x50))) (I x51)))) (G.cond_pos hx68 hb))) ?_
 refine PL.gq (p := (S x68)) (c := ((x65 && (decide ((x66.size : Int) = x25))) && (decide (x67 = a1)))) (c' := (((x65 && (decide ((x66.size : Int) = x25))) && (decide (x67 = a1))) && (!(!x50)))) rfl rfl (e_ (gv ((x65 && (decide ((x66.size : Int) = x25))) && (decide (x67 = a1))) (B (!x50)))) (Yy _ _) (qi (by decide)) (fun hb => jy (z1 Yx (gvp hb (e_ (gv (((x65 && (decide ((x66.size : Int) = x25))) && (decide (x67 = a1))) && (!(!x50))) (PV.pp 1006 ((x51 : Int).toNat * 1) (qo q27))))) o1006 (G.cond_pos hx68 hb))) ?_
 refine PL.gq (p := (S x49)) (c := ((x65 && (decide ((x66.size : Int) = x25))) && (decide (x67 = a1)))) (c' := (((x65 && (decide ((x66.size : Int) = x25))) && (decide (x67 = a1))) && (!(!x50)))) rfl rfl (e_ (gv ((x65 && (decide ((x66.size : Int) = x25))) && (decide (x67 = a1))) (B (!x50)))) (Yy _ _) (qi (by decide)) (fun hb => jy (ja f9)) ?_
 refine PL.gq (p := (B (zb7 x68 x49))) (c := ((x65 && (decide ((x66.size : Int) = x25))) && (decide (x67 = a1)))) (c' := (((x65 && (decide ((x66.size : Int) = x25))) && (decide (x67 = a1))) && (!(!x50)))) rfl rfl (e_ (gv ((x65 && (decide ((x66.size : Int) = x25))) && (decide (x67 = a1))) (B (!x50)))) (Yy _ _) (qi (by decide)) (fun hb => jy (jh rfl (gvp hb (e_ (gv (((x65 && (decide ((x66.size : Int) = x25))) && (decide (x67 = a1))) && (!(!x50))) (S x68)))) (gvp hb (e_ (gv (((x65 && (decide ((x66.size : Int) = x25))) && (decide (x67 = a1))) && (!(!x50))) (S x49)))) (zow _ _))) ?_
 refine GT (B ((!x50) || (zb7 x68 x49))) rfl (e_ (B ((x65 && (decide ((x66.size : Int) = x25))) && (decide (x67 = a1))))) (fun hb => zmw hb (gvp hb (e_ (gv ((x65 && (decide ((x66.size : Int) = x25))) && (decide (x67 = a1))) (B (!x50))))) rfl (e_ (gv (((x65 && (decide ((x66.size : Int) = x25))) && (decide (x67 = a1))) && (!(!x50))) (B (zb7 x68 x49))))) ?_
 refine Q1 (B (((x65 && (decide ((x66.size : Int) = x25))) && (decide (x67 = a1))) && ((!x50) || (zb7 x68 x49)))) (vm (e_ (B ((x65 && (decide ((x66.size : Int) = x25))) && (decide (x67 = a1))))) (e_ (gv ((x65 && (decide ((x66.size : Int) = x25))) && (decide (x67 = a1))) (B ((!x50) || (zb7 x68 x49))))) rfl) ?_
 refine PL.nil (hK64 _ _ ?_)
 refine A9 1 f1 2 f2 6 f6 7 f7 8 f8 9 f9 10 f10 11 f11 82 (e_ (B (((x65 && (decide ((x66.size : Int) = x25))) && (decide (x67 = a1))) && ((!x50) || (zb7 x68 x49))))) fun F f1 f2 f6 f7 f8 f9 f10 f11 f82 => ?_
 rcases cz ho61 with ⟨hb69, ho61⟩ | ⟨hb69, ho61⟩
 refine PC.condTb f82 hb69 ?_
 refine PC.region ?_
 refine Q1 _ (ja f6) ?_
 refine Q1 _ (ja f11) ?_
 obtain ⟨x70, hx70, ho61⟩ := bs ho61
 refine Q1 (PV.pp 1006 ((x51 : Int).toNat * 1) (qo q27)) (vw (rep := S) V6 o1006 (e_ q27) (e_ (I x51)) hx70) ?_
 refine Q1 (S x70) (z1 Yx (e_ (PV.pp 1006 ((x51 : Int).toNat * 1) (qo q27))) o1006 hx70) ?_
 refine Q1 _ (jf (e_ (S x70))) ?_
 refine Q1 _ (jf (e_ (B true))) ?_
 refine PL.nil ?_
 have ho61 := pz ho61
 subst ho61
 exact ⟨(x70, true), rfl, f1, f2, f6, f7, f8, (e_ (S x70)), (e_ (B true)), f11, o1006, o1007⟩
 refine PC.condFb f82 hb69 ?_
 refine PC.skip ?_
 have ho61 := pz ho61
 subst ho61
 exact ⟨(x49, x50), rfl, f1, f2, f6, f7, f8, f9, f10, f11, o1006, o1007⟩
 intro F H hI
 obtain ⟨⟨x62, x63⟩, ho, f1, f2, f6, f7, f8, f9, f10, f11, o1006, o1007⟩ := hI
 have ho := ho.symm
 subst ho
 try dsimp only at hs55
 refine PC.region ?_
 refine Q1 _ (ja f11) ?_
 refine Q1 _ (jh rfl (e_ (I x51)) (e_ (I 1)) j4) ?_
 refine Q1 _ (jf (e_ (I (w64 (x51 + 1))))) ?_
 refine PL.nil ?_
 have hs55 := pz hs55
 subst hs55
 exact ⟨m56, Nat.lt_succ_self _, (x62, x63, (w64 (x51 + 1))), ho52, f1, f2, f6, f7, f8, f9, f10, (e_ (I (w64 (x51 + 1)))), o1006, o1007⟩
 refine PC.condFb f46 hb59 ?_
 refine PC.exit ?_
 have hs55 := pz hs55
 subst hs55
 try dsimp only at ho52
 subst ho52
 try dsimp only at hs33
 refine hK40 _ _ ?_
 refine A7 1 f1 2 f2 6 f6 7 f7 8 f8 9 f9 10 f10 fun F f1 f2 f6 f7 f8 f9 f10 => ?_
 refine PC.seq fun K72 hK72 => ?_
 refine SR fun K73 hK73 => ?_
 refine Q1 _ (ja f10) ?_
 refine PL.nil (hK73 _ _ ?_)
 refine A7 1 f1 2 f2 6 f6 7 f7 8 f8 9 f9 87 (e_ (B x50)) fun F f1 f2 f6 f7 f8 f9 f87 => ?_
 rcases cz hs33 with ⟨hb74, hs33⟩ | ⟨hb74, hs33⟩
 refine PC.condTb f87 hb74 ?_
 refine SR fun K75 hK75 => ?_
 refine Q1 _ (ja f9) ?_
 refine Q1 _ (jf (e_ (S x49))) ?_
 refine Q1 _ (jf (e_ (B true))) ?_
 refine PL.nil (hK75 _ _ ?_)
 refine A2 4 (e_ (S x49)) 5 (e_ (B true)) fun F f4 f5 => ?_
 have hs33 := pz hs33
 subst hs33
 try dsimp only at ho30
 subst ho30
 try dsimp only at h0
 refine PC.ret ?_
 have h0 := pz h0
 subst h0
 exact fin (.inr rfl) (zq (ss := [4, 5]) (ps := [(S x49), (B true)]) Tryz.results16 (by decide) (rm f4 (rm f5 (rfl)))) (.tup _ (ju (.u _) (ju (.u _) (j6))))
 refine PC.condFb f87 hb74 ?_
 refine PC.skip ?_
 refine hK72 _ _ ?_
 refine A5 1 f1 2 f2 6 f6 7 f7 8 f8 fun F f1 f2 f6 f7 f8 => ?_
 refine SR fun K76 hK76 => ?_
 refine Q1 (PV.rp ((jc a0).cells.drop 257)) (j5 qy j8 (by decide) f2) ?_
 refine Q1 (qk a0.jd) (jz j8 (e_ (PV.rp ((jc a0).cells.drop 257))) (j7 a0)) ?_
 refine Q1 (I (a0.jd.length : Int)) (qh (rep := slI) (xs := a0.jd) qv (e_ (qk a0.jd))) ?_
 obtain ⟨x77, hx77, hs33⟩ := bs hs33
 refine PL.mkS (rep := S) 1012 rfl rfl rfl (by decide) zej rfl rfl (e_ (I (a0.jd.length : Int))) hx77 fun q78 H o1012 fz79 => ?_
 have o1006 := o1006.mono (fz79 1006 (by decide))
 have o1007 := o1007.mono (fz79 1007 (by decide))
 refine Q1 _ (jf (e_ q78)) ?_
 refine PL.nil (hK76 _ _ ?_)
 refine A6 1 f1 2 f2 6 f6 7 f7 8 f8 12 (e_ q78) fun F f1 f2 f6 f7 f8 f12 => ?_
 refine PC.seq fun K80 hK80 => ?_
 refine SR fun K81 hK81 => ?_
 refine Q1 _ (jf (e_ (I 0))) ?_
 refine PL.nil (hK81 _ _ ?_)
 refine A7 1 f1 2 f2 6 f6 7 f7 8 f8 12 f12 13 (e_ (I 0)) fun F f1 f2 f6 f7 f8 f12 f13 => ?_
 refine PC.block ?_
 obtain ⟨o92, ho92, hs33⟩ := bs hs33
 obtain ⟨B93, hB93, ho92⟩ := G.loop_some ho92
 refine PC.loop (fun m96 F H => ∃ s237 : (Int × (List ByteArray)), ∃ q91, qt B93 m96 s237 = some o92 ∧ F 1 = (I a1) ∧ F 2 = (PV.rp (jc a0).cells) ∧ F 6 = q27 ∧ F 7 = q29 ∧ F 8 = (I x25) ∧ F 12 = q91 ∧ F 13 = (I s237.1) ∧ ownL 9 1 S H 1006 q27 x26 ∧ ownL 4 1 B H 1007 q29 x28 ∧ ownL 9 1 S H 1012 q91 s237.2) (m := nn) ⟨(0, x77), q78, ho92, f1, f2, f6, f7, f8, f12, f13, o1006, o1007, o1012⟩ fun m96 F H hI => ?_
 obtain ⟨⟨x89, x90⟩, q91, ho92, f1, f2, f6, f7, f8, f12, f13, o1006, o1007, o1012⟩ := hI
 obtain ⟨m96, rfl, st94, hs95, ho92⟩ := jx ho92
 rw [hB93] at hs95
 try dsimp only at hs95
 refine PC.seq fun K97 hK97 => ?_
 refine SR fun K98 hK98 => ?_
 refine Q1 _ (ja f13) ?_
 refine Q1 (PV.rp ((jc a0).cells.drop 257)) (j5 qy j8 (by decide) f2) ?_
 refine Q1 (qk a0.jd) (jz j8 (e_ (PV.rp ((jc a0).cells.drop 257))) (j7 a0)) ?_
 refine Q1 (I (a0.jd.length : Int)) (qh (rep := slI) (xs := a0.jd) qv (e_ (qk a0.jd))) ?_
 refine Q1 _ (jh rfl (e_ (I x89)) (e_ (I (a0.jd.length : Int))) jw) ?_
 refine PL.nil (hK98 _ _ ?_)
 refine A8 1 f1 2 f2 6 f6 7 f7 8 f8 12 f12 13 f13 97 (e_ (B (decide (x89 < (a0.jd.length : Int))))) fun F f1 f2 f6 f7 f8 f12 f13 f97 => ?_
 rcases cz hs95 with ⟨hb99, hs95⟩ | ⟨hb99, hs95⟩
 refine PC.condTb f97 hb99 ?_
 refine PC.skip ?_
 refine hK97 _ _ ?_
 refine A7 1 f1 2 f2 6 f6 7 f7 8 f8 12 f12 13 f13 fun F f1 f2 f6 f7 f8 f12 f13 => ?_
 refine PC.seq fun K100 hK100 => ?_
 refine PC.block ?_
 refine SR fun K101 hK101 => ?_
 refine Q1 _ (jf (e_ (I 0))) ?_
 refine PL.nil (hK101 _ _ ?_)
 refine A8 1 f1 2 f2 6 f6 7 f7 8 f8 12 f12 13 f13 14 (e_ (I 0)) fun F f1 f2 f6 f7 f8 f12 f13 f14 => ?_
 refine PC.block ?_
 obtain ⟨o112, ho112, hs95⟩ := bs hs95
 obtain ⟨B113, hB113, ho112⟩ := G.loop_some ho112
 refine PC.loop (fun m116 F H => ∃ s148 : (Int × (List ByteArray)), ∃ q111, qt B113 m116 s148 = some o112 ∧ F 1 = (I a1) ∧ F 2 = (PV.rp (jc a0).cells) ∧ F 6 = q27 ∧ F 7 = q29 ∧ F 8 = (I x25) ∧ F 12 = q111 ∧ F 13 = (I x89) ∧ F 14 = (I s148.1) ∧ ownL 9 1 S H 1006 q27 x26 ∧ ownL 4 1 B H 1007 q29 x28 ∧ ownL 9 1 S H 1012 q111 s148.2) (m := nn) ⟨(0, x90), q91, ho112, f1, f2, f6, f7, f8, f12, f13, f14, o1006, o1007, o1012⟩ fun m116 F H hI => ?_
 obtain ⟨⟨x109, x110⟩, q111, ho112, f1, f2, f6, f7, f8, f12, f13, f14, o1006, o1007, o1012⟩ := hI
 obtain ⟨m116, rfl, st114, hs115, ho112⟩ := jx ho112
 rw [hB113] at hs115
 try dsimp only at hs115
 refine PC.seq fun K117 hK117 => ?_
 refine SR fun K118 hK118 => ?_
 refine Q1 _ (ja f7) ?_
 refine Q1 _ (ja f13) ?_
 obtain ⟨x119, hx119, hs115⟩ := bs hs115
 refine Q1 (PV.pp 1007 ((x89 : Int).toNat * 1) (qo q29)) (vw (rep := B) Js o1007 (e_ q29) (e_ (I x89)) hx119) ?_
 refine Q1 (B x119) (z1 Vo (e_ (PV.pp 1007 ((x89 : Int).toNat * 1) (qo q29))) o1007 hx119) ?_
 refine Q1 _ (ja (e_ (B x119))) ?_
 refine GT q27 rfl (e_ (B x119)) (fun hb => ja f6) ?_
 refine GT (I x89) rfl (e_ (B x119)) (fun hb => ja f13) ?_
 obtain ⟨x120, hx120, hs115⟩ := bs hs115
 refine GT (PV.pp 1006 ((x89 : Int).toNat * 1) (qo q27)) rfl (e_ (B x119)) (fun hb => vw (rep := S) V6 o1006 (gvp hb (e_ (gv x119 q27))) (gvp hb (e_ (gv x119 (I x89)))) (G.cond_pos hx120 hb)) ?_
 refine GT (S x120) rfl (e_ (B x119)) (fun hb => z1 Yx (gvp hb (e_ (gv x119 (PV.pp 1006 ((x89 : Int).toNat * 1) (qo q27))))) o1006 (G.cond_pos hx120 hb)) ?_
 refine GT (I (x120.size : Int)) rfl (e_ (B x119)) (fun hb => yx qz (gvp hb (e_ (gv x119 (S x120))))) ?_
 refine GT (I x25) rfl (e_ (B x119)) (fun hb => ja f8) ?_
 refine GT (B (decide ((x120.size : Int) = x25))) rfl (e_ (B x119)) (fun hb => jh rfl (gvp hb (e_ (gv x119 (I (x120.size : Int))))) (gvp hb (e_ (gv x119 (I x25)))) j9) ?_
 refine Q1 (B (x119 && (decide ((x120.size : Int) = x25)))) (vm (e_ (B x119)) (e_ (gv x119 (B (decide ((x120.size : Int) = x25))))) rfl) ?_
 refine Q1 _ (ja (e_ (B (x119 && (decide ((x120.size : Int) = x25)))))) ?_
 refine GT (I x109) rfl (e_ (B (x119 && (decide ((x120.size : Int) = x25))))) (fun hb => ja f14) ?_
 refine GT (PV.rp ((jc a0).cells.drop 256)) rfl (e_ (B (x119 && (decide ((x120.size : Int) = x25))))) (fun hb => j5 J5 qu (by decide) f2) ?_
 refine GT (I a0.ji) rfl (e_ (B (x119 && (decide ((x120.size : Int) = x25))))) (fun hb => jz qu (gvp hb (e_ (gv (x119 && (decide ((x120.size : Int) = x25))) (PV.rp ((jc a0).cells.drop 256))))) (yv a0)) ?_
 refine GT (B (decide (x109 < a0.ji))) rfl (e_ (B (x119 && (decide ((x120.size : Int) = x25))))) (fun hb => jh rfl (gvp hb (e_ (gv (x119 && (decide ((x120.size : Int) = x25))) (I x109)))) (gvp hb (e_ (gv (x119 && (decide ((x120.size : Int) = x25))) (I a0.ji)))) jw) ?_
 refine Q1 (B ((x119 && (decide ((x120.size : Int) = x25))) && (decide (x109 < a0.ji)))) (vm (e_ (B (x119 && (decide ((x120.size : Int) = x25))))) (e_ (gv (x119 && (decide ((x120.size : Int) = x25))) (B (decide (x109 < a0.ji))))) rfl) ?_
 refine PL.nil (hK118 _ _ ?_)
 refine A9 1 f1 2 f2 6 f6 7 f7 8 f8 12 f12 13 f13 14 f14 118 (e_ (B ((x119 && (decide ((x120.size : Int) = x25))) && (decide (x109 < a0.ji))))) fun F f1 f2 f6 f7 f8 f12 f13 f14 f118 => ?_
 rcases cz hs115 with ⟨hb121, hs115⟩ | ⟨hb121, hs115⟩
 refine PC.condTb f118 hb121 ?_
 refine PC.skip ?_
 refine hK117 _ _ ?_
 refine A8 1 f1 2 f2 6 f6 7 f7 8 f8 12 f12 13 f13 14 f14 fun F f1 f2 f6 f7 f8 f12 f13 f14 => ?_
 obtain ⟨o123, ho123, hs115⟩ := bs hs115
 refine PC.seqM (fun F H => ∃ s145 : (List ByteArray), ∃ q125, o123 = s145 ∧ F 1 = (I a1) ∧ F 2 = (PV.rp (jc a0).cells) ∧ F 6 = q27 ∧ F 7 = q29 ∧ F 8 = (I x25) ∧ F 12 = q125 ∧ F 13 = (I x89) ∧ F 14 = (I x109) ∧ ownL 9 1 S H 1006 q27 x26 ∧ ownL 4 1 B H 1007 q29 x28 ∧ ownL 9 1 S H 1012 q125 s145) ?_ ?_
 refine PC.block ?_
 refine SR fun K126 hK126 => ?_
 refine Q1 (PV.rp ((jc a0).cells.drop 257)) (j5 qy j8 (by decide) f2) ?_
 refine Q1 (qk a0.jd) (jz j8 (e_ (PV.rp ((jc a0).cells.drop 257))) (j7 a0)) ?_
 refine Q1 _ (ja f13) ?_
 obtain ⟨x127, hx127, ho123⟩ := bs ho123
 refine Q1 (PV.rp (slI x127).cells) (j0 (rep := slI) (xs := a0.jd) Jy (e_ (qk a0.jd)) (e_ (I x89)) hx127) ?_
 refine Q1 (slI x127) (qn ql (e_ (PV.rp (slI x127).cells))) ?_
 refine Q1 _ (ja f14) ?_
 obtain ⟨x128, hx128, ho123⟩ := bs ho123
 refine Q1 (PV.rp (I x128).cells) (j0 (rep := I) (xs := x127) q6 (e_ (slI x127)) (e_ (I x109)) hx128) ?_
 refine Q1 (I x128) (qn qu (e_ (PV.rp (I x128).cells))) ?_
 refine Q1 _ (jf (e_ (I x128))) ?_
 refine PL.nil (hK126 _ _ ?_)
 refine A9 1 f1 2 f2 6 f6 7 f7 8 f8 12 f12 13 f13 14 f14 15 (e_ (I x128)) fun F f1 f2 f6 f7 f8 f12 f13 f14 f15 => ?_
 refine PC.seq fun K129 hK129 => ?_
 refine SR fun K130 hK130 => ?_
 refine Q1 _ (ja f15) ?_
 refine Q1 _ (jh rfl (e_ (I x128)) (e_ (I 0)) jw) ?_
 refine Q1 _ (ja (e_ (B (decide (x128 < 0))))) ?_
 refine GF q29 rfl (e_ (B (decide (x128 < 0)))) (fun hb => ja f7) ?_
 refine GF (I x128) rfl (e_ (B (decide (x128 < 0)))) (fun hb => ja f15) ?_
 obtain ⟨x131, hx131, ho123⟩ := bs ho123
 refine GF (PV.pp 1007 ((x128 : Int).toNat * 1) (qo q29)) rfl (e_ (B (decide (x128 < 0)))) (fun hb => vw (rep := B) Js o1007 (gvp hb (e_ (gv (!(decide (x128 < 0))) q29))) (gvp hb (e_ (gv (!(decide (x128 < 0))) (I x128)))) (G.cond_pos hx131 hb)) ?_
 refine GF (B x131) rfl (e_ (B (decide (x128 < 0)))) (fun hb => z1 Vo (gvp hb (e_ (gv (!(decide (x128 < 0))) (PV.pp 1007 ((x128 : Int).toNat * 1) (qo q29))))) o1007 (G.cond_pos hx131 hb)) ?_
 refine GF (B x131) rfl (e_ (B (decide (x128 < 0)))) (fun hb => ja (gvp hb (e_ (gv (!(decide (x128 < 0))) (B x131))))) ?_
 refine PL.gq (p := q27) (c := (!(decide (x128 < 0)))) (c' := ((!(decide (x128 < 0))) && x131)) rfl rfl (e_ (gv (!(decide (x128 < 0))) (B x131))) (Ja _ _) (qi (by decide)) (fun hb => jy (ja f6)) ?_
 refine PL.gq (p := (I x128)) (c := (!(decide (x128 < 0)))) (c' := ((!(decide (x128 < 0))) && x131)) rfl rfl (e_ (gv (!(decide (x128 < 0))) (B x131))) (Ja _ _) (qi (by decide)) (fun hb => jy (ja f15)) ?_
 obtain ⟨x132, hx132, ho123⟩ := bs ho123
 refine PL.gq (p := (PV.pp 1006 ((x128 : Int).toNat * 1) (qo q27))) (c := (!(decide (x128 < 0)))) (c' := ((!(decide (x128 < 0))) && x131)) rfl rfl (e_ (gv (!(decide (x128 < 0))) (B x131))) (Ja _ _) (qi (by decide)) (fun hb => jy (vw (rep := S) V6 o1006 (gvp hb (e_ (gv ((!(decide (x128 < 0))) && x131) q27))) (gvp hb (e_ (gv ((!(decide (x128 < 0))) && x131) (I x128)))) (G.cond_pos hx132 hb))) ?_
 refine PL.gq (p := (S x132)) (c := (!(decide (x128 < 0)))) (c' := ((!(decide (x128 < 0))) && x131)) rfl rfl (e_ (gv (!(decide (x128 < 0))) (B x131))) (Ja _ _) (qi (by decide)) (fun hb => jy (z1 Yx (gvp hb (e_ (gv ((!(decide (x128 < 0))) && x131) (PV.pp 1006 ((x128 : Int).toNat * 1) (qo q27))))) o1006 (G.cond_pos hx132 hb))) ?_
 refine PL.gq (p := (I (x132.size : Int))) (c := (!(decide (x128 < 0)))) (c' := ((!(decide (x128 < 0))) && x131)) rfl rfl (e_ (gv (!(decide (x128 < 0))) (B x131))) (Ja _ _) (qi (by decide)) (fun hb => jy (yx qz (gvp hb (e_ (gv ((!(decide (x128 < 0))) && x131) (S x132)))))) ?_
 refine PL.gq (p := (I x25)) (c := (!(decide (x128 < 0)))) (c' := ((!(decide (x128 < 0))) && x131)) rfl rfl (e_ (gv (!(decide (x128 < 0))) (B x131))) (Ja _ _) (qi (by decide)) (fun hb => jy (ja f8)) ?_
 refine PL.gq (p := (B (decide ((x132.size : Int) ≤ x25)))) (c := (!(decide (x128 < 0)))) (c' := ((!(decide (x128 < 0))) && x131)) rfl rfl (e_ (gv (!(decide (x128 < 0))) (B x131))) (Ja _ _) (qi (by decide)) (fun hb => jy (jh rfl (gvp hb (e_ (gv ((!(decide (x128 < 0))) && x131) (I (x132.size : Int))))) (gvp hb (e_ (gv ((!(decide (x128 < 0))) && x131) (I x25)))) J4)) ?_
 refine GF (B (x131 && (decide ((x132.size : Int) ≤ x25)))) rfl (e_ (B (decide (x128 < 0)))) (fun hb => Yj hb (gvp hb (e_ (gv (!(decide (x128 < 0))) (B x131)))) (e_ (gv ((!(decide (x128 < 0))) && x131) (B (decide ((x132.size : Int) ≤ x25))))) rfl) ?_
 refine Q1 (B ((decide (x128 < 0)) || (x131 && (decide ((x132.size : Int) ≤ x25))))) (yj (e_ (B (decide (x128 < 0)))) rfl (e_ (gv (!(decide (x128 < 0))) (B (x131 && (decide ((x132.size : Int) ≤ x25))))))) ?_
 refine PL.nil (hK130 _ _ ?_)
 refine A10 1 f1 2 f2 6 f6 7 f7 8 f8 12 f12 13 f13 14 f14 15 f15 145 (e_ (B ((decide (x128 < 0)) || (x131 && (decide ((x132.size : Int) ≤ x25)))))) fun F f1 f2 f6 f7 f8 f12 f13 f14 f15 f145 => ?_
 rcases cz ho123 with ⟨hb133, ho123⟩ | ⟨hb133, ho123⟩
 refine PC.condTb f145 hb133 ?_
 refine PC.exit ?_
 have ho123 := pz ho123
 subst ho123
 exact ⟨x110, q111, rfl, f1, f2, f6, f7, f8, f12, f13, f14, o1006, o1007, o1012⟩
 refine PC.condFb f145 hb133 ?_
 refine PC.skip ?_
 refine hK129 _ _ ?_
 refine A9 1 f1 2 f2 6 f6 7 f7 8 f8 12 f12 13 f13 14 f14 15 f15 fun F f1 f2 f6 f7 f8 f12 f13 f14 f15 => ?_
 refine PC.seq fun K134 hK134 => ?_
 refine PC.regionQ mixed (by kernel_rfl) ?_
 refine Q2 _ (ja f6) ?_
 refine Q2 _ (ja f13) ?_
 obtain ⟨x135, hx135, ho123⟩ := bs ho123
 refine Q2 (PV.pp 1006 ((x89 : Int).toNat * 1) (qo q27)) (vw (rep := S) V6 o1006 (e_ q27) (e_ (I x89)) hx135) ?_
 refine Q2 (S x135) (z1 Yx (e_ (PV.pp 1006 ((x89 : Int).toNat * 1) (qo q27))) o1006 hx135) ?_
 refine Q2 (PV.rp ((jc a0).cells.drop 0)) (j5 Vw y5 (by decide) f2) ?_
 refine Q2 ((arV (n := 256) U8) a0.jp) (jz y5 (e_ (PV.rp ((jc a0).cells.drop 0))) (zr a0)) ?_
 refine Q2 _ (ja f14) ?_
 obtain ⟨x136, hx136, ho123⟩ := bs ho123
 refine Q4 (V5 x136) (j3 (by kernel_rfl) (am (e_ ((arV (n := 256) U8) a0.jp)) (am (e_ (I x109)) (am0))) (ju (vg _ (fun _ => (.u _))) (ju (.u _) (j6))) (zbv hx136)) ?_
 obtain ⟨x137, hx137, ho123⟩ := bs ho123
 refine Q2 (V5 x137) (zpf (rep := U8) zkk (e_ (V5 x136)) (e_ (I 1)) hx137) ?_
 refine Q4 (S (strOfNums x137)) (zht (e := 5) (rep := U8) (fun _ => rfl) (by kernel_rfl) (by kernel_rfl) (by kernel_rfl) (e_ (V5 x137))) ?_
 obtain ⟨x138, hx138, ho123⟩ := bs ho123
 refine Q2 _ (jh rfl (e_ (S x135)) (e_ (S (strOfNums x137))) (zor hx138)) ?_
 refine Q2 _ (jf (e_ (S x138))) ?_
 refine QF.nil ?_
 refine hK134 _ _ ?_
 refine A10 1 f1 2 f2 6 f6 7 f7 8 f8 12 f12 13 f13 14 f14 15 f15 16 (e_ (S x138)) fun F f1 f2 f6 f7 f8 f12 f13 f14 f15 f16 => ?_
 refine SR fun K139 hK139 => ?_
 refine Q1 _ (ja f12) ?_
 refine Q1 _ (ja f15) ?_
 obtain ⟨x140, hx140, ho123⟩ := bs ho123
 refine Q1 (PV.pp 1012 ((x128 : Int).toNat * 1) (qo q111)) (vw (rep := S) V6 o1012 (e_ q111) (e_ (I x128)) hx140) ?_
 refine Q1 (S x140) (z1 Yx (e_ (PV.pp 1012 ((x128 : Int).toNat * 1) (qo q111))) o1012 hx140) ?_
 refine Q1 _ (jh rfl (e_ (S x140)) (e_ (S (⟨#[]⟩ : ByteArray))) (zde _ _)) ?_
 refine Q1 _ (ja (e_ (B (x140.toList == (⟨#[]⟩ : ByteArray).toList)))) ?_
 refine GF (S x138) rfl (e_ (B (x140.toList == (⟨#[]⟩ : ByteArray).toList))) (fun hb => ja f16) ?_
 refine GF q111 rfl (e_ (B (x140.toList == (⟨#[]⟩ : ByteArray).toList))) (fun hb => ja f12) ?_
 refine GF (I x128) rfl (e_ (B (x140.toList == (⟨#[]⟩ : ByteArray).toList))) (fun hb => ja f15) ?_
 obtain ⟨x141, hx141, ho123⟩ := bs ho123
 refine GF (PV.pp 1012 ((x128 : Int).toNat * 1) (qo q111)) rfl (e_ (B (x140.toList == (⟨#[]⟩ : ByteArray).toList))) (fun hb => vw (rep := S) V6 o1012 (gvp hb (e_ (gv (!(x140.toList == (⟨#[]⟩ : ByteArray).toList)) q111))) (gvp hb (e_ (gv (!(x140.toList == (⟨#[]⟩ : ByteArray).toList)) (I x128)))) (G.cond_pos hx141 hb)) ?_
 refine GF (S x141) rfl (e_ (B (x140.toList == (⟨#[]⟩ : ByteArray).toList))) (fun hb => z1 Yx (gvp hb (e_ (gv (!(x140.toList == (⟨#[]⟩ : ByteArray).toList)) (PV.pp 1012 ((x128 : Int).toNat * 1) (qo q111))))) o1012 (G.cond_pos hx141 hb)) ?_
 refine GF (B (zb7 x138 x141)) rfl (e_ (B (x140.toList == (⟨#[]⟩ : ByteArray).toList))) (fun hb => jh rfl (gvp hb (e_ (gv (!(x140.toList == (⟨#[]⟩ : ByteArray).toList)) (S x138)))) (gvp hb (e_ (gv (!(x140.toList == (⟨#[]⟩ : ByteArray).toList)) (S x141)))) (zow _ _)) ?_
 refine Q1 (B ((x140.toList == (⟨#[]⟩ : ByteArray).toList) || (zb7 x138 x141))) (yj (e_ (B (x140.toList == (⟨#[]⟩ : ByteArray).toList))) rfl (e_ (gv (!(x140.toList == (⟨#[]⟩ : ByteArray).toList)) (B (zb7 x138 x141))))) ?_
 refine PL.nil (hK139 _ _ ?_)
 refine A11 1 f1 2 f2 6 f6 7 f7 8 f8 12 f12 13 f13 14 f14 15 f15 16 f16 169 (e_ (B ((x140.toList == (⟨#[]⟩ : ByteArray).toList) || (zb7 x138 x141)))) fun F f1 f2 f6 f7 f8 f12 f13 f14 f15 f16 f169 => ?_
 rcases cz ho123 with ⟨hb142, ho123⟩ | ⟨hb142, ho123⟩
 refine PC.condTb f169 hb142 ?_
 refine PC.region ?_
 refine Q1 _ (ja f12) ?_
 refine Q1 _ (ja f15) ?_
 refine Q1 _ (ja f16) ?_
 obtain ⟨x143, hx143, ho123⟩ := bs ho123
 refine Q1 (PV.pp 1012 ((x128 : Int).toNat * 1) (qo q111)) (vw (rep := S) V6 o1012 (e_ q111) (e_ (I x128)) hx143) ?_
 refine PL.stO (rep := S) (v := x138) rfl rfl (fun _ h => by cases h) (e_ (PV.pp 1012 ((x128 : Int).toNat * 1) (qo q111))) o1012 Yx hx143 (e_ (S x138)) (fun _ => rfl) fun H o1012 fz144 => ?_
 have o1006 := o1006.mono (fz144 1006 (by decide))
 have o1007 := o1007.mono (fz144 1007 (by decide))
 refine PL.nil ?_
 have ho123 := pz ho123
 subst ho123
 exact ⟨(x110.set (x128 : Int).toNat x138), q111, rfl, f1, f2, f6, f7, f8, f12, f13, f14, o1006, o1007, o1012⟩
 refine PC.condFb f169 hb142 ?_
 refine PC.skip ?_
 have ho123 := pz ho123
 subst ho123
 exact ⟨x110, q111, rfl, f1, f2, f6, f7, f8, f12, f13, f14, o1006, o1007, o1012⟩
 intro F H hI
 obtain ⟨x124, q125, ho, f1, f2, f6, f7, f8, f12, f13, f14, o1006, o1007, o1012⟩ := hI
 have ho := ho.symm
 subst ho
 try dsimp only at hs115
 refine PC.region ?_
 refine Q1 _ (ja f14) ?_
 refine Q1 _ (jh rfl (e_ (I x109)) (e_ (I 1)) j4) ?_
 refine Q1 _ (jf (e_ (I (w64 (x109 + 1))))) ?_
 refine PL.nil ?_
 have hs115 := pz hs115
 subst hs115
 exact ⟨m116, Nat.lt_succ_self _, ((w64 (x109 + 1)), x124), q125, ho112, f1, f2, f6, f7, f8, f12, f13, (e_ (I (w64 (x109 + 1)))), o1006, o1007, o1012⟩
 refine PC.condFb f118 hb121 ?_
 refine PC.exit ?_
 have hs115 := pz hs115
 subst hs115
 try dsimp only at ho112
 subst ho112
 try dsimp only at hs95
 refine hK100 _ _ ?_
 refine A7 1 f1 2 f2 6 f6 7 f7 8 f8 12 f12 13 f13 fun F f1 f2 f6 f7 f8 f12 f13 => ?_
 refine PC.region ?_
 refine Q1 _ (ja f13) ?_
 refine Q1 _ (jh rfl (e_ (I x89)) (e_ (I 1)) j4) ?_
 refine Q1 _ (jf (e_ (I (w64 (x89 + 1))))) ?_
 refine PL.nil ?_
 have hs95 := pz hs95
 subst hs95
 exact ⟨m96, Nat.lt_succ_self _, ((w64 (x89 + 1)), x110), q111, ho92, f1, f2, f6, f7, f8, f12, (e_ (I (w64 (x89 + 1)))), o1006, o1007, o1012⟩
 refine PC.condFb f97 hb99 ?_
 refine PC.exit ?_
 have hs95 := pz hs95
 subst hs95
 try dsimp only at ho92
 subst ho92
 try dsimp only at hs33
 refine hK80 _ _ ?_
 refine A6 1 f1 2 f2 6 f6 7 f7 8 f8 12 f12 fun F f1 f2 f6 f7 f8 f12 => ?_
 refine SR fun K149 hK149 => ?_
 refine Q1 _ (jf (e_ (I 0))) ?_
 refine PL.nil (hK149 _ _ ?_)
 refine A7 1 f1 2 f2 6 f6 7 f7 8 f8 12 f12 17 (e_ (I 0)) fun F f1 f2 f6 f7 f8 f12 f17 => ?_
 refine PC.block ?_
 obtain ⟨o162, ho162, hs33⟩ := bs hs33
 obtain ⟨B163, hB163, ho162⟩ := G.loop_some ho162
 refine PC.loop (fun m166 F H => ∃ s191 : (Int × (List ByteArray) × (List Bool)), ∃ q159, ∃ q161, qt B163 m166 s191 = some o162 ∧ F 1 = (I a1) ∧ F 2 = (PV.rp (jc a0).cells) ∧ F 6 = q159 ∧ F 7 = q161 ∧ F 8 = (I x25) ∧ F 12 = q91 ∧ F 17 = (I s191.1) ∧ ownL 9 1 S H 1006 q159 s191.2.1 ∧ ownL 4 1 B H 1007 q161 s191.2.2 ∧ ownL 9 1 S H 1012 q91 x90) (m := nn) ⟨(0, x26, x28), q27, q29, ho162, f1, f2, f6, f7, f8, f12, f17, o1006, o1007, o1012⟩ fun m166 F H hI => ?_
 obtain ⟨⟨x157, x158, x160⟩, q159, q161, ho162, f1, f2, f6, f7, f8, f12, f17, o1006, o1007, o1012⟩ := hI
 obtain ⟨m166, rfl, st164, hs165, ho162⟩ := jx ho162
 rw [hB163] at hs165
 try dsimp only at hs165
 refine PC.seq fun K167 hK167 => ?_
 refine SR fun K168 hK168 => ?_
 refine Q1 _ (ja f17) ?_
 refine Q1 (PV.rp ((jc a0).cells.drop 257)) (j5 qy j8 (by decide) f2) ?_
 refine Q1 (qk a0.jd) (jz j8 (e_ (PV.rp ((jc a0).cells.drop 257))) (j7 a0)) ?_
 refine Q1 (I (a0.jd.length : Int)) (qh (rep := slI) (xs := a0.jd) qv (e_ (qk a0.jd))) ?_
 refine Q1 _ (jh rfl (e_ (I x157)) (e_ (I (a0.jd.length : Int))) jw) ?_
 refine PL.nil (hK168 _ _ ?_)
 refine A8 1 f1 2 f2 6 f6 7 f7 8 f8 12 f12 17 f17 178 (e_ (B (decide (x157 < (a0.jd.length : Int))))) fun F f1 f2 f6 f7 f8 f12 f17 f178 => ?_
 rcases cz hs165 with ⟨hb169, hs165⟩ | ⟨hb169, hs165⟩
 refine PC.condTb f178 hb169 ?_
 refine PC.skip ?_
 refine hK167 _ _ ?_
 refine A7 1 f1 2 f2 6 f6 7 f7 8 f8 12 f12 17 f17 fun F f1 f2 f6 f7 f8 f12 f17 => ?_
 obtain ⟨o171, ho171, hs165⟩ := bs hs165
 refine PC.seqM (fun F H => ∃ s186 : ((List ByteArray) × (List Bool)), ∃ q173, ∃ q175, o171 = s186 ∧ F 1 = (I a1) ∧ F 2 = (PV.rp (jc a0).cells) ∧ F 6 = q173 ∧ F 7 = q175 ∧ F 8 = (I x25) ∧ F 12 = q91 ∧ F 17 = (I x157) ∧ ownL 9 1 S H 1006 q173 s186.1 ∧ ownL 4 1 B H 1007 q175 s186.2 ∧ ownL 9 1 S H 1012 q91 x90) ?_ ?_
 refine PC.block ?_
 refine SR fun K176 hK176 => ?_
 refine Q1 _ (ja f12) ?_
 refine Q1 _ (ja f17) ?_
 obtain ⟨x177, hx177, ho171⟩ := bs ho171
 refine Q1 (PV.pp 1012 ((x157 : Int).toNat * 1) (qo q91)) (vw (rep := S) V6 o1012 (e_ q91) (e_ (I x157)) hx177) ?_
 refine Q1 (S x177) (z1 Yx (e_ (PV.pp 1012 ((x157 : Int).toNat * 1) (qo q91))) o1012 hx177) ?_
 refine Q1 _ (jh rfl (e_ (S x177)) (e_ (S (⟨#[]⟩ : ByteArray))) (znp _ _)) ?_
 refine Q1 _ (ja (e_ (B (!(x177.toList == (⟨#[]⟩ : ByteArray).toList))))) ?_
 refine GT q161 rfl (e_ (B (!(x177.toList == (⟨#[]⟩ : ByteArray).toList)))) (fun hb => ja f7) ?_
 refine GT (I x157) rfl (e_ (B (!(x177.toList == (⟨#[]⟩ : ByteArray).toList)))) (fun hb => ja f17) ?_
 obtain ⟨x178, hx178, ho171⟩ := bs ho171
 refine GT (PV.pp 1007 ((x157 : Int).toNat * 1) (qo q161)) rfl (e_ (B (!(x177.toList == (⟨#[]⟩ : ByteArray).toList)))) (fun hb => vw (rep := B) Js o1007 (gvp hb (e_ (gv (!(x177.toList == (⟨#[]⟩ : ByteArray).toList)) q161))) (gvp hb (e_ (gv (!(x177.toList == (⟨#[]⟩ : ByteArray).toList)) (I x157)))) (G.cond_pos hx178 hb)) ?_
 refine GT (B x178) rfl (e_ (B (!(x177.toList == (⟨#[]⟩ : ByteArray).toList)))) (fun hb => z1 Vo (gvp hb (e_ (gv (!(x177.toList == (⟨#[]⟩ : ByteArray).toList)) (PV.pp 1007 ((x157 : Int).toNat * 1) (qo q161))))) o1007 (G.cond_pos hx178 hb)) ?_
 refine GT (B (!x178)) rfl (e_ (B (!(x177.toList == (⟨#[]⟩ : ByteArray).toList)))) (fun hb => yn (gvp hb (e_ (gv (!(x177.toList == (⟨#[]⟩ : ByteArray).toList)) (B x178))))) ?_
 refine Q1 (B ((!(x177.toList == (⟨#[]⟩ : ByteArray).toList)) && (!x178))) (vm (e_ (B (!(x177.toList == (⟨#[]⟩ : ByteArray).toList)))) (e_ (gv (!(x177.toList == (⟨#[]⟩ : ByteArray).toList)) (B (!x178)))) rfl) ?_
 refine PL.nil (hK176 _ _ ?_)
 refine A8 1 f1 2 f2 6 f6 7 f7 8 f8 12 f12 17 f17 192 (e_ (B ((!(x177.toList == (⟨#[]⟩ : ByteArray).toList)) && (!x178)))) fun F f1 f2 f6 f7 f8 f12 f17 f192 => ?_
 rcases cz ho171 with ⟨hb179, ho171⟩ | ⟨hb179, ho171⟩
 refine PC.condTb f192 hb179 ?_
 refine SR fun K180 hK180 => ?_
 refine Q1 _ (ja f6) ?_
 refine Q1 _ (ja f17) ?_
 refine Q1 _ (ja f12) ?_
 refine Q1 _ (ja f17) ?_
 obtain ⟨x181, hx181, ho171⟩ := bs ho171
 refine Q1 (PV.pp 1012 ((x157 : Int).toNat * 1) (qo q91)) (vw (rep := S) V6 o1012 (e_ q91) (e_ (I x157)) hx181) ?_
 refine Q1 (S x181) (z1 Yx (e_ (PV.pp 1012 ((x157 : Int).toNat * 1) (qo q91))) o1012 hx181) ?_
 obtain ⟨x182, hx182, ho171⟩ := bs ho171
 refine Q1 (PV.pp 1006 ((x157 : Int).toNat * 1) (qo q159)) (vw (rep := S) V6 o1006 (e_ q159) (e_ (I x157)) hx182) ?_
 refine PL.stO (rep := S) (v := x181) rfl rfl (fun _ h => by cases h) (e_ (PV.pp 1006 ((x157 : Int).toNat * 1) (qo q159))) o1006 Yx hx182 (e_ (S x181)) (fun _ => rfl) fun H o1006 fz183 => ?_
 have o1007 := o1007.mono (fz183 1007 (by decide))
 have o1012 := o1012.mono (fz183 1012 (by decide))
 refine PL.nil (hK180 _ _ ?_)
 refine A7 1 f1 2 f2 6 f6 7 f7 8 f8 12 f12 17 f17 fun F f1 f2 f6 f7 f8 f12 f17 => ?_
 refine PC.region ?_
 refine Q1 _ (ja f7) ?_
 refine Q1 _ (ja f17) ?_
 obtain ⟨x184, hx184, ho171⟩ := bs ho171
 refine Q1 (PV.pp 1007 ((x157 : Int).toNat * 1) (qo q161)) (vw (rep := B) Js o1007 (e_ q161) (e_ (I x157)) hx184) ?_
 refine PL.stO (rep := B) (v := true) rfl rfl (fun _ h => by cases h) (e_ (PV.pp 1007 ((x157 : Int).toNat * 1) (qo q161))) o1007 Vo hx184 (e_ (B true)) (fun _ => rfl) fun H o1007 fz185 => ?_
 have o1006 := o1006.mono (fz185 1006 (by decide))
 have o1012 := o1012.mono (fz185 1012 (by decide))
 refine PL.nil ?_
 have ho171 := pz ho171
 subst ho171
 exact ⟨((x158.set (x157 : Int).toNat x181), (x160.set (x157 : Int).toNat true)), q159, q161, rfl, f1, f2, f6, f7, f8, f12, f17, o1006, o1007, o1012⟩
 refine PC.condFb f192 hb179 ?_
 refine PC.skip ?_
 have ho171 := pz ho171
 subst ho171
 exact ⟨(x158, x160), q159, q161, rfl, f1, f2, f6, f7, f8, f12, f17, o1006, o1007, o1012⟩
 intro F H hI
 obtain ⟨⟨x172, x174⟩, q173, q175, ho, f1, f2, f6, f7, f8, f12, f17, o1006, o1007, o1012⟩ := hI
 have ho := ho.symm
 subst ho
 try dsimp only at hs165
 refine PC.region ?_
 refine Q1 _ (ja f17) ?_
 refine Q1 _ (jh rfl (e_ (I x157)) (e_ (I 1)) j4) ?_
 refine Q1 _ (jf (e_ (I (w64 (x157 + 1))))) ?_
 refine PL.nil ?_
 have hs165 := pz hs165
 subst hs165
 exact ⟨m166, Nat.lt_succ_self _, ((w64 (x157 + 1)), x172, x174), q173, q175, ho162, f1, f2, f6, f7, f8, f12, (e_ (I (w64 (x157 + 1)))), o1006, o1007, o1012⟩
 refine PC.condFb f178 hb169 ?_
 refine PC.exit ?_
 have hs165 := pz hs165
 subst hs165
 try dsimp only at ho162
 subst ho162
 try dsimp only at hs33
 refine hK38 _ _ ?_
 refine A5 1 f1 2 f2 6 f6 7 f7 8 f8 fun F f1 f2 f6 f7 f8 => ?_
 refine PC.region ?_
 refine Q1 _ (ja f8) ?_
 refine Q1 _ (jh rfl (e_ (I x25)) (e_ (I 1)) j4) ?_
 refine Q1 _ (jf (e_ (I (w64 (x25 + 1))))) ?_
 refine PL.nil ?_
 have hs33 := pz hs33
 subst hs33
 exact ⟨m34, Nat.lt_succ_self _, ((w64 (x25 + 1)), x158, x160), q159, q161, ho30, f1, f2, f6, f7, (e_ (I (w64 (x25 + 1)))), o1006, o1007⟩
 refine PC.condFb f39 hb37 ?_
 refine PC.exit ?_
 have hs33 := pz hs33
 subst hs33
 try dsimp only at ho30
 subst ho30
 try dsimp only at h0
 refine hK18 _ _ ?_
 refine PC.absF (fun F => True) trivial ?_
 intro F hI
 clear hI
 refine SR fun K407 hK407 => ?_
 refine Q1 _ (jf (e_ (S (⟨#[]⟩ : ByteArray)))) ?_
 refine Q1 _ (jf (e_ (B false))) ?_
 refine PL.nil (hK407 _ _ ?_)
 refine A2 4 (e_ (S (⟨#[]⟩ : ByteArray))) 5 (e_ (B false)) fun F f4 f5 => ?_
 refine PC.ret ?_
 have h0 := pz h0
 subst h0
 exact fin (.inr rfl) (zq (ss := [4, 5]) (ps := [(S (⟨#[]⟩ : ByteArray)), (B false)]) Tryz.results16 (by decide) (rm f4 (rm f5 (rfl)))) (.tup _ (ju (.u _) (ju (.u _) (j6))))
def Yw (a0 : (List Int)) (a1 : Int) : G (List Int) :=
  G.bind (z8 a0 a1) fun x4 => G.cond x4 (G.pure a0) (G.bind (G.loop (σ := (Int × (List Int))) (α := (List Int)) (fun (x15, x16) => G.bind (G.cond (decide (x15 < (a0.length : Int))) (G.lift (idx a0 x15)) (G.pure 0)) fun x25 => G.cond ((decide (x15 < (a0.length : Int))) && (decide (x25 < a1))) (G.bind (G.lift (idx a0 x15)) fun x28 => G.bind (G.lift (app 8 x16 ([x28] : List Int))) fun x29 => G.pure (.inl ((w64 (x15 + 1)), x29))) (G.pure (.inr x16))) (0, [])) fun x65 => G.bind (G.lift (app 8 x65 ([a1] : List Int))) fun x69 => G.bind (G.loop (σ := (Int × (List Int))) (α := (List Int)) (fun (x77, x78) => G.cond (decide (x77 < (a0.length : Int))) (G.bind (G.lift (idx a0 x77)) fun x89 => G.bind (G.lift (app 8 x78 ([x89] : List Int))) fun x90 => G.pure (.inl ((w64 (x77 + 1)), x90))) (G.pure (.inr x78))) ((x65.length : Int), x69)) fun x95 => G.pure x95)
theorem zjg {nn : Nat} {a0 : (List Int)} {a1 : Int} {r : (List Int)} (h0 : Yw a0 a1 nn = some r) : PCall Tryz.prog 42 [slI a0, I a1] (· = slI r) := by
 unfold Yw at h0
 refine PCall.intro' Tryz.func42 rfl Tryz.ntmps42 (by simp) fun W => ?_
 refine A2 0 (e_ (slI a0)) 1 (e_ (I a1)) fun F f0 f1 => ?_
 generalize PHeap.empty = H
 refine SR fun K1 hK1 => ?_
 refine Q1 (PV.u (.slice none 0 0)) (jf rfl) ?_
 have o1000 : ownL 3 1 I H 1000 (PV.u (.slice none 0 0)) [] := ownL.nil _ _
 refine PL.nil (hK1 _ _ ?_)
 refine A2 0 f0 1 f1 fun F f0 f1 => ?_
 refine PC.seq fun K2 hK2 => ?_
 refine SR fun K3 hK3 => ?_
 refine Q1 _ (ja f0) ?_
 refine Q1 _ (ja f1) ?_
 obtain ⟨x4, hx4, h0⟩ := bs h0
 refine Q3 (B x4) (j3 (by kernel_rfl) (am (e_ (slI a0)) (am (e_ (I a1)) (am0))) (ju (vt _) (ju (.u _) (j6))) (Yp hx4)) ?_
 refine PL.nil (hK3 _ _ ?_)
 refine A3 0 f0 1 f1 11 (e_ (B x4)) fun F f0 f1 f11 => ?_
 rcases cz h0 with ⟨hb5, h0⟩ | ⟨hb5, h0⟩
 refine PC.condTb f11 hb5 ?_
 refine SR fun K6 hK6 => ?_
 refine Q1 _ (ja f0) ?_
 refine Q1 _ (jf (e_ (slI a0))) ?_
 refine PL.nil (hK6 _ _ ?_)
 refine A1 4 (e_ (slI a0)) fun F f4 => ?_
 refine PC.ret ?_
 have h0 := pz h0
 subst h0
 exact fin (.inr rfl) (qc Tryz.results42 f4) (vt _)
 refine PC.condFb f11 hb5 ?_
 refine PC.skip ?_
 refine hK2 _ _ ?_
 refine A2 0 f0 1 f1 fun F f0 f1 => ?_
 refine SR fun K7 hK7 => ?_
 refine PL.litO (rep := I) (xs := []) 1000 rfl rfl rfl (by decide) qb rfl (by decide) (bm0) rfl rfl fun q8 H o1000 fz9 => ?_
 refine Q1 _ (jf (e_ q8)) ?_
 refine PL.nil (hK7 _ _ ?_)
 refine A3 0 f0 1 f1 5 (e_ q8) fun F f0 f1 f5 => ?_
 refine PC.seq fun K10 hK10 => ?_
 refine SR fun K11 hK11 => ?_
 refine Q1 _ (jf (e_ (I 0))) ?_
 refine PL.nil (hK11 _ _ ?_)
 refine A4 0 f0 1 f1 5 f5 6 (e_ (I 0)) fun F f0 f1 f5 f6 => ?_
 refine PC.block ?_
 obtain ⟨o18, ho18, h0⟩ := bs h0
 obtain ⟨B19, hB19, ho18⟩ := G.loop_some ho18
 refine PC.loop (fun m22 F H => ∃ s100 : (Int × (List Int)), ∃ q17, qt B19 m22 s100 = some o18 ∧ F 0 = (slI a0) ∧ F 1 = (I a1) ∧ F 5 = q17 ∧ F 6 = (I s100.1) ∧ ownL 3 1 I H 1000 q17 s100.2) (m := nn) ⟨(0, []), q8, ho18, f0, f1, f5, f6, o1000⟩ fun m22 F H hI => ?_
 obtain ⟨⟨x15, x16⟩, q17, ho18, f0, f1, f5, f6, o1000⟩ := hI
 obtain ⟨m22, rfl, st20, hs21, ho18⟩ := jx ho18
 rw [hB19] at hs21
 try dsimp only at hs21
 refine PC.seq fun K23 hK23 => ?_
 refine SR fun K24 hK24 => ?_
 refine Q1 _ (ja f6) ?_
 refine Q1 _ (ja f0) ?_
 refine Q1 (I (a0.length : Int)) (qh (rep := I) (xs := a0) qm (e_ (slI a0))) ?_
 refine Q1 _ (jh rfl (e_ (I x15)) (e_ (I (a0.length : Int))) jw) ?_
 refine Q1 _ (ja (e_ (B (decide (x15 < (a0.length : Int)))))) ?_
 refine GT (slI a0) rfl (e_ (B (decide (x15 < (a0.length : Int))))) (fun hb => ja f0) ?_
 refine GT (I x15) rfl (e_ (B (decide (x15 < (a0.length : Int))))) (fun hb => ja f6) ?_
 obtain ⟨x25, hx25, hs21⟩ := bs hs21
 refine GT (PV.rp (I x25).cells) rfl (e_ (B (decide (x15 < (a0.length : Int))))) (fun hb => j0 (rep := I) (xs := a0) q6 (gvp hb (e_ (gv (decide (x15 < (a0.length : Int))) (slI a0)))) (gvp hb (e_ (gv (decide (x15 < (a0.length : Int))) (I x15)))) (G.cond_pos hx25 hb)) ?_
 refine GT (I x25) rfl (e_ (B (decide (x15 < (a0.length : Int))))) (fun hb => qn qu (gvp hb (e_ (gv (decide (x15 < (a0.length : Int))) (PV.rp (I x25).cells))))) ?_
 refine GT (I a1) rfl (e_ (B (decide (x15 < (a0.length : Int))))) (fun hb => ja f1) ?_
 refine GT (B (decide (x25 < a1))) rfl (e_ (B (decide (x15 < (a0.length : Int))))) (fun hb => jh rfl (gvp hb (e_ (gv (decide (x15 < (a0.length : Int))) (I x25)))) (gvp hb (e_ (gv (decide (x15 < (a0.length : Int))) (I a1)))) jw) ?_
 refine Q1 (B ((decide (x15 < (a0.length : Int))) && (decide (x25 < a1)))) (vm (e_ (B (decide (x15 < (a0.length : Int))))) (e_ (gv (decide (x15 < (a0.length : Int))) (B (decide (x25 < a1))))) rfl) ?_
 refine PL.nil (hK24 _ _ ?_)
 refine A5 0 f0 1 f1 5 f5 6 f6 25 (e_ (B ((decide (x15 < (a0.length : Int))) && (decide (x25 < a1))))) fun F f0 f1 f5 f6 f25 => ?_
 rcases cz hs21 with ⟨hb26, hs21⟩ | ⟨hb26, hs21⟩
 refine PC.condTb f25 hb26 ?_
 refine PC.skip ?_
 refine hK23 _ _ ?_
 refine A4 0 f0 1 f1 5 f5 6 f6 fun F f0 f1 f5 f6 => ?_
 refine PC.seq fun K27 hK27 => ?_
 refine PC.block ?_
 refine PC.region ?_
 refine Q1 _ (ja f5) ?_
 refine Q1 _ (ja f0) ?_
 refine Q1 _ (ja f6) ?_
 obtain ⟨x28, hx28, hs21⟩ := bs hs21
 refine Q1 (PV.rp (I x28).cells) (j0 (rep := I) (xs := a0) q6 (e_ (slI a0)) (e_ (I x15)) hx28) ?_
 refine Q1 (I x28) (qn qu (e_ (PV.rp (I x28).cells))) ?_
 refine Q3 (slI ([x28] : List Int)) (yq (rep := I) (xs := [x28]) qb rfl (by decide) (bm (e_ (I x28)) (bm0)) rfl rfl) ?_
 obtain ⟨x29, hx29, hs21⟩ := bs hs21
 refine PL.appG (rep := I) (ys := ([x28] : List Int)) rfl rfl rfl (by decide) qb (e_ q17) o1000 (e_ (slI ([x28] : List Int))) (fun _ => rfl) (lf1 (fun _ => rfl) (fun _ => rfl)) hx29 fun q30 H o1000 fz31 => ?_
 refine Q1 _ (jf (e_ q30)) ?_
 refine PL.nil (hK27 _ _ ?_)
 refine A4 0 f0 1 f1 5 (e_ q30) 6 f6 fun F f0 f1 f5 f6 => ?_
 refine PC.region ?_
 refine Q1 _ (ja f6) ?_
 refine Q1 _ (jh rfl (e_ (I x15)) (e_ (I 1)) j4) ?_
 refine Q1 _ (jf (e_ (I (w64 (x15 + 1))))) ?_
 refine PL.nil ?_
 have hs21 := pz hs21
 subst hs21
 exact ⟨m22, Nat.lt_succ_self _, ((w64 (x15 + 1)), x29), q30, ho18, f0, f1, f5, (e_ (I (w64 (x15 + 1)))), o1000⟩
 refine PC.condFb f25 hb26 ?_
 refine PC.exit ?_
 have hs21 := pz hs21
 subst hs21
 try dsimp only at ho18
 subst ho18
 try dsimp only at h0
 refine hK10 _ _ ?_
 refine A3 0 f0 1 f1 5 f5 fun F f0 f1 f5 => ?_
 refine SR fun K32 hK32 => ?_
 refine Q1 _ (ja f5) ?_
 refine Q1 (I (x16.length : Int)) (Qu qm o1000 (e_ q17)) ?_
 refine Q1 _ (jf (e_ (I (x16.length : Int)))) ?_
 refine PL.nil (hK32 _ _ ?_)
 refine A4 0 f0 1 f1 5 f5 7 (e_ (I (x16.length : Int))) fun F f0 f1 f5 f7 => ?_
 refine SR fun K33 hK33 => ?_
 refine Q1 _ (ja f5) ?_
 refine Q1 _ (ja f1) ?_
 refine Q3 (slI ([a1] : List Int)) (yq (rep := I) (xs := [a1]) qb rfl (by decide) (bm (e_ (I a1)) (bm0)) rfl rfl) ?_
 obtain ⟨x34, hx34, h0⟩ := bs h0
 refine PL.appG (rep := I) (ys := ([a1] : List Int)) rfl rfl rfl (by decide) qb (e_ q17) o1000 (e_ (slI ([a1] : List Int))) (fun _ => rfl) (lf1 (fun _ => rfl) (fun _ => rfl)) hx34 fun q35 H o1000 fz36 => ?_
 refine Q1 _ (jf (e_ q35)) ?_
 refine PL.nil (hK33 _ _ ?_)
 refine A3 0 f0 5 (e_ q35) 7 f7 fun F f0 f5 f7 => ?_
 refine PC.seq fun K37 hK37 => ?_
 refine SR fun K38 hK38 => ?_
 refine Q1 _ (ja f7) ?_
 refine Q1 _ (jf (e_ (I (x16.length : Int)))) ?_
 refine PL.nil (hK38 _ _ ?_)
 refine A3 0 f0 5 f5 8 (e_ (I (x16.length : Int))) fun F f0 f5 f8 => ?_
 refine PC.block ?_
 obtain ⟨o45, ho45, h0⟩ := bs h0
 obtain ⟨B46, hB46, ho45⟩ := G.loop_some ho45
 refine PC.loop (fun m49 F H => ∃ s64 : (Int × (List Int)), ∃ q44, qt B46 m49 s64 = some o45 ∧ F 0 = (slI a0) ∧ F 5 = q44 ∧ F 8 = (I s64.1) ∧ ownL 3 1 I H 1000 q44 s64.2) (m := nn) ⟨((x16.length : Int), x34), q35, ho45, f0, f5, f8, o1000⟩ fun m49 F H hI => ?_
 obtain ⟨⟨x42, x43⟩, q44, ho45, f0, f5, f8, o1000⟩ := hI
 obtain ⟨m49, rfl, st47, hs48, ho45⟩ := jx ho45
 rw [hB46] at hs48
 try dsimp only at hs48
 refine PC.seq fun K50 hK50 => ?_
 refine SR fun K51 hK51 => ?_
 refine Q1 _ (ja f8) ?_
 refine Q1 _ (ja f0) ?_
 refine Q1 (I (a0.length : Int)) (qh (rep := I) (xs := a0) qm (e_ (slI a0))) ?_
 refine Q1 _ (jh rfl (e_ (I x42)) (e_ (I (a0.length : Int))) jw) ?_
 refine PL.nil (hK51 _ _ ?_)
 refine A4 0 f0 5 f5 8 f8 45 (e_ (B (decide (x42 < (a0.length : Int))))) fun F f0 f5 f8 f45 => ?_
 rcases cz hs48 with ⟨hb52, hs48⟩ | ⟨hb52, hs48⟩
 refine PC.condTb f45 hb52 ?_
 refine PC.skip ?_
 refine hK50 _ _ ?_
 refine A3 0 f0 5 f5 8 f8 fun F f0 f5 f8 => ?_
 refine PC.seq fun K53 hK53 => ?_
 refine PC.block ?_
 refine PC.region ?_
 refine Q1 _ (ja f5) ?_
 refine Q1 _ (ja f0) ?_
 refine Q1 _ (ja f8) ?_
 obtain ⟨x54, hx54, hs48⟩ := bs hs48
 refine Q1 (PV.rp (I x54).cells) (j0 (rep := I) (xs := a0) q6 (e_ (slI a0)) (e_ (I x42)) hx54) ?_
 refine Q1 (I x54) (qn qu (e_ (PV.rp (I x54).cells))) ?_
 refine Q3 (slI ([x54] : List Int)) (yq (rep := I) (xs := [x54]) qb rfl (by decide) (bm (e_ (I x54)) (bm0)) rfl rfl) ?_
 obtain ⟨x55, hx55, hs48⟩ := bs hs48
 refine PL.appG (rep := I) (ys := ([x54] : List Int)) rfl rfl rfl (by decide) qb (e_ q44) o1000 (e_ (slI ([x54] : List Int))) (fun _ => rfl) (lf1 (fun _ => rfl) (fun _ => rfl)) hx55 fun q56 H o1000 fz57 => ?_
 refine Q1 _ (jf (e_ q56)) ?_
 refine PL.nil (hK53 _ _ ?_)
 refine A3 0 f0 5 (e_ q56) 8 f8 fun F f0 f5 f8 => ?_
 refine PC.region ?_
 refine Q1 _ (ja f8) ?_
 refine Q1 _ (jh rfl (e_ (I x42)) (e_ (I 1)) j4) ?_
 refine Q1 _ (jf (e_ (I (w64 (x42 + 1))))) ?_
 refine PL.nil ?_
 have hs48 := pz hs48
 subst hs48
 exact ⟨m49, Nat.lt_succ_self _, ((w64 (x42 + 1)), x55), q56, ho45, f0, f5, (e_ (I (w64 (x42 + 1)))), o1000⟩
 refine PC.condFb f45 hb52 ?_
 refine PC.exit ?_
 have hs48 := pz hs48
 subst hs48
 try dsimp only at ho45
 subst ho45
 try dsimp only at h0
 refine hK37 _ _ ?_
 refine A1 5 f5 fun F f5 => ?_
 refine SR fun K58 hK58 => ?_
 refine Q1 _ (ja f5) ?_
 refine Q1 _ (jf (e_ q44)) ?_
 refine PL.nil (hK58 _ _ ?_)
 refine A1 4 (e_ q44) fun F f4 => ?_
 refine PC.freezeL (rep := I) 4 f4 o1000 (fun _ => rfl) fun H fz59 => ?_
 refine PC.ret ?_
 have h0 := pz h0
 subst h0
 exact fin (.inr rfl) (qc Tryz.results42 (e_ (slI x43))) (vt _)
def Zo (a0 : (List Int)) : G (List Int) :=
  G.bind (G.loop (σ := ((List Int) × Int)) (α := (List Int)) (fun (x7, x8) => G.cond (decide (x8 < (a0.length : Int))) (G.bind (G.lift (idx a0 x8)) fun x18 => G.bind (Yw x7 x18) fun x19 => G.pure (.inl (x19, (w64 (x8 + 1))))) (G.pure (.inr x7))) (([] : List Int), 0)) fun x21 => G.pure x21
theorem zki {nn : Nat} {a0 : (List Int)} {r : (List Int)} (h0 : Zo a0 nn = some r) : PCall Tryz.prog 31 [slI a0] (· = slI r) := by
 unfold Zo at h0
 refine PCall.intro' Tryz.func31 rfl Tryz.ntmps31 (by simp) fun W => ?_
 refine A1 0 (e_ (slI a0)) fun F f0 => ?_
 generalize PHeap.empty = H
 refine SR fun K1 hK1 => ?_
 refine Q3 (slI []) (Jx (k := 1)) ?_
 refine PL.nil (hK1 _ _ ?_)
 refine A1 0 f0 fun F f0 => ?_
 refine SR fun K2 hK2 => ?_
 refine Q3 (slI ([] : List Int)) (yq (rep := I) (xs := []) qb rfl (by decide) (bm0) rfl rfl) ?_
 refine Q1 _ (jf (e_ (slI ([] : List Int)))) ?_
 refine PL.nil (hK2 _ _ ?_)
 refine A2 0 f0 3 (e_ (slI ([] : List Int))) fun F f0 f3 => ?_
 refine PC.seq fun K3 hK3 => ?_
 refine SR fun K4 hK4 => ?_
 refine Q1 _ (jf (e_ (I 0))) ?_
 refine PL.nil (hK4 _ _ ?_)
 refine A3 0 f0 3 f3 4 (e_ (I 0)) fun F f0 f3 f4 => ?_
 refine PC.block ?_
 obtain ⟨o9, ho9, h0⟩ := bs h0
 obtain ⟨B10, hB10, ho9⟩ := G.loop_some ho9
 refine PC.loop (fun m13 F H => ∃ s23 : ((List Int) × Int), qt B10 m13 s23 = some o9 ∧ F 0 = (slI a0) ∧ F 3 = (slI s23.1) ∧ F 4 = (I s23.2)) (m := nn) ⟨(([] : List Int), 0), ho9, f0, f3, f4⟩ fun m13 F H hI => ?_
 obtain ⟨⟨x7, x8⟩, ho9, f0, f3, f4⟩ := hI
 obtain ⟨m13, rfl, st11, hs12, ho9⟩ := jx ho9
 rw [hB10] at hs12
 try dsimp only at hs12
 refine PC.seq fun K14 hK14 => ?_
 refine SR fun K15 hK15 => ?_
 refine Q1 _ (ja f4) ?_
 refine Q1 _ (ja f0) ?_
 refine Q1 (I (a0.length : Int)) (qh (rep := I) (xs := a0) qm (e_ (slI a0))) ?_
 refine Q1 _ (jh rfl (e_ (I x8)) (e_ (I (a0.length : Int))) jw) ?_
 refine PL.nil (hK15 _ _ ?_)
 refine A4 0 f0 3 f3 4 f4 9 (e_ (B (decide (x8 < (a0.length : Int))))) fun F f0 f3 f4 f9 => ?_
 rcases cz hs12 with ⟨hb16, hs12⟩ | ⟨hb16, hs12⟩
 refine PC.condTb f9 hb16 ?_
 refine PC.skip ?_
 refine hK14 _ _ ?_
 refine A3 0 f0 3 f3 4 f4 fun F f0 f3 f4 => ?_
 refine PC.seq fun K17 hK17 => ?_
 refine PC.block ?_
 refine PC.region ?_
 refine Q1 _ (ja f3) ?_
 refine Q1 _ (ja f0) ?_
 refine Q1 _ (ja f4) ?_
 obtain ⟨x18, hx18, hs12⟩ := bs hs12
 refine Q1 (PV.rp (I x18).cells) (j0 (rep := I) (xs := a0) q6 (e_ (slI a0)) (e_ (I x8)) hx18) ?_
 refine Q1 (I x18) (qn qu (e_ (PV.rp (I x18).cells))) ?_
 obtain ⟨x19, hx19, hs12⟩ := bs hs12
 refine Q3 (slI x19) (j3 (by kernel_rfl) (am (e_ (slI x7)) (am (e_ (I x18)) (am0))) (ju (vt _) (ju (.u _) (j6))) (zjg hx19)) ?_
 refine Q1 _ (jf (e_ (slI x19))) ?_
 refine PL.nil (hK17 _ _ ?_)
 refine A3 0 f0 3 (e_ (slI x19)) 4 f4 fun F f0 f3 f4 => ?_
 refine PC.region ?_
 refine Q1 _ (ja f4) ?_
 refine Q1 _ (jh rfl (e_ (I x8)) (e_ (I 1)) j4) ?_
 refine Q1 _ (jf (e_ (I (w64 (x8 + 1))))) ?_
 refine PL.nil ?_
 have hs12 := pz hs12
 subst hs12
 exact ⟨m13, Nat.lt_succ_self _, (x19, (w64 (x8 + 1))), ho9, f0, f3, (e_ (I (w64 (x8 + 1))))⟩
 refine PC.condFb f9 hb16 ?_
 refine PC.exit ?_
 have hs12 := pz hs12
 subst hs12
 try dsimp only at ho9
 subst ho9
 try dsimp only at h0
 refine hK3 _ _ ?_
 refine A1 3 f3 fun F f3 => ?_
 refine SR fun K20 hK20 => ?_
 refine Q1 _ (ja f3) ?_
 refine Q1 _ (jf (e_ (slI x7))) ?_
 refine PL.nil (hK20 _ _ ?_)
 refine A1 2 (e_ (slI x7)) fun F f2 => ?_
 refine PC.ret ?_
 have h0 := pz h0
 subst h0
 exact fin (.inr rfl) (qc Tryz.results31 f2) (vt _)
def Qp (a0 : je) : G (List Int) :=
  G.bind (z2 a0) fun x6 => G.bind (G.loop (σ := (Int × (List Int))) (α := (List Int)) (fun (x12, x13) => G.cond (decide (x12 < (x6.length : Int))) (G.bind (α := (List Int)) (G.bind (G.lift (idx x6 x12)) fun x28 => G.bind (G.cond x28 (G.lift (idx a0.jj x12)) (G.pure 0)) fun x29 => G.cond (x28 && (decide (0 ≤ x29))) (G.bind (G.lift (idx a0.jj x12)) fun x31 => G.bind (G.lift (app 8 x13 ([x31] : List Int))) fun x32 => G.pure x32) (G.pure x13)) fun x25 => G.pure (.inl ((w64 (x12 + 1)), x25))) (G.pure (.inr x13))) (0, [])) fun x39 => G.bind (Zo x39) fun x43 => G.pure x43
theorem zfq {nn : Nat} {a0 : je} {r : (List Int)} (h0 : Qp a0 nn = some r) : PCall Tryz.prog 19 [jc a0] (· = slI r) := by
 unfold Qp at h0
 refine PCall.intro' Tryz.func19 rfl Tryz.ntmps19 (by simp) fun W => ?_
 refine A1 0 (e_ (jc a0)) fun F f0 => ?_
 generalize PHeap.empty = H
 refine SR fun K1 hK1 => ?_
 refine Q3 (PV.rp (jc a0).cells) (zw f0 (qx _ _)) ?_
 refine Q3 (slI []) (Jx (k := 1)) ?_
 refine PL.nil (hK1 _ _ ?_)
 refine A1 1 (e_ (PV.rp (jc a0).cells)) fun F f1 => ?_
 refine SR fun K2 hK2 => ?_
 refine PL.litO (rep := I) (xs := []) 1003 rfl rfl rfl (by decide) qb rfl (by decide) (bm0) rfl rfl fun q3 H o1003 fz4 => ?_
 refine Q1 _ (jf (e_ q3)) ?_
 refine PL.nil (hK2 _ _ ?_)
 refine A2 1 f1 3 (e_ q3) fun F f1 f3 => ?_
 refine SR fun K5 hK5 => ?_
 refine Q1 (jc a0) (v7 yc f1 (qe _)) ?_
 obtain ⟨x6, hx6, h0⟩ := bs h0
 refine Q3 (slB x6) (j3 (by kernel_rfl) (am (e_ (jc a0)) (am0)) (ju (qa _) (j6)) (zfg hx6)) ?_
 refine Q1 _ (jf (e_ (slB x6))) ?_
 refine PL.nil (hK5 _ _ ?_)
 refine A3 1 f1 3 f3 4 (e_ (slB x6)) fun F f1 f3 f4 => ?_
 refine PC.seq fun K7 hK7 => ?_
 refine SR fun K8 hK8 => ?_
 refine Q1 _ (jf (e_ (I 0))) ?_
 refine PL.nil (hK8 _ _ ?_)
 refine A4 1 f1 3 f3 4 f4 5 (e_ (I 0)) fun F f1 f3 f4 f5 => ?_
 refine PC.block ?_
 obtain ⟨o15, ho15, h0⟩ := bs h0
 obtain ⟨B16, hB16, ho15⟩ := G.loop_some ho15
 refine PC.loop (fun m19 F H => ∃ s44 : (Int × (List Int)), ∃ q14, qt B16 m19 s44 = some o15 ∧ F 1 = (PV.rp (jc a0).cells) ∧ F 3 = q14 ∧ F 4 = (slB x6) ∧ F 5 = (I s44.1) ∧ ownL 3 1 I H 1003 q14 s44.2) (m := nn) ⟨(0, []), q3, ho15, f1, f3, f4, f5, o1003⟩ fun m19 F H hI => ?_
 obtain ⟨⟨x12, x13⟩, q14, ho15, f1, f3, f4, f5, o1003⟩ := hI
 obtain ⟨m19, rfl, st17, hs18, ho15⟩ := jx ho15
 rw [hB16] at hs18
 try dsimp only at hs18
 refine PC.seq fun K20 hK20 => ?_
 refine SR fun K21 hK21 => ?_
 refine Q1 _ (ja f5) ?_
 refine Q1 _ (ja f4) ?_
 refine Q1 (I (x6.length : Int)) (qh (rep := B) (xs := x6) Z4 (e_ (slB x6))) ?_
 refine Q1 _ (jh rfl (e_ (I x12)) (e_ (I (x6.length : Int))) jw) ?_
 refine PL.nil (hK21 _ _ ?_)
 refine A5 1 f1 3 f3 4 f4 5 f5 12 (e_ (B (decide (x12 < (x6.length : Int))))) fun F f1 f3 f4 f5 f12 => ?_
 rcases cz hs18 with ⟨hb22, hs18⟩ | ⟨hb22, hs18⟩
 refine PC.condTb f12 hb22 ?_
 refine PC.skip ?_
 refine hK20 _ _ ?_
 refine A4 1 f1 3 f3 4 f4 5 f5 fun F f1 f3 f4 f5 => ?_
 obtain ⟨o24, ho24, hs18⟩ := bs hs18
 refine PC.seqM (fun F H => ∃ s35 : (List Int), ∃ q26, o24 = s35 ∧ F 1 = (PV.rp (jc a0).cells) ∧ F 3 = q26 ∧ F 4 = (slB x6) ∧ F 5 = (I x12) ∧ ownL 3 1 I H 1003 q26 s35) ?_ ?_
 refine PC.block ?_
 refine SR fun K27 hK27 => ?_
 refine Q1 _ (ja f4) ?_
 refine Q1 _ (ja f5) ?_
 obtain ⟨x28, hx28, ho24⟩ := bs ho24
 refine Q1 (PV.rp (B x28).cells) (j0 (rep := B) (xs := x6) Js (e_ (slB x6)) (e_ (I x12)) hx28) ?_
 refine Q1 (B x28) (qn Vo (e_ (PV.rp (B x28).cells))) ?_
 refine Q1 _ (ja (e_ (B x28))) ?_
 refine GT (PV.rp ((jc a0).cells.drop 258)) rfl (e_ (B x28)) (fun hb => j5 zg ql (by decide) f1) ?_
 refine GT (slI a0.jj) rfl (e_ (B x28)) (fun hb => jz ql (gvp hb (e_ (gv x28 (PV.rp ((jc a0).cells.drop 258))))) (yg a0)) ?_
 refine GT (I x12) rfl (e_ (B x28)) (fun hb => ja f5) ?_
 obtain ⟨x29, hx29, ho24⟩ := bs ho24
 refine GT (PV.rp (I x29).cells) rfl (e_ (B x28)) (fun hb => j0 (rep := I) (xs := a0.jj) q6 (gvp hb (e_ (gv x28 (slI a0.jj)))) (gvp hb (e_ (gv x28 (I x12)))) (G.cond_pos hx29 hb)) ?_
 refine GT (I x29) rfl (e_ (B x28)) (fun hb => qn qu (gvp hb (e_ (gv x28 (PV.rp (I x29).cells))))) ?_
 refine GT (B (decide (0 ≤ x29))) rfl (e_ (B x28)) (fun hb => jh rfl (gvp hb (e_ (gv x28 (I x29)))) (e_ (I 0)) v8) ?_
 refine Q1 (B (x28 && (decide (0 ≤ x29)))) (vm (e_ (B x28)) (e_ (gv x28 (B (decide (0 ≤ x29))))) rfl) ?_
 refine PL.nil (hK27 _ _ ?_)
 refine A5 1 f1 3 f3 4 f4 5 f5 26 (e_ (B (x28 && (decide (0 ≤ x29))))) fun F f1 f3 f4 f5 f26 => ?_
 rcases cz ho24 with ⟨hb30, ho24⟩ | ⟨hb30, ho24⟩
 refine PC.condTb f26 hb30 ?_
 refine PC.region ?_
 refine Q1 _ (ja f3) ?_
 refine Q1 (PV.rp ((jc a0).cells.drop 258)) (j5 zg ql (by decide) f1) ?_
 refine Q1 (slI a0.jj) (jz ql (e_ (PV.rp ((jc a0).cells.drop 258))) (yg a0)) ?_
 refine Q1 _ (ja f5) ?_
 obtain ⟨x31, hx31, ho24⟩ := bs ho24
 refine Q1 (PV.rp (I x31).cells) (j0 (rep := I) (xs := a0.jj) q6 (e_ (slI a0.jj)) (e_ (I x12)) hx31) ?_
 refine Q1 (I x31) (qn qu (e_ (PV.rp (I x31).cells))) ?_
 refine Q3 (slI ([x31] : List Int)) (yq (rep := I) (xs := [x31]) qb rfl (by decide) (bm (e_ (I x31)) (bm0)) rfl rfl) ?_
 obtain ⟨x32, hx32, ho24⟩ := bs ho24
 refine PL.appG (rep := I) (ys := ([x31] : List Int)) rfl rfl rfl (by decide) qb (e_ q14) o1003 (e_ (slI ([x31] : List Int))) (fun _ => rfl) (lf1 (fun _ => rfl) (fun _ => rfl)) hx32 fun q33 H o1003 fz34 => ?_
 refine Q1 _ (jf (e_ q33)) ?_
 refine PL.nil ?_
 have ho24 := pz ho24
 subst ho24
 exact ⟨x32, q33, rfl, f1, (e_ q33), f4, f5, o1003⟩
 refine PC.condFb f26 hb30 ?_
 refine PC.skip ?_
 have ho24 := pz ho24
 subst ho24
 exact ⟨x13, q14, rfl, f1, f3, f4, f5, o1003⟩
 intro F H hI
 obtain ⟨x25, q26, ho, f1, f3, f4, f5, o1003⟩ := hI
 have ho := ho.symm
 subst ho
 try dsimp only at hs18
 refine PC.region ?_
 refine Q1 _ (ja f5) ?_
 refine Q1 _ (jh rfl (e_ (I x12)) (e_ (I 1)) j4) ?_
 refine Q1 _ (jf (e_ (I (w64 (x12 + 1))))) ?_
 refine PL.nil ?_
 have hs18 := pz hs18
 subst hs18
 exact ⟨m19, Nat.lt_succ_self _, ((w64 (x12 + 1)), x25), q26, ho15, f1, f3, f4, (e_ (I (w64 (x12 + 1)))), o1003⟩
 refine PC.condFb f12 hb22 ?_
 refine PC.exit ?_
 have hs18 := pz hs18
 subst hs18
 try dsimp only at ho15
 subst ho15
 try dsimp only at h0
 refine hK7 _ _ ?_
 refine A1 3 f3 fun F f3 => ?_
 refine PC.seq fun K36 hK36 => ?_
 refine PC.freezeL (rep := I) 3 f3 o1003 (fun _ => rfl) fun H fz37 => ?_
 refine PC.region ?_
 refine Q1 _ (ja (e_ (slI x13))) ?_
 obtain ⟨x38, hx38, h0⟩ := bs h0
 refine Q3 (slI x38) (j3 (by kernel_rfl) (am (e_ (slI x13)) (am0)) (ju (vt _) (j6)) (zki hx38)) ?_
 refine Q1 _ (jf (e_ (slI x38))) ?_
 refine PL.nil (hK36 _ _ ?_)
 refine A1 2 (e_ (slI x38)) fun F f2 => ?_
 refine PC.ret ?_
 have h0 := pz h0
 subst h0
 exact fin (.inr rfl) (qc Tryz.results19 f2) (vt _)
def g_law15_LiveWords (a0 : je) (a1 : Int) : G Bool :=
  G.bind (Q6 a0) fun x4 => G.cond ((!x4) || (decide (40 < (a0.jd.length : Int)))) (G.bind (Qb) fun x7 => G.pure x7) (G.bind (Jn a0 a1) fun x9 => G.bind (J3 a0 a1) fun x11 => G.bind (G.cond ((x9.1.toList == x11.1.toList) && (x9.2 == x11.2)) (zn a0) (G.pure [])) fun x13 => G.bind (G.cond ((x9.1.toList == x11.1.toList) && (x9.2 == x11.2)) (Qp a0) (G.pure [])) fun x14 => G.bind (G.cond ((x9.1.toList == x11.1.toList) && (x9.2 == x11.2)) (za x13 x14) (G.pure false)) fun x15 => G.bind (G.cond (((x9.1.toList == x11.1.toList) && (x9.2 == x11.2)) && x15) (zn a0) (G.pure [])) fun x16 => G.bind (G.cond (((x9.1.toList == x11.1.toList) && (x9.2 == x11.2)) && x15) (z8 x16 a1) (G.pure false)) fun x17 => G.bind (G.cond ((((x9.1.toList == x11.1.toList) && (x9.2 == x11.2)) && x15) && (x9.2 == x17)) (Qb) (G.pure false)) fun x18 => G.pure (((((x9.1.toList == x11.1.toList) && (x9.2 == x11.2)) && x15) && (x9.2 == x17)) && x18))
theorem g_law15_LiveWords_w {nn : Nat} {a0 : je} {a1 : Int} {r : Bool} (h0 : g_law15_LiveWords a0 a1 nn = some r) : PCall Tryz.prog 4 [jc a0, I a1] (· = B r) := by
 unfold g_law15_LiveWords at h0
 refine PCall.intro' Tryz.func4 rfl Tryz.ntmps4 (by simp) fun W => ?_
 refine A2 0 (e_ (jc a0)) 1 (e_ (I a1)) fun F f0 f1 => ?_
 generalize PHeap.empty = H
 refine SR fun K1 hK1 => ?_
 refine Q3 (PV.rp (jc a0).cells) (zw f0 (qx _ _)) ?_
 refine Q1 _ (jf (e_ (B false))) ?_
 refine PL.nil (hK1 _ _ ?_)
 refine A2 1 f1 2 (e_ (PV.rp (jc a0).cells)) fun F f1 f2 => ?_
 refine PC.seq fun K2 hK2 => ?_
 refine SR fun K3 hK3 => ?_
 refine Q1 (jc a0) (v7 yc f2 (qe _)) ?_
 obtain ⟨x4, hx4, h0⟩ := bs h0
 refine Q3 (B x4) (j3 (by kernel_rfl) (am (e_ (jc a0)) (am0)) (ju (qa _) (j6)) (zgs hx4)) ?_
 refine Q1 (B (!x4)) (yn (e_ (B x4))) ?_
 refine Q1 _ (ja (e_ (B (!x4)))) ?_
 refine GF (PV.rp ((jc a0).cells.drop 257)) rfl (e_ (B (!x4))) (fun hb => j5 qy j8 (by decide) f2) ?_
 refine GF (qk a0.jd) rfl (e_ (B (!x4))) (fun hb => jz j8 (gvp hb (e_ (gv (!(!x4)) (PV.rp ((jc a0).cells.drop 257))))) (j7 a0)) ?_
 refine GF (I (a0.jd.length : Int)) rfl (e_ (B (!x4))) (fun hb => qh (rep := slI) (xs := a0.jd) qv (gvp hb (e_ (gv (!(!x4)) (qk a0.jd))))) ?_
 refine GF (B (decide (40 < (a0.jd.length : Int)))) rfl (e_ (B (!x4))) (fun hb => jh rfl (gvp hb (e_ (gv (!(!x4)) (I (a0.jd.length : Int))))) (e_ (I 40)) Q5) ?_
 refine Q1 (B ((!x4) || (decide (40 < (a0.jd.length : Int))))) (yj (e_ (B (!x4))) rfl (e_ (gv (!(!x4)) (B (decide (40 < (a0.jd.length : Int))))))) ?_
 refine PL.nil (hK3 _ _ ?_)
 refine A3 1 f1 2 f2 17 (e_ (B ((!x4) || (decide (40 < (a0.jd.length : Int)))))) fun F f1 f2 f17 => ?_
 rcases cz h0 with ⟨hb5, h0⟩ | ⟨hb5, h0⟩
 refine PC.condTb f17 hb5 ?_
 refine SR fun K6 hK6 => ?_
 obtain ⟨x7, hx7, h0⟩ := bs h0
 refine Q3 (B x7) (j3 (by kernel_rfl) (am0) (j6) (zb4 hx7)) ?_
 refine Q1 _ (jf (e_ (B x7))) ?_
 refine PL.nil (hK6 _ _ ?_)
 refine A1 4 (e_ (B x7)) fun F f4 => ?_
 refine PC.ret ?_
 have h0 := pz h0
 subst h0
 exact fin (.inr rfl) (qc Tryz.results4 f4) (.u _)
 refine PC.condFb f17 hb5 ?_
 refine PC.skip ?_
 refine hK2 _ _ ?_
 refine A2 1 f1 2 f2 fun F f1 f2 => ?_
 refine SR fun K8 hK8 => ?_
 refine Q1 (jc a0) (v7 yc f2 (qe _)) ?_
 refine Q1 _ (ja f1) ?_
 obtain ⟨x9, hx9, h0⟩ := bs h0
 refine Q3 (PV.tup [(S x9.1), (B x9.2)]) (j3 (by kernel_rfl) (am (e_ (jc a0)) (am (e_ (I a1)) (am0))) (ju (qa _) (ju (.u _) (j6))) (za1 hx9)) ?_
 refine Q1 _ (ja (e_ (PV.tup [(S x9.1), (B x9.2)]))) ?_
 refine Q1 _ (vq (e_ (PV.tup [(S x9.1), (B x9.2)])) rfl) ?_
 refine Q1 _ (vq (e_ (PV.tup [(S x9.1), (B x9.2)])) rfl) ?_
 refine Q1 _ (jf (e_ (S x9.1))) ?_
 refine Q1 _ (jf (e_ (B x9.2))) ?_
 refine PL.nil (hK8 _ _ ?_)
 refine A4 1 f1 2 f2 5 (e_ (S x9.1)) 6 (e_ (B x9.2)) fun F f1 f2 f5 f6 => ?_
 refine SR fun K10 hK10 => ?_
 refine Q1 (jc a0) (v7 yc f2 (qe _)) ?_
 refine Q1 _ (ja f1) ?_
 obtain ⟨x11, hx11, h0⟩ := bs h0
 refine Q3 (PV.tup [(S x11.1), (B x11.2)]) (j3 (by kernel_rfl) (am (e_ (jc a0)) (am (e_ (I a1)) (am0))) (ju (qa _) (ju (.u _) (j6))) (ze1 hx11)) ?_
 refine Q1 _ (ja (e_ (PV.tup [(S x11.1), (B x11.2)]))) ?_
 refine Q1 _ (vq (e_ (PV.tup [(S x11.1), (B x11.2)])) rfl) ?_
 refine Q1 _ (vq (e_ (PV.tup [(S x11.1), (B x11.2)])) rfl) ?_
 refine Q1 _ (jf (e_ (S x11.1))) ?_
 refine Q1 _ (jf (e_ (B x11.2))) ?_
 refine PL.nil (hK10 _ _ ?_)
 refine A6 1 f1 2 f2 5 f5 6 f6 7 (e_ (S x11.1)) 8 (e_ (B x11.2)) fun F f1 f2 f5 f6 f7 f8 => ?_
 refine PC.seq fun K12 hK12 => ?_
 refine PC.regionQ mixed (by kernel_rfl) ?_
 refine Q2 _ (ja f5) ?_
 refine Q2 _ (ja f7) ?_
 refine Q2 _ (jh rfl (e_ (S x9.1)) (e_ (S x11.1)) (zde _ _)) ?_
 refine Q2 _ (ja (e_ (B (x9.1.toList == x11.1.toList)))) ?_
 refine HT (B x9.2) rfl (e_ (B (x9.1.toList == x11.1.toList))) (fun hb => ja f6) ?_
 refine HT (B x11.2) rfl (e_ (B (x9.1.toList == x11.1.toList))) (fun hb => ja f8) ?_
 refine HT (B (x9.2 == x11.2)) rfl (e_ (B (x9.1.toList == x11.1.toList))) (fun hb => jh rfl (gvp hb (e_ (gv (x9.1.toList == x11.1.toList) (B x9.2)))) (gvp hb (e_ (gv (x9.1.toList == x11.1.toList) (B x11.2)))) (zqr _ _ (by kernel_rfl))) ?_
 refine Q2 (B ((x9.1.toList == x11.1.toList) && (x9.2 == x11.2))) (vm (e_ (B (x9.1.toList == x11.1.toList))) (e_ (gv (x9.1.toList == x11.1.toList) (B (x9.2 == x11.2)))) rfl) ?_
 refine Q2 _ (ja (e_ (B ((x9.1.toList == x11.1.toList) && (x9.2 == x11.2))))) ?_
 refine HT (jc a0) rfl (e_ (B ((x9.1.toList == x11.1.toList) && (x9.2 == x11.2)))) (fun hb => v7 yc f2 (qe _)) ?_
 obtain ⟨x13, hx13, h0⟩ := bs h0
 refine HTq (slI x13) rfl (e_ (B ((x9.1.toList == x11.1.toList) && (x9.2 == x11.2)))) (fun hb => j3 (by kernel_rfl) (am (gvp hb (e_ (gv ((x9.1.toList == x11.1.toList) && (x9.2 == x11.2)) (jc a0)))) (am0)) (ju (qa _) (j6)) (Y3 (G.cond_pos hx13 hb))) ?_
 refine HT (jc a0) rfl (e_ (B ((x9.1.toList == x11.1.toList) && (x9.2 == x11.2)))) (fun hb => v7 yc f2 (qe _)) ?_
 obtain ⟨x14, hx14, h0⟩ := bs h0
 refine HTq (slI x14) rfl (e_ (B ((x9.1.toList == x11.1.toList) && (x9.2 == x11.2)))) (fun hb => j3 (by kernel_rfl) (am (gvp hb (e_ (gv ((x9.1.toList == x11.1.toList) && (x9.2 == x11.2)) (jc a0)))) (am0)) (ju (qa _) (j6)) (zfq (G.cond_pos hx14 hb))) ?_
 obtain ⟨x15, hx15, h0⟩ := bs h0
 refine HTq (B x15) rfl (e_ (B ((x9.1.toList == x11.1.toList) && (x9.2 == x11.2)))) (fun hb => j3 (by kernel_rfl) (am (gvp hb (e_ (gv ((x9.1.toList == x11.1.toList) && (x9.2 == x11.2)) (slI x13)))) (am (gvp hb (e_ (gv ((x9.1.toList == x11.1.toList) && (x9.2 == x11.2)) (slI x14)))) (am0))) (ju (vt _) (ju (vt _) (j6))) (Zp (G.cond_pos hx15 hb))) ?_
 refine Q2 (B (((x9.1.toList == x11.1.toList) && (x9.2 == x11.2)) && x15)) (vm (e_ (B ((x9.1.toList == x11.1.toList) && (x9.2 == x11.2)))) (e_ (gv ((x9.1.toList == x11.1.toList) && (x9.2 == x11.2)) (B x15))) rfl) ?_
 refine Q2 _ (ja (e_ (B (((x9.1.toList == x11.1.toList) && (x9.2 == x11.2)) && x15)))) ?_
 refine HT (B x9.2) rfl (e_ (B (((x9.1.toList == x11.1.toList) && (x9.2 == x11.2)) && x15))) (fun hb => ja f6) ?_
 refine HT (jc a0) rfl (e_ (B (((x9.1.toList == x11.1.toList) && (x9.2 == x11.2)) && x15))) (fun hb => v7 yc f2 (qe _)) ?_
 obtain ⟨x16, hx16, h0⟩ := bs h0
 refine HTq (slI x16) rfl (e_ (B (((x9.1.toList == x11.1.toList) && (x9.2 == x11.2)) && x15))) (fun hb => j3 (by kernel_rfl) (am (gvp hb (e_ (gv (((x9.1.toList == x11.1.toList) && (x9.2 == x11.2)) && x15) (jc a0)))) (am0)) (ju (qa _) (j6)) (Y3 (G.cond_pos hx16 hb))) ?_
 refine HT (I a1) rfl (e_ (B (((x9.1.toList == x11.1.toList) && (x9.2 == x11.2)) && x15))) (fun hb => ja f1) ?_
 obtain ⟨x17, hx17, h0⟩ := bs h0
 refine HTq (B x17) rfl (e_ (B (((x9.1.toList == x11.1.toList) && (x9.2 == x11.2)) && x15))) (fun hb => j3 (by kernel_rfl) (am (gvp hb (e_ (gv (((x9.1.toList == x11.1.toList) && (x9.2 == x11.2)) && x15) (slI x16)))) (am (gvp hb (e_ (gv (((x9.1.toList == x11.1.toList) && (x9.2 == x11.2)) && x15) (I a1)))) (am0))) (ju (vt _) (ju (.u _) (j6))) (Yp (G.cond_pos hx17 hb))) ?_
 refine HT (B (x9.2 == x17)) rfl (e_ (B (((x9.1.toList == x11.1.toList) && (x9.2 == x11.2)) && x15))) (fun hb => jh rfl (gvp hb (e_ (gv (((x9.1.toList == x11.1.toList) && (x9.2 == x11.2)) && x15) (B x9.2)))) (gvp hb (e_ (gv (((x9.1.toList == x11.1.toList) && (x9.2 == x11.2)) && x15) (B x17)))) (zqr _ _ (by kernel_rfl))) ?_
 refine Q2 (B ((((x9.1.toList == x11.1.toList) && (x9.2 == x11.2)) && x15) && (x9.2 == x17))) (vm (e_ (B (((x9.1.toList == x11.1.toList) && (x9.2 == x11.2)) && x15))) (e_ (gv (((x9.1.toList == x11.1.toList) && (x9.2 == x11.2)) && x15) (B (x9.2 == x17)))) rfl) ?_
 refine Q2 _ (ja (e_ (B ((((x9.1.toList == x11.1.toList) && (x9.2 == x11.2)) && x15) && (x9.2 == x17))))) ?_
 obtain ⟨x18, hx18, h0⟩ := bs h0
 refine HTq (B x18) rfl (e_ (B ((((x9.1.toList == x11.1.toList) && (x9.2 == x11.2)) && x15) && (x9.2 == x17)))) (fun hb => j3 (by kernel_rfl) (am0) (j6) (zb4 (G.cond_pos hx18 hb))) ?_
 refine Q2 (B (((((x9.1.toList == x11.1.toList) && (x9.2 == x11.2)) && x15) && (x9.2 == x17)) && x18)) (vm (e_ (B ((((x9.1.toList == x11.1.toList) && (x9.2 == x11.2)) && x15) && (x9.2 == x17)))) (e_ (gv ((((x9.1.toList == x11.1.toList) && (x9.2 == x11.2)) && x15) && (x9.2 == x17)) (B x18))) rfl) ?_
 refine Q2 _ (jf (e_ (B (((((x9.1.toList == x11.1.toList) && (x9.2 == x11.2)) && x15) && (x9.2 == x17)) && x18)))) ?_
 refine QF.nil ?_
 refine hK12 _ _ ?_
 refine A1 4 (e_ (B (((((x9.1.toList == x11.1.toList) && (x9.2 == x11.2)) && x15) && (x9.2 == x17)) && x18))) fun F f4 => ?_
 refine PC.ret ?_
 have h0 := pz h0
 subst h0
 exact fin (.inr rfl) (qc Tryz.results4 f4) (.u _)
end Go.Proofs.YtpohfkgjghiofaaGreat

namespace Go.Proofs.YtpohfkgjghiofaaGreat
open Go Go.RowKit L
set_option linter.unusedVariables false
set_option linter.unusedSimpArgs false
def zhw (l : List Int) : Prop := ∀ x ∈ l, 0 ≤ x ∧ x < 256
theorem zc8 {x : Int} (h0 : -9223372036854775808 ≤ x) (h1 : x ≤ 9223372036854775807) : w64 x = x := zid h0 h1
theorem zh6 (a : Arr 256 Int) (ha : zhw a.1) : Tot (Q8 a) (· = Qe 0 a.1) := by
  unfold Q8
  refine Tot.bind ?_
  refine Tot.forC (fun s => s.2) 256 (fun k s => s.2 = (k : Int) ∧ 0 ≤ s.1 ∧ s.1 ≤ (k : Int) ∧ Qe 0 a.1 = Qe s.1 (a.1.drop k)) (fun k s h => h.1) ?_ ?_ ⟨rfl, by decide, by decide, by simp⟩
  · rintro k ⟨n, i⟩ hk ⟨h1, h2, h3, h4⟩
    simp only at h1 h2 h3 h4 ⊢
    subst h1
    have hkl : k < a.1.length := by rw [a.2]; exact hk
    have hb := ha _ (List.getElem_mem hkl)
    have hd : a.1.drop k = a.1[k] :: a.1.drop (k + 1) := List.drop_eq_getElem_cons hkl
    have hix : idx a.1 (k : Int) = some a.1[k] := zbi (List.getElem?_eq_getElem hkl)
    have hw : w64 a.1[k] = a.1[k] := zc8 (by omega) (by omega)
    have hwn : w64 (n + 1) = n + 1 := zc8 (by omega) (by omega)
    have hwk : w64 ((k : Int) + 1) = ((k + 1 : Nat) : Int) := qr (by omega)
    rw [hd] at h4
    simp only [Qe] at h4
    have hdec : decide ((k : Int) < 256) = true := by simp; omega
    rw [hdec, G.ct]
    refine Tot.bindE (a := if n < a.1[k] then Sum.inr false else Sum.inl (if a.1[k] = n then n + 1 else n)) ?_ ?_
    · refine Tot.bind (Tot.lift hix ?_)
      rw [hw]
      refine Tot.cond (fun hb1 => Tot.pure ?_) fun hb1 => ?_
      · simp only [decide_eq_true_eq] at hb1; rw [if_pos hb1]
      · simp only [decide_eq_false_iff_not] at hb1
        rw [if_neg hb1]
        refine Tot.bind (Tot.lift hix ?_)
        rw [hw]
        refine Tot.cond (fun hb2 => Tot.pure ?_) fun hb2 => Tot.pure ?_
        · simp only [decide_eq_true_eq] at hb2; rw [if_pos hb2, hwn]
        · simp only [decide_eq_false_iff_not] at hb2; rw [if_neg hb2]
    · by_cases hlt : n < a.1[k]
      · rw [if_pos hlt] at h4 ⊢
        exact Tot.pure (Tot.pure h4.symm)
      · rw [if_neg hlt] at h4 ⊢
        refine Tot.pure ⟨hwk, ?_, ?_, h4⟩
        · split <;> omega
        · split <;> omega
  · rintro ⟨n, i⟩ ⟨h1, h2, h3, h4⟩
    simp only at h1 h2 h3 h4 ⊢
    subst h1
    refine Tot.pure (Tot.pure ?_)
    rw [h4, List.drop_of_length_le (by rw [a.2]; exact Nat.le_refl _)]; rfl
end Go.Proofs.YtpohfkgjghiofaaGreat

namespace Go.Proofs.YtpohfkgjghiofaaGreat
open Go Go.RowKit L
set_option linter.unusedVariables false
set_option linter.unusedSimpArgs false
theorem zqb : ((List.range 256).all fun b => Z3 (arZ 4 0) (b : Int) 0 == some false) = true := by kernel_rfl
theorem znu {b : Nat} (hb : b < 256) : Tot (Z3 (arZ 4 0) (b : Int)) (· = false) := ⟨false, 0, fun n _ => by
  have := List.all_eq_true.1 zqb b (List.mem_range.2 hb)
  exact beq_iff_eq.1 this, rfl⟩
def Y5 (x : Int) : List Int → Option Nat
  | [] => none
  | y :: ys => if y = x then some 0 else (Y5 x ys).map (· + 1)
def zcy (m : List Int) : List Int → List Int
  | [] => []
  | x :: xs => match Y5 x m with
    | some j => (j : Int) :: zcy m xs
    | none => (m.length : Int) :: zcy (m ++ [x]) xs
def Y7 : Nat → List Int → List (jl × Int)
  | _, [] => []
  | j, c :: cs => (⟨c, false⟩, (j : Int)) :: Y7 (j + 1) cs
theorem zer : ∀ (j : Nat) (m : List Int), (Y7 j m).length = m.length
  | _, [] => rfl
  | j, c :: cs => by simp [Y7, zer (j + 1) cs]
theorem zep : ∀ (j : Nat) (m : List Int) (c : Int), Y7 j (m ++ [c]) = Y7 j m ++ [(⟨c, false⟩, ((j + m.length : Nat) : Int))]
  | _, [], _ => rfl
  | j, d :: cs, c => by
    simp only [List.cons_append, Y7, zep (j + 1) cs c, List.length_cons]
    rw [show j + 1 + cs.length = j + (cs.length + 1) by omega]
theorem zd7 (x : Int) : ∀ (j i : Nat) (m : List Int), Z9 (fun a b => (j2 a b).all id) (⟨x, false⟩ : jl) (Y7 j m) i = (Y5 x m).map fun p => (i + p, ((j + p : Nat) : Int))
  | _, _, [] => rfl
  | j, i, c :: cs => by
    simp only [Y7, Z9, Y5]
    have e : ((j2 ⟨x, false⟩ ⟨c, false⟩).all id) = decide (x = c) := by
      simp [j2, BEq.beq]
    rw [e]
    by_cases h : c = x
    · subst h; simp
    · have h2 : ¬ x = c := fun e => h e.symm
      simp only [h, h2, decide_false, if_false, zd7 x (j + 1) (i + 1) cs]
      cases Y5 x cs with
      | none => rfl
      | some p => simp; omega
theorem zfv {x : Int} : ∀ {m : List Int}, Y5 x m = none → Y5 x (m ++ [x]) = some m.length
  | [], _ => by simp [Y5]
  | c :: cs, h => by
    simp only [Y5] at h
    split at h
    · cases h
    · rename_i hc
      have h2 : Y5 x cs = none := by cases hp : Y5 x cs <;> simp [hp] at h ⊢
      simp only [List.cons_append, Y5, if_neg hc, zfv h2, Option.map_some, List.length_cons]
theorem zfo (x : Int) (m : List Int) : Qz (fun a b => (j2 a b).all id) (Y7 0 m) (⟨x, false⟩ : jl) = (Y5 x m).map fun p => (p : Int) := by
  unfold Qz
  rw [zd7 x 0 0 m]
  cases Y5 x m with
  | none => rfl
  | some p => simp
theorem zn6 (a : Arr 256 Int) : Tot (Vx a (arZ 4 0)) (fun r => r.1 = zcy [] a.1) := by
  unfold Vx
  refine Tot.bind ?_
  refine Tot.forC (fun s => s.1) 256 (fun k s => s.1 = (k : Int) ∧ ∃ m done, s.2.2 = Y7 0 m ∧ m.length ≤ k ∧ s.2.1.1 = done ++ a.1.drop k ∧ done.length = k ∧ done ++ zcy m (a.1.drop k) = zcy [] a.1) (fun k s h => h.1) ?_ ?_ ⟨rfl, [], [], rfl, Nat.le_refl _, by simp, rfl, by simp⟩
  · rintro k ⟨i, b, mp⟩ hk ⟨h1, m, done, h2, h3, h4, h5, h6⟩
    simp only at h1 h2 h4 ⊢
    subst h1; subst h2
    have hkl : k < a.1.length := by rw [a.2]; exact hk
    have hd : a.1.drop k = a.1[k] :: a.1.drop (k + 1) := List.drop_eq_getElem_cons hkl
    rw [hd] at h4 h6
    have hix : idx b.1 (k : Int) = some a.1[k] := zbi (by rw [h4, List.getElem?_append_right (by omega)]; simp [h5])
    have hwk : w64 ((k : Int) + 1) = ((k + 1 : Nat) : Int) := qr (by omega)
    have hu : IntKind.u8.wrap (k : Int) = (k : Int) := by
      unfold IntKind.wrap; simp [IntKind.signed, IntKind.bits]; omega
    have hdec : decide ((k : Int) < 256) = true := by simp; omega
    rw [hdec, G.ct]
    refine Tot.bind (Tot.lift hix ?_)
    rw [hu]
    refine Tot.bindE (znu hk) ?_
    have hset : ∀ v : Int, (arS b (k : Int) v).1 = (done ++ [v]) ++ a.1.drop (k + 1) := fun v => by
      show b.1.set (k : Int).toNat v = _
      rw [h4, Int.toNat_natCast, List.set_append_right _ _ (by omega), h5, Nat.sub_self, List.append_assoc]
      rfl
    rw [zfo]
    cases hp : Y5 a.1[k] m with
    | some p =>
      simp only [zcy, hp] at h6
      refine Tot.bind (Tot.pure ?_)
      refine Tot.bind (Tot.lift hix ?_)
      refine Tot.pure ⟨hwk, m, done ++ [(p : Int)], rfl, by omega, ?_, by simp [h5], by simpa using h6⟩
      show (arS b (k : Int) _).1 = _
      rw [hset, zfo, hp]; rfl
    | none =>
      simp only [zcy, hp] at h6
      refine Tot.bind (Tot.pure ?_)
      refine Tot.bind (Tot.lift hix ?_)
      have hl : IntKind.u8.wrap ((Y7 0 m).length : Int) = (m.length : Int) := by
        rw [zer]
        unfold IntKind.wrap; simp [IntKind.signed, IntKind.bits]; omega
      have hput : zi1 (fun a b => (j2 a b).all id) (Y7 0 m) (⟨a.1[k], false⟩ : jl) (IntKind.u8.wrap ((Y7 0 m).length : Int)) = Y7 0 (m ++ [a.1[k]]) := by
        unfold zi1
        rw [zd7, hp, hl, zep]
        simp
      refine Tot.pure ⟨hwk, m ++ [a.1[k]], done ++ [(m.length : Int)], hput, by simp; omega, ?_, by simp [h5], by simpa using h6⟩
      show (arS b (k : Int) _).1 = _
      rw [hset]
      have : Qz (fun a b => (j2 a b).all id) (zi1 (fun a b => (j2 a b).all id) (Y7 0 m) (⟨a.1[k], false⟩ : jl) (IntKind.u8.wrap ((Y7 0 m).length : Int))) (⟨a.1[k], false⟩ : jl) = some (m.length : Int) := by
        rw [hput, zfo, zfv hp]; rfl
      rw [this]; rfl
  · rintro ⟨i, b, mp⟩ ⟨h1, m, done, h2, h3, h4, h5, h6⟩
    simp only at h1 h2 h4 ⊢
    subst h1
    have hd : a.1.drop 256 = [] := List.drop_of_length_le (by rw [a.2]; exact Nat.le_refl _)
    rw [hd] at h4 h6
    refine Tot.pure (Tot.pure ?_)
    rw [h4, ← h6]; simp [zcy]
def zke (n : Nat) : List Int := (List.range n).map fun (i : Nat) => (i : Int)
theorem zjt (n : Nat) : zke (n + 1) = zke n ++ [(n : Int)] := by simp [zke, List.range_succ]
theorem zjm (x : Int) (hx : 0 ≤ x) : ∀ n : Nat, Y5 x (zke n) = if x < n then some x.toNat else none
  | 0 => by
    have : ¬ x < ((0 : Nat) : Int) := by omega
    rw [if_neg this]; rfl
  | n + 1 => by
    rw [zjt]
    have ih := zjm x hx n
    by_cases h : x < (n : Int)
    · rw [if_pos h] at ih
      rw [if_pos (by omega)]
      have key : ∀ (m : List Int) (p : Nat) (c : Int), Y5 x m = some p → Y5 x (m ++ [c]) = some p := by
        intro m
        induction m with
        | nil => intro p c h; cases h
        | cons d m ihm =>
          intro p c h
          simp only [Y5, List.cons_append] at h ⊢
          split at h
          · rename_i hd; rw [if_pos hd]; exact h
          · rename_i hd
            rw [if_neg hd]
            obtain ⟨q, hq, rfl⟩ := Option.map_eq_some_iff.1 h
            rw [ihm q c hq]; rfl
      exact key _ _ _ ih
    · rw [if_neg h] at ih
      by_cases h2 : x = (n : Int)
      · subst h2
        rw [zfv ih, if_pos (by omega)]
        simp [zke]
      · have h3 : ¬ x < ((n + 1 : Nat) : Int) := by omega
        rw [if_neg h3]
        have key : ∀ (m : List Int) (c : Int), Y5 x m = none → ¬ c = x → Y5 x (m ++ [c]) = none := by
          intro m
          induction m with
          | nil => intro c _ hc; simp [Y5, hc]
          | cons d m ihm =>
            intro c h hc
            simp only [Y5, List.cons_append] at h ⊢
            split at h
            · cases h
            · rename_i hd
              rw [if_neg hd]
              have : Y5 x m = none := by cases hq : Y5 x m <;> simp [hq] at h ⊢
              rw [ihm c this hc]; rfl
        exact key _ _ ih (fun e => h2 e.symm)
theorem zca : ∀ (l : List Int) (n : Nat), (∀ x ∈ l, 0 ≤ x) → (zcy (zke n) l = l ↔ Qe n l = true)
  | [], n, _ => by simp [zcy, Qe]
  | x :: xs, n, h => by
    have hx := h x (by simp)
    have hxs : ∀ y ∈ xs, 0 ≤ y := fun y hy => h y (by simp [hy])
    simp only [zcy, Qe, zjm x hx n]
    by_cases h1 : x < (n : Int)
    · rw [if_pos h1, if_neg (by omega), if_neg (by omega)]
      have ih := zca xs n hxs
      simp only [List.cons.injEq]
      have : ((x.toNat : Nat) : Int) = x := by omega
      rw [ih]; simp [this]
    · rw [if_neg h1]
      have hlen : (zke n).length = n := by simp [zke]
      simp only [List.cons.injEq, hlen]
      by_cases h2 : x = (n : Int)
      · subst h2
        have ih := zca xs (n + 1) hxs
        rw [zjt] at ih
        rw [if_neg (by omega), if_pos rfl, ih]
        simp
      · rw [if_pos (by omega)]
        constructor
        · rintro ⟨e, _⟩; exact absurd e.symm h2
        · intro e; cases e
theorem ziv (a : Arr 256 Int) (ha : zhw a.1) : Tot (Vy a) (· = Qe 0 a.1) := by
  unfold Vy
  refine Tot.bind ((zn6 a).mono fun r hr => Tot.pure ?_)
  have h := zca a.1 0 (fun x hx => (ha x hx).1)
  rw [show zke 0 = [] from rfl, ← hr] at h
  rw [Bool.eq_iff_iff, beq_iff_eq]
  exact h
end Go.Proofs.YtpohfkgjghiofaaGreat

namespace Go.Proofs.YtpohfkgjghiofaaGreat
open Go Go.RowKit L
set_option linter.unusedVariables false
set_option linter.unusedSimpArgs false
def Zx (l : List Int) : Int := l.foldl (fun n c => max n (c + 1)) 0
theorem zma (a : Arr 256 Int) : V1 a = Qc a := rfl
theorem zjs (a : Arr 256 Int) (ha : zhw a.1) : Tot (Qc a) (· = Zx a.1) := by
  unfold Qc
  refine Tot.bind ?_
  refine Tot.forC (fun s => s.2) 256 (fun k s => s.2 = (k : Int) ∧ 0 ≤ s.1 ∧ s.1 ≤ 256 ∧ (a.1.drop k).foldl (fun n c => max n (c + 1)) s.1 = Zx a.1) (fun k s h => h.1) ?_ ?_ ⟨rfl, by decide, by decide, by simp [Zx]⟩
  · rintro k ⟨n, i⟩ hk ⟨h1, h2, h3, h4⟩
    simp only at h1 h2 h3 h4 ⊢
    subst h1
    have hkl : k < a.1.length := by rw [a.2]; exact hk
    have hb := ha _ (List.getElem_mem hkl)
    have hd : a.1.drop k = a.1[k] :: a.1.drop (k + 1) := List.drop_eq_getElem_cons hkl
    have hix : idx a.1 (k : Int) = some a.1[k] := zbi (List.getElem?_eq_getElem hkl)
    have hw : w64 a.1[k] = a.1[k] := zc8 (by omega) (by omega)
    have hw1 : w64 (a.1[k] + 1) = a.1[k] + 1 := zc8 (by omega) (by omega)
    have hwk : w64 ((k : Int) + 1) = ((k + 1 : Nat) : Int) := qr (by omega)
    rw [hd, List.foldl_cons] at h4
    have hdec : decide ((k : Int) < 256) = true := by simp; omega
    rw [hdec, G.ct]
    refine Tot.bind (Tot.lift hix (Tot.pure ?_))
    rw [hw, hw1]
    exact ⟨hwk, by omega, by omega, h4⟩
  · rintro ⟨n, i⟩ ⟨h1, h2, h3, h4⟩
    simp only at h1 h2 h3 h4 ⊢
    subst h1
    refine Tot.pure (Tot.pure ?_)
    rw [← h4, List.drop_of_length_le (by rw [a.2]; exact Nat.le_refl _)]; rfl
theorem ziw (a : Arr 256 Int) (ha : zhw a.1) : Tot (V1 a) (· = Zx a.1) := zma a ▸ zjs a ha
end Go.Proofs.YtpohfkgjghiofaaGreat

namespace Go.Proofs.YtpohfkgjghiofaaGreat
open Go Go.RowKit L
set_option linter.unusedVariables false
set_option linter.unusedSimpArgs false
def zi3 (n : Int) (row : List Int) : Bool := row.all fun c => !(decide (c < -1) || decide (n ≤ c))
theorem zmi (row : List Int) (n : Int) (b0 : Bool) (hl : row.length ≤ 9223372036854775807) :
    Tot (G.loop (σ := (Bool × Int)) (α := Bool ⊕ Bool) (fun (x39, x40) => G.cond (decide (x40 < (row.length : Int))) (G.bind (G.lift (idx row x40)) fun x51 => G.cond ((decide (x51 < (-1))) || (decide (n ≤ x51))) (G.pure (.inr (.inl false))) (G.pure (.inl (x39, (w64 (x40 + 1)))))) (G.pure (.inr (.inr x39)))) (b0, 0)) (· = if zi3 n row then .inr b0 else .inl false) := by
  refine Tot.forC (fun s => s.2) row.length (fun k s => s.2 = (k : Int) ∧ s.1 = b0 ∧ zi3 n row = zi3 n (row.drop k)) (fun k s h => h.1) ?_ ?_ ⟨rfl, rfl, by simp⟩
  · rintro k ⟨b, i⟩ hk ⟨h1, h2, h3⟩
    simp only at h1 h2 h3 ⊢
    subst h1; subst h2
    have hd : row.drop k = row[k] :: row.drop (k + 1) := List.drop_eq_getElem_cons hk
    have hix : idx row (k : Int) = some row[k] := zbi (List.getElem?_eq_getElem hk)
    have hwk : w64 ((k : Int) + 1) = ((k + 1 : Nat) : Int) := qr (by omega)
    have hdec : decide ((k : Int) < (row.length : Int)) = true := by simp; omega
    rw [hd] at h3
    have h4 : zi3 n (row[k] :: row.drop (k + 1)) = (!(decide (row[k] < -1) || decide (n ≤ row[k])) && zi3 n (row.drop (k + 1))) := rfl
    rw [h4] at h3
    rw [hdec, G.ct]
    refine Tot.bind (Tot.lift hix ?_)
    refine Tot.cond (fun hb => Tot.pure ?_) fun hb => Tot.pure ?_
    · rw [hb] at h3
      simp only [Bool.not_true, Bool.false_and] at h3
      rw [h3]; rfl
    · rw [hb] at h3
      exact ⟨hwk, rfl, by simpa using h3⟩
  · rintro ⟨b, i⟩ ⟨h1, h2, h3⟩
    simp only at h1 h2 h3 ⊢
    subst h1; subst h2
    have hdec : decide ((row.length : Int) < (row.length : Int)) = false := by simp
    rw [hdec]
    have h5 : zi3 n row = true := by rw [h3, List.drop_length]; rfl
    refine Tot.pure ?_
    rw [h5]; rfl
end Go.Proofs.YtpohfkgjghiofaaGreat

namespace Go.Proofs.YtpohfkgjghiofaaGreat
open Go Go.RowKit L
set_option linter.unusedVariables false
set_option linter.unusedSimpArgs false
def zdv (n w : Int) : List (List Int) → List Int → Bool
  | [], _ => true
  | r :: rs, t :: ts => !(decide (¬ (r.length : Int) = w) || decide (t < -1)) && zi3 n r && zdv n w rs ts
  | _ :: _, [] => false
def zk (d : je) : Bool := !(decide ((d.jd.length : Int) = 0) || decide (¬ (d.jj.length : Int) = (d.jd.length : Int))) && Qe 0 d.jp.1 && decide (Zx d.jp.1 = d.ji) && zdv d.jd.length d.ji d.jd d.jj
structure DOk (d : je) : Prop where
  cls : zhw d.jp.1
  next : d.jd.length ≤ 9223372036854775807
  rows : ∀ r ∈ d.jd, r.length ≤ 9223372036854775807
theorem ze2 (d : je) (hd : DOk d) : Tot (Jw d) (· = zk d) := by
  unfold Jw
  by_cases hA : ((decide ((d.jd.length : Int) = 0)) || (decide (¬ (d.jj.length : Int) = (d.jd.length : Int)))) = true
  · have hR : zk d = false := by unfold zk; rw [hA]; rfl
    rw [hA, hR]
    exact Tot.pure rfl
  · simp only [Bool.not_eq_true] at hA
    have hlen : d.jj.length = d.jd.length := by
      rw [Bool.or_eq_false_iff] at hA
      have := hA.2
      simp at this
      omega
    rw [hA]
    refine Tot.bindE (ziv d.jp hd.cls) ?_
    by_cases hB : Qe 0 d.jp.1 = true
    · rw [hB]
      refine Tot.bindE (ziw d.jp hd.cls) ?_
      by_cases hC : Zx d.jp.1 = d.ji
      · have hR : zk d = zdv d.jd.length d.ji d.jd d.jj := by unfold zk; rw [hA, hB, hC]; simp
        rw [hR, hC]
        refine Tot.cond (fun h => by simp at h) fun _ => ?_
        refine Tot.bind (Tot.bind ?_)
        refine Tot.forC (fun s => s.2) d.jd.length (fun k s => s.2 = (k : Int) ∧ s.1 = true ∧ zdv d.jd.length d.ji d.jd d.jj = zdv d.jd.length d.ji (d.jd.drop k) (d.jj.drop k)) (fun k s h => h.1) ?_ ?_ ⟨rfl, rfl, by simp⟩
        · rintro k ⟨b, i⟩ hk ⟨h1, h2, h3⟩
          simp only at h1 h2 h3 ⊢
          subst h1; subst h2
          have hkl : k < d.jj.length := by omega
          have e1 : d.jd.drop k = d.jd[k] :: d.jd.drop (k + 1) := List.drop_eq_getElem_cons hk
          have e2 : d.jj.drop k = d.jj[k] :: d.jj.drop (k + 1) := List.drop_eq_getElem_cons hkl
          have hix : idx d.jd (k : Int) = some d.jd[k] := zbi (List.getElem?_eq_getElem hk)
          have hil : idx d.jj (k : Int) = some d.jj[k] := zbi (List.getElem?_eq_getElem hkl)
          have hwk : w64 ((k : Int) + 1) = ((k + 1 : Nat) : Int) := qr (by have := hd.next; omega)
          have hdec : decide ((k : Int) < (d.jd.length : Int)) = true := by simp; omega
          rw [e1, e2] at h3
          simp only [zdv] at h3
          rw [hdec, G.ct]
          refine Tot.bind (Tot.lift hix ?_)
          by_cases hw : ((d.jd[k]).length : Int) = d.ji
          · have hw2 : decide (¬ ((d.jd[k]).length : Int) = d.ji) = false := by simp [hw]
            simp only [hw2, Bool.not_false, Bool.false_or] at h3 ⊢
            refine Tot.bind (Tot.lift hil ?_)
            refine Tot.cond (fun hb => Tot.pure (Tot.pure (Tot.pure ?_))) fun hb => ?_
            · rw [hb] at h3; rw [h3]; rfl
            · rw [hb] at h3
              refine Tot.bindE (zmi d.jd[k] d.jd.length true (hd.rows _ (List.getElem_mem hk))) ?_
              by_cases hr : zi3 d.jd.length d.jd[k] = true
              · rw [hr] at h3 ⊢
                exact Tot.pure ⟨hwk, rfl, by simpa using h3⟩
              · simp only [Bool.not_eq_true] at hr
                rw [hr] at h3 ⊢
                refine Tot.pure (Tot.pure (Tot.pure ?_))
                rw [h3]; rfl
          · have hw2 : decide (¬ ((d.jd[k]).length : Int) = d.ji) = true := by simp [hw]
            simp only [hw2, Bool.not_true, Bool.true_or] at h3 ⊢
            refine Tot.bind (Tot.pure (Tot.pure (Tot.pure (Tot.pure ?_))))
            rw [h3]; rfl
        · rintro ⟨b, i⟩ ⟨h1, h2, h3⟩
          simp only at h1 h2 h3 ⊢
          subst h1; subst h2
          have hdec : decide ((d.jd.length : Int) < (d.jd.length : Int)) = false := by simp
          rw [hdec]
          refine Tot.pure (Tot.pure (Tot.pure ?_))
          rw [h3, List.drop_length]; rfl
      · have hR : zk d = false := by unfold zk; simp [hC]
        rw [hR]
        refine Tot.cond (fun _ => Tot.pure rfl) fun h => ?_
        simp [hC] at h
    · simp only [Bool.not_eq_true] at hB
      have hR : zk d = false := by unfold zk; rw [hB]; simp
      rw [hB, hR]
      exact Tot.pure rfl
end Go.Proofs.YtpohfkgjghiofaaGreat

namespace Go.Proofs.YtpohfkgjghiofaaGreat
open Go Go.RowKit L
set_option linter.unusedVariables false
set_option linter.unusedSimpArgs false
inductive Rch (E : Nat → Nat → Prop) (S : Nat → Prop) : Nat → Prop
  | base {i : Nat} : S i → Rch E S i
  | step {i j : Nat} : Rch E S i → E i j → Rch E S j
def onB (l : List Bool) (i : Nat) : Prop := l[i]? = some true
theorem zhs {l : List Bool} {i : Nat} (h : onB l i) : i < l.length := (List.getElem?_eq_some_iff.1 h).1
theorem zmy {l : List Bool} {i j : Nat} (hi : i < l.length) : onB (l.set i true) j ↔ i = j ∨ onB l j := by
  unfold onB
  by_cases h : i = j
  · subst h; simp [List.getElem?_set_self hi]
  · rw [List.getElem?_set_ne h]; simp [h]
theorem zg1 {n i : Nat} : ¬ onB (List.replicate n false) i := by
  unfold onB
  intro h
  obtain ⟨h1, h2⟩ := List.getElem?_eq_some_iff.1 h
  simp at h2
def offs (l : List Bool) : Nat := l.count false
theorem zm7 (l : List Bool) : offs l ≤ l.length := List.count_le_length
theorem zdi (b : Bool) (l : List Bool) : offs (b :: l) = offs l + (if b then 0 else 1) := by
  unfold offs; cases b <;> simp
theorem zkw : ∀ {l : List Bool} {i : Nat}, l[i]? = some false → offs (l.set i true) + 1 = offs l
  | [], i, h => by simp at h
  | b :: l, 0, h => by
    simp at h; subst h
    simp [zdi]
  | b :: l, i + 1, h => by
    simp only [List.getElem?_cons_succ] at h
    have := zkw h
    simp only [List.set_cons_succ, zdi]; omega
def LeB (a b : List Bool) : Prop := a.length = b.length ∧ ∀ i, onB a i → onB b i
theorem LeB.refl (a : List Bool) : LeB a a := ⟨rfl, fun _ h => h⟩
theorem LeB.trans {a b c : List Bool} (h : LeB a b) (h2 : LeB b c) : LeB a c := ⟨h.1.trans h2.1, fun i hi => h2.2 i (h.2 i hi)⟩
theorem LeB.set {a : List Bool} {i : Nat} (hi : i < a.length) : LeB a (a.set i true) := ⟨by simp, fun j hj => (zmy hi).2 (.inr hj)⟩
theorem zot {a b : List Bool} (hl : a.length = b.length) (h : ∀ i, onB a i ↔ onB b i) : a = b := by
  refine List.ext_getElem hl fun i h1 h2 => ?_
  have := h i
  unfold onB at this
  rw [List.getElem?_eq_getElem h1, List.getElem?_eq_getElem h2] at this
  cases e1 : a[i] <;> cases e2 : b[i] <;> simp [e1, e2] at this <;> rfl
theorem LeB.antisymm {a b : List Bool} (h : LeB a b) (h2 : LeB b a) : a = b := zot h.1 fun i => ⟨h.2 i, h2.2 i⟩
theorem LeB.offs : ∀ {a b : List Bool}, LeB a b → a = b ∨ offs b < offs a := by
  intro a
  induction a with
  | nil => intro b h; cases b with
    | nil => exact .inl rfl
    | cons x b => exact absurd h.1 (by simp)
  | cons x a ih =>
    intro b h
    cases b with
    | nil => exact absurd h.1 (by simp)
    | cons y b =>
      have h1 : LeB a b := ⟨by simpa using h.1, fun i hi => by have := h.2 (i + 1); unfold onB at *; simpa using this (by simpa using hi)⟩
      have h0 : x = true → y = true := fun e => by have := h.2 0; unfold onB at this; simpa [e] using this
      rw [zdi, zdi]
      rcases ih h1 with e | e
      · subst e
        cases x with
        | true => rw [h0 rfl]; exact .inl rfl
        | false => cases y with
          | false => exact .inl rfl
          | true => right; simp
      · right
        cases x with
        | true => rw [h0 rfl]; simpa using e
        | false => cases y <;> simp <;> omega
noncomputable def zfp (n : Nat) (E : Nat → Nat → Prop) (S : Nat → Prop) : List Bool := by
  classical exact (List.range n).map fun i => decide (Rch E S i)
theorem zll (n : Nat) (E : Nat → Nat → Prop) (S : Nat → Prop) : (zfp n E S).length = n := by unfold zfp; simp
theorem zey {n : Nat} {E : Nat → Nat → Prop} {S : Nat → Prop} {i : Nat} : onB (zfp n E S) i ↔ i < n ∧ Rch E S i := by
  classical
  unfold onB zfp
  by_cases h : i < n
  · simp [h]
  · simp [h]
theorem znf {n : Nat} {E : Nat → Nat → Prop} {S : Nat → Prop} {l : List Bool} (hl : l.length = n) (hs : ∀ i, onB l i → Rch E S i) (h1 : ∀ i, S i → onB l i) (h2 : ∀ i j, onB l i → E i j → onB l j) : l = zfp n E S := by
  refine zot (by rw [hl, zll]) fun i => ⟨fun h => zey.2 ⟨hl ▸ zhs h, hs i h⟩, fun h => ?_⟩
  have := (zey.1 h).2
  clear h
  induction this with
  | base h => exact h1 _ h
  | step _ h ih => exact h2 _ _ ih h
structure Round (E : Nat → Nat → Prop) (S : Nat → Prop) (a b : List Bool) : Prop where
  le : LeB a b
  sound : ∀ i, onB b i → Rch E S i
  closed : a = b → (∀ i, S i → onB a i) ∧ ∀ i j, onB a i → E i j → onB a j
theorem Round.next {n : Nat} {E : Nat → Nat → Prop} {S : Nat → Prop} {a b : List Bool} {m k : Nat} (h : Round E S a b) (hl : a.length = n) (hk : a = zfp n E S ∨ offs a + k ≤ m) : b = zfp n E S ∨ offs b + (k + 1) ≤ m := by
  rcases hk with hk | hk
  · left
    refine h.le.antisymm ⟨h.le.1.symm, fun i hi => ?_⟩ |>.symm.trans hk
    rw [hk]
    exact zey.2 ⟨hl ▸ (h.le.1 ▸ zhs hi), h.sound i hi⟩
  · rcases h.le.offs with e | e
    · left
      obtain ⟨h1, h2⟩ := h.closed e
      subst e
      exact znf hl h.sound h1 h2
    · right; omega
end Go.Proofs.YtpohfkgjghiofaaGreat

namespace Go.Proofs.YtpohfkgjghiofaaGreat
open Go Go.RowKit L
set_option linter.unusedVariables false
set_option linter.unusedSimpArgs false
def at' {α : Type} [Inhabited α] (l : List α) (z : Int) : α := l.getD z.toNat default
theorem Ju {α : Type} [Inhabited α] {l : List α} {k : Nat} (h : k < l.length) : at' l (k : Int) = l[k] := by
  unfold at'; simp [h]
theorem at_get {α : Type} [Inhabited α] {l : List α} {k : Nat} {x : α} (h : l[k]? = some x) : at' l (k : Int) = x := by
  unfold at'; simp [h]
theorem idx_at {α : Type} [Inhabited α] {l : List α} {z : Int} (h0 : 0 ≤ z) (h1 : z < l.length) : idx l z = some (at' l z) := by
  obtain ⟨k, rfl⟩ := Int.eq_ofNat_of_zero_le h0
  have hk : k < l.length := by omega
  rw [Ju hk]; exact zbi (List.getElem?_eq_getElem hk)
theorem zd6 {α : Type} [Inhabited α] {l : List α} {z : Int} (h0 : 0 ≤ z) (h1 : z < l.length) : at' l z ∈ l := by
  obtain ⟨k, rfl⟩ := Int.eq_ofNat_of_zero_le h0
  have hk : k < l.length := by omega
  rw [Ju hk]; exact List.getElem_mem hk
theorem zm1 {α : Type} [Inhabited α] {l : List α} {z : Int} {v : α} (h0 : 0 ≤ z) (h1 : z < l.length) : at' (l.set z.toNat v) z = v := by
  unfold at'; simp [show z.toNat < l.length by omega]
theorem zqu {α : Type} [Inhabited α] {l : List α} {z y : Int} {v : α} (h0 : 0 ≤ z) (hy : 0 ≤ y) (h : z ≠ y) : at' (l.set z.toNat v) y = at' l y := by
  unfold at'; simp only [List.getD_eq_getElem?_getD]; rw [List.getElem?_set_ne (by omega)]
theorem Qf {l : List Bool} {k : Nat} : at' l (k : Int) = true ↔ onB l k := by
  unfold at' onB
  simp only [Int.toNat_natCast, List.getD_eq_getElem?_getD]
  cases h : l[k]? with
  | none => simp
  | some b => simp
theorem zhz {l : List Bool} {z : Int} (h0 : 0 ≤ z) : at' l z = true ↔ onB l z.toNat := by
  obtain ⟨k, rfl⟩ := Int.eq_ofNat_of_zero_le h0
  exact Qf
theorem jr {p : Prop} [Decidable p] (h : p) : decide p = true := decide_eq_true h
theorem js {p : Prop} [Decidable p] (h : ¬p) : decide p = false := decide_eq_false h
section
variable {α β γ : Type} {Q : γ → Prop}
theorem Tot.idx [Inhabited α] {l : List α} {z : Int} {f : α → G γ} (h0 : 0 ≤ z) (h1 : z < l.length) (h : Tot (f (at' l z)) Q) : Tot (G.bind (G.lift (L.idx l z)) f) Q := .bind (.lift (idx_at h0 h1) h)
theorem Tot.someB {o : Option α} {a : α} {f : α → G γ} (h : o = some a) (h2 : Tot (f a) Q) : Tot (G.bind (G.lift o) f) Q := .bind (.lift h h2)
theorem Tot.apnd {b : Nat} {xs ys : List α} {f : List α → G γ} (h1 : (xs.length + ys.length) * b ≤ 140737488355328) (h2 : xs.length + ys.length ≤ 140737488355328) (h : Tot (f (xs ++ ys)) Q) : Tot (G.bind (G.lift (app b xs ys)) f) Q := Tot.someB (app_of h1 h2) h
theorem Tot.mk {b : Nat} {z : α} {n : Int} {f : List α → G γ} (h0 : 0 ≤ n) (h1 : b * n.toNat ≤ 281474976710656) (h2 : n.toNat ≤ 281474976710656) (h : Tot (f (List.replicate n.toNat z)) Q) : Tot (G.bind (G.lift (mkS b z n)) f) Q := by
  obtain ⟨k, rfl⟩ := Int.eq_ofNat_of_zero_le h0
  exact Tot.someB (mkS_of (by simpa using h1) (by simpa using h2)) h
theorem Tot.bp {a : α} {f : α → G γ} (h : Tot (f a) Q) : Tot (G.bind (G.pure a) f) Q := h
theorem G.bb {m : G α} {f : α → G β} {g : β → G γ} : G.bind (G.bind m f) g = G.bind m fun a => G.bind (f a) g := by
  funext n
  unfold G.bind
  cases m n <;> rfl
theorem Tot.bb {m : G α} {f : α → G β} {g : β → G γ} (h : Tot (G.bind m fun a => G.bind (f a) g) Q) : Tot (G.bind (G.bind m f) g) Q := by rw [G.bb]; exact h
theorem Tot.bc {b : Bool} {x y : G α} {f : α → G γ} (h : Tot (G.cond b (G.bind x f) (G.bind y f)) Q) : Tot (G.bind (G.cond b x y) f) Q := by
  cases b <;> exact h
theorem Tot.ct {b : Bool} {x y : G γ} (hb : b = true) (h : Tot x Q) : Tot (G.cond b x y) Q := by subst hb; exact h
theorem Tot.cf {b : Bool} {x y : G γ} (hb : b = false) (h : Tot y Q) : Tot (G.cond b x y) Q := by subst hb; exact h
theorem Tot.rdx [Inhabited α] {l : List α} {z : Int} {f : α → G γ} (h : 0 ≤ z ∧ z < l.length) (h2 : Tot (f (at' l z)) Q) : Tot (G.bind (G.lift (L.idx l z)) f) Q := Tot.idx h.1 h.2 h2
theorem Tot.apx {b : Nat} {xs ys : List α} {f : List α → G γ} (h : (xs.length + ys.length) * b ≤ 140737488355328 ∧ xs.length + ys.length ≤ 140737488355328) (h2 : Tot (f (xs ++ ys)) Q) : Tot (G.bind (G.lift (app b xs ys)) f) Q := Tot.apnd h.1 h.2 h2
theorem Tot.mkx {b : Nat} {z : α} {n : Int} {f : List α → G γ} (h : 0 ≤ n ∧ b * n.toNat ≤ 281474976710656 ∧ n.toNat ≤ 281474976710656) (h2 : Tot (f (List.replicate n.toNat z)) Q) : Tot (G.bind (G.lift (mkS b z n)) f) Q := Tot.mk h.1 h.2.1 h.2.2 h2
theorem bl_ : ((!true) = false) ∧ ((!false) = true) ∧ (∀ b, (true && b) = b) ∧ (∀ b, (b && true) = b) ∧ (∀ b, (false && b) = false) ∧ (∀ b, (b && false) = false) ∧ (∀ b, (true || b) = true) ∧ (∀ b, (b || true) = true) ∧ (∀ b, (false || b) = b) ∧ (∀ b, (b || false) = b) ∧ (∀ (α : Type) (a : α) (l : List α), (a :: l).length = l.length + 1) ∧ (∀ (α : Type) (l m : List α), (l ++ m).length = l.length + m.length) ∧ (∀ (α : Type) (l : List α) (i : Nat) (a : α), (l.set i a).length = l.length) ∧ (∀ (α : Type), ([] : List α).length = 0) ∧ (∀ (α : Type) (n : Nat) (a : α), (List.replicate n a).length = n) ∧ (∀ (α β : Type) (f : α → β) (l : List α), (l.map f).length = l.length) ∧ (∀ n : Nat, (n : Int).toNat = n) := by
  refine ⟨rfl, rfl, ?_, ?_, ?_, ?_, ?_, ?_, ?_, ?_, ?_, ?_, ?_, ?_, ?_, ?_, ?_⟩ <;> intros <;> simp
theorem Tot.part {m : G α} {f : α → G γ} (R : α → Prop) (hm : Tot m R) (h : ∀ a, R a → Tot (f a) Q) : Tot (G.bind m f) Q := .bind (hm.mono h)
end
theorem zjl {α : Type} {x : α} {l : List α} : zc1 (x :: l) 1 ((x :: l).length : Int) = some l := by
  unfold zc1
  rw [if_pos ⟨by omega, by omega, by simp, by simp⟩]
  simp
theorem zom {α : Type} {x : α} {l : List α} : idx (x :: l) 0 = some x := rfl
theorem zh3 {α : Type} {xs ys : List α} (h : xs.length ≤ 10000000) : zbo xs ys = some ys := if_pos h
end Go.Proofs.YtpohfkgjghiofaaGreat

namespace Go.Proofs.YtpohfkgjghiofaaGreat
open Go Go.RowKit L
set_option linter.unusedVariables false
set_option linter.unusedSimpArgs false
structure MOk (d : je) : Prop where
  n0 : 0 < d.jd.length
  lab : d.jj.length = d.jd.length
  cls : Qe 0 d.jp.1 = true
  wid : Zx d.jp.1 = d.ji
  row : ∀ i : Int, 0 ≤ i → i < d.jd.length → ((at' d.jd i).length : Int) = d.ji
  lb : ∀ i : Int, 0 ≤ i → i < d.jd.length → -1 ≤ at' d.jj i
  nx : ∀ i c : Int, 0 ≤ i → i < d.jd.length → 0 ≤ c → c < d.ji → -1 ≤ at' (at' d.jd i) c ∧ at' (at' d.jd i) c < d.jd.length
theorem zjr : ∀ (l : List Int) (n : Int), (∀ x ∈ l, 0 ≤ x ∧ x < 256) → 0 ≤ n → n ≤ 256 → n ≤ l.foldl (fun n c => max n (c + 1)) n ∧ l.foldl (fun n c => max n (c + 1)) n ≤ 256 ∧ ∀ x ∈ l, x < l.foldl (fun n c => max n (c + 1)) n
  | [], n, _, h0, h1 => ⟨Int.le_refl _, h1, fun x h => by cases h⟩
  | c :: cs, n, h, h0, h1 => by
    have hc := h c (by simp)
    obtain ⟨a, b, e⟩ := zjr cs (max n (c + 1)) (fun x hx => h x (by simp [hx])) (by omega) (by omega)
    simp only [List.foldl_cons]
    refine ⟨by omega, b, fun x hx => ?_⟩
    rcases List.mem_cons.1 hx with rfl | hx
    · omega
    · exact e x hx
theorem zay {l : List Int} (h : zhw l) : 0 ≤ Zx l ∧ Zx l ≤ 256 ∧ ∀ x ∈ l, x < Zx l := by
  have := zjr l 0 h (by decide) (by decide)
  exact this
theorem zfr (n w : Int) : ∀ (rs : List (List Int)) (ts : List Int), ts.length = rs.length → (zdv n w rs ts = true ↔ ∀ k : Nat, k < rs.length → ((at' rs k).length : Int) = w ∧ -1 ≤ at' ts k ∧ ∀ c : Nat, c < (at' rs k).length → -1 ≤ at' (at' rs k) c ∧ at' (at' rs k) c < n)
  | [], _, _ => by simp [zdv]
  | r :: rs, [], h => by simp at h
  | r :: rs, t :: ts, h => by
    have ih := zfr n w rs ts (by simpa using h)
    have e1 : ∀ k : Nat, at' (r :: rs) ((k + 1 : Nat) : Int) = at' rs (k : Int) := fun k => by unfold at'; simp
    have e2 : ∀ k : Nat, at' (t :: ts) ((k + 1 : Nat) : Int) = at' ts (k : Int) := fun k => by unfold at'; simp
    have e3 : at' (r :: rs) ((0 : Nat) : Int) = r := rfl
    have e4 : at' (t :: ts) ((0 : Nat) : Int) = t := rfl
    have hr : zi3 n r = true ↔ ∀ c : Nat, c < r.length → -1 ≤ at' r c ∧ at' r c < n := by
      unfold zi3
      rw [List.all_eq_true]
      constructor
      · intro h c hc
        have := h _ (List.getElem_mem hc)
        rw [Ju hc]
        simp at this; omega
      · intro h x hx
        obtain ⟨c, hc, rfl⟩ := List.getElem_of_mem hx
        have := h c hc
        rw [Ju hc] at this
        simp; omega
    simp only [zdv, Bool.and_eq_true, ih, hr]
    constructor
    · rintro ⟨⟨ha, hb⟩, hc⟩ k hk
      cases k with
      | zero => rw [e3, e4]; simp at ha; exact ⟨by omega, by omega, hb⟩
      | succ k => rw [e1, e2]; exact hc k (by simpa using hk)
    · intro hall
      have h0 := hall 0 (by simp)
      rw [e3, e4] at h0
      refine ⟨⟨by simp; omega, h0.2.2⟩, fun k hk => ?_⟩
      have := hall (k + 1) (by simpa using hk)
      rwa [e1, e2] at this
theorem Qr (d : je) : zk d = true ↔ MOk d := by
  unfold zk
  constructor
  · intro h
    simp only [Bool.and_eq_true, Bool.not_eq_true', Bool.or_eq_false_iff, decide_eq_false_iff_not, decide_eq_true_eq, Decidable.not_not] at h
    obtain ⟨⟨⟨⟨h1, h2⟩, h3⟩, h4⟩, h5⟩ := h
    have h6 := (zfr _ _ _ _ (by omega)).1 h5
    refine ⟨by omega, by omega, h3, h4, ?_, ?_, ?_⟩
    · intro i h0 hi
      obtain ⟨k, rfl⟩ := Int.eq_ofNat_of_zero_le h0
      exact (h6 k (by omega)).1
    · intro i h0 hi
      obtain ⟨k, rfl⟩ := Int.eq_ofNat_of_zero_le h0
      exact (h6 k (by omega)).2.1
    · intro i c h0 hi hc0 hc
      obtain ⟨k, rfl⟩ := Int.eq_ofNat_of_zero_le h0
      obtain ⟨c, rfl⟩ := Int.eq_ofNat_of_zero_le hc0
      have := h6 k (by omega)
      exact this.2.2 c (by omega)
  · intro h
    have h5 : zdv d.jd.length d.ji d.jd d.jj = true := by
      refine (zfr _ _ _ _ h.lab).2 fun k hk => ?_
      have h1 := h.row k (by omega) (by omega)
      have h2 := h.lb k (by omega) (by omega)
      exact ⟨h1, h2, fun c hc => h.nx k c (by omega) (by omega) (by omega) (by omega)⟩
    have := h.n0
    have := h.lab
    simp only [h5, h.cls, h.wid, Bool.and_true, decide_true, Bool.not_eq_true', Bool.or_eq_false_iff, decide_eq_false_iff_not, Decidable.not_not]
    omega
theorem zch (d : je) (hd : DOk d) : Tot (Jh d) (· = zk d) := by
  have key : Tot (Jh d) (fun b => b = true ↔ MOk d) := by
    unfold Jh
    refine Tot.bindE (zh6 d.jp hd.cls) ?_
    cases hB : Qe 0 d.jp.1
    · repeat (first | with_reducible (refine Tot.bp ?_) | with_reducible (refine Tot.bb ?_) | (refine Tot.ct ?_ ?_; focus (first | rfl | (simp (disch := omega) only [jr, js, bl_]; done))) | (refine Tot.cf ?_ ?_; focus (first | rfl | (simp (disch := omega) only [jr, js, bl_]; done))) | with_reducible (refine Tot.bc ?_) | ((first | refine Tot.rdx ?_ ?_ | refine Tot.apx ?_ ?_ | refine Tot.mkx ?_ ?_); focus (first | omega | (simp; done) | (simp; omega))))
      refine Tot.pure ?_
      simp; intro h; rw [h.cls] at hB; cases hB
    repeat (first | with_reducible (refine Tot.bp ?_) | with_reducible (refine Tot.bb ?_) | (refine Tot.ct ?_ ?_; focus (first | rfl | (simp (disch := omega) only [jr, js, bl_]; done))) | (refine Tot.cf ?_ ?_; focus (first | rfl | (simp (disch := omega) only [jr, js, bl_]; done))) | with_reducible (refine Tot.bc ?_) | ((first | refine Tot.rdx ?_ ?_ | refine Tot.apx ?_ ?_ | refine Tot.mkx ?_ ?_); focus (first | omega | (simp; done) | (simp; omega))))
    refine Tot.bindE (zjs d.jp hd.cls) ?_
    refine Tot.cond (fun hb => Tot.pure ?_) fun hb => ?_
    · simp
      intro h
      have h1 := h.n0
      have h2 := h.lab
      have h3 := h.wid
      simp only [Bool.not_true, Bool.false_or, Bool.or_eq_true, decide_eq_true_eq] at hb
      omega
    simp only [Bool.not_true, Bool.false_or, Bool.or_eq_false_iff, decide_eq_false_iff_not, Decidable.not_not] at hb
    obtain ⟨⟨b1, b2⟩, b3⟩ := hb
    obtain ⟨w0, w1, _⟩ := zay hd.cls
    have hn := hd.next
    refine Tot.bind ?_
    refine Tot.forC (fun s => s) d.jd.length (fun k s => s = (k : Int) ∧ ∀ i : Int, 0 ≤ i → i < k → ((at' d.jd i).length : Int) = d.ji ∧ -1 ≤ at' d.jj i ∧ ∀ c : Int, 0 ≤ c → c < d.ji → -1 ≤ at' (at' d.jd i) c ∧ at' (at' d.jd i) c < d.jd.length) (fun k s h => h.1) ?_ ?_ ⟨rfl, fun i h0 h1 => by omega⟩
    · rintro k _ hk ⟨rfl, hI⟩
      repeat (first | with_reducible (refine Tot.bp ?_) | with_reducible (refine Tot.bb ?_) | (refine Tot.ct ?_ ?_; focus (first | rfl | (simp (disch := omega) only [jr, js, bl_]; done))) | (refine Tot.cf ?_ ?_; focus (first | rfl | (simp (disch := omega) only [jr, js, bl_]; done))) | with_reducible (refine Tot.bc ?_) | ((first | refine Tot.rdx ?_ ?_ | refine Tot.apx ?_ ?_ | refine Tot.mkx ?_ ?_); focus (first | omega | (simp; done) | (simp; omega))))
      refine Tot.cond (fun hw => ?_) fun hw => ?_
      · simp only [Bool.not_eq_true', decide_eq_false_iff_not, Decidable.not_not] at hw
        repeat (first | with_reducible (refine Tot.bp ?_) | with_reducible (refine Tot.bb ?_) | (refine Tot.ct ?_ ?_; focus (first | rfl | (simp (disch := omega) only [jr, js, bl_]; done))) | (refine Tot.cf ?_ ?_; focus (first | rfl | (simp (disch := omega) only [jr, js, bl_]; done))) | with_reducible (refine Tot.bc ?_) | ((first | refine Tot.rdx ?_ ?_ | refine Tot.apx ?_ ?_ | refine Tot.mkx ?_ ?_); focus (first | omega | (simp; done) | (simp; omega))))
        refine Tot.cond (fun hl => Tot.pure (Tot.pure ?_)) fun hl => ?_
        · simp
          intro h
          have := h.lb k (by omega) (by omega)
          simp only [Bool.or_eq_true, decide_eq_true_eq] at hl
          omega
        simp only [Bool.or_eq_false_iff, decide_eq_false_iff_not, Decidable.not_not] at hl
        refine Tot.bind ?_
        refine Tot.forC (fun s => s) d.ji.toNat (fun c s => s = (c : Int) ∧ ∀ i : Int, 0 ≤ i → i < c → -1 ≤ at' (at' d.jd k) i ∧ at' (at' d.jd k) i < d.jd.length) (fun k s h => h.1) ?_ ?_ ⟨rfl, fun i h0 h1 => by omega⟩
        · rintro c _ hc ⟨rfl, hJ⟩
          have bad : ¬ (-1 ≤ at' (at' d.jd k) c ∧ at' (at' d.jd k) c < d.jd.length) → ¬ MOk d := fun hx h => hx (h.nx k c (by omega) (by omega) (by omega) (by omega))
          repeat (first | with_reducible (refine Tot.bp ?_) | with_reducible (refine Tot.bb ?_) | (refine Tot.ct ?_ ?_; focus (first | rfl | (simp (disch := omega) only [jr, js, bl_]; done))) | (refine Tot.cf ?_ ?_; focus (first | rfl | (simp (disch := omega) only [jr, js, bl_]; done))) | with_reducible (refine Tot.bc ?_) | ((first | refine Tot.rdx ?_ ?_ | refine Tot.apx ?_ ?_ | refine Tot.mkx ?_ ?_); focus (first | omega | (simp; done) | (simp; omega))))
          refine Tot.cond (fun h1 => ?_) fun h1 => ?_
          · simp only [Bool.not_eq_true', decide_eq_false_iff_not] at h1
            repeat (first | with_reducible (refine Tot.bp ?_) | with_reducible (refine Tot.bb ?_) | (refine Tot.ct ?_ ?_; focus (first | rfl | (simp (disch := omega) only [jr, js, bl_]; done))) | (refine Tot.cf ?_ ?_; focus (first | rfl | (simp (disch := omega) only [jr, js, bl_]; done))) | with_reducible (refine Tot.bc ?_) | ((first | refine Tot.rdx ?_ ?_ | refine Tot.apx ?_ ?_ | refine Tot.mkx ?_ ?_); focus (first | omega | (simp; done) | (simp; omega))))
            refine Tot.cond (fun h2 => Tot.pure (Tot.pure (Tot.pure ?_))) fun h2 => Tot.pure ?_
            · simp
              simp only [Bool.or_eq_true, decide_eq_true_eq] at h2
              exact bad (by omega)
            · simp only [Bool.or_eq_false_iff, decide_eq_false_iff_not] at h2
              refine ⟨qr (by omega), fun i h0 h3 => ?_⟩
              by_cases hi : i = c
              · subst hi; omega
              · exact hJ i h0 (by omega)
          · simp only [Bool.not_eq_false', decide_eq_true_eq] at h1
            repeat (first | with_reducible (refine Tot.bp ?_) | with_reducible (refine Tot.bb ?_) | (refine Tot.ct ?_ ?_; focus (first | rfl | (simp (disch := omega) only [jr, js, bl_]; done))) | (refine Tot.cf ?_ ?_; focus (first | rfl | (simp (disch := omega) only [jr, js, bl_]; done))) | with_reducible (refine Tot.bc ?_) | ((first | refine Tot.rdx ?_ ?_ | refine Tot.apx ?_ ?_ | refine Tot.mkx ?_ ?_); focus (first | omega | (simp; done) | (simp; omega))))
            refine Tot.pure (Tot.pure (Tot.pure ?_))
            simp
            exact bad (by omega)
        · rintro _ ⟨rfl, hJ⟩
          repeat (first | with_reducible (refine Tot.bp ?_) | with_reducible (refine Tot.bb ?_) | (refine Tot.ct ?_ ?_; focus (first | rfl | (simp (disch := omega) only [jr, js, bl_]; done))) | (refine Tot.cf ?_ ?_; focus (first | rfl | (simp (disch := omega) only [jr, js, bl_]; done))) | with_reducible (refine Tot.bc ?_) | ((first | refine Tot.rdx ?_ ?_ | refine Tot.apx ?_ ?_ | refine Tot.mkx ?_ ?_); focus (first | omega | (simp; done) | (simp; omega))))
          refine Tot.pure (Tot.pure ⟨qr (by omega), fun i h0 h3 => ?_⟩)
          by_cases hi : i = k
          · subst hi
            exact ⟨hw, by omega, fun c hc hc2 => hJ c hc (by omega)⟩
          · exact hI i h0 (by omega)
      · simp only [Bool.not_eq_false', decide_eq_true_eq] at hw
        repeat (first | with_reducible (refine Tot.bp ?_) | with_reducible (refine Tot.bb ?_) | (refine Tot.ct ?_ ?_; focus (first | rfl | (simp (disch := omega) only [jr, js, bl_]; done))) | (refine Tot.cf ?_ ?_; focus (first | rfl | (simp (disch := omega) only [jr, js, bl_]; done))) | with_reducible (refine Tot.bc ?_) | ((first | refine Tot.rdx ?_ ?_ | refine Tot.apx ?_ ?_ | refine Tot.mkx ?_ ?_); focus (first | omega | (simp; done) | (simp; omega))))
        refine Tot.pure (Tot.pure ?_)
        simp
        intro h
        exact hw (h.row k (by omega) (by omega))
    · rintro _ ⟨rfl, hI⟩
      repeat (first | with_reducible (refine Tot.bp ?_) | with_reducible (refine Tot.bb ?_) | (refine Tot.ct ?_ ?_; focus (first | rfl | (simp (disch := omega) only [jr, js, bl_]; done))) | (refine Tot.cf ?_ ?_; focus (first | rfl | (simp (disch := omega) only [jr, js, bl_]; done))) | with_reducible (refine Tot.bc ?_) | ((first | refine Tot.rdx ?_ ?_ | refine Tot.apx ?_ ?_ | refine Tot.mkx ?_ ?_); focus (first | omega | (simp; done) | (simp; omega))))
      refine Tot.pure (Tot.pure ?_)
      simp
      exact ⟨by omega, by omega, hB, b1.symm, fun i h0 h1 => (hI i h0 h1).1, fun i h0 h1 => (hI i h0 h1).2.1, fun i c h0 h1 => (hI i h0 h1).2.2 c⟩
  refine key.mono fun b hb => ?_
  rw [Bool.eq_iff_iff, hb, Qr]
end Go.Proofs.YtpohfkgjghiofaaGreat

namespace Go.Proofs.YtpohfkgjghiofaaGreat
open Go Go.RowKit L
set_option linter.unusedVariables false
set_option linter.unusedSimpArgs false
theorem J9 {α : Type} [Inhabited α] {l : List α} {k : Nat} (h : k < l.length) (x : α) : x ∈ l.take (k + 1) ↔ x ∈ l.take k ∨ x = at' l (k : Int) := by
  rw [List.take_succ_eq_append_getElem h, Ju h, List.mem_append]; simp
theorem Jp {l : List Bool} {z : Int} {j : Nat} (h0 : 0 ≤ z) (h1 : z < l.length) : onB (l.set z.toNat true) j ↔ (j : Int) = z ∨ onB l j := by
  rw [zmy (by omega)]
  constructor
  · rintro (rfl | h)
    · left; omega
    · exact .inr h
  · rintro (h | h)
    · left; omega
    · exact .inr h
theorem za3 {l : List Bool} {z : Int} (h0 : 0 ≤ z) (h1 : z < l.length) (h : at' l z = false) : offs (l.set z.toNat true) + 1 = offs l := by
  refine zkw ?_
  obtain ⟨k, rfl⟩ := Int.eq_ofNat_of_zero_le h0
  have hk : k < l.length := by omega
  rw [Ju hk] at h
  simp [hk, h]
theorem zml (n : Nat) (beg : List Int) (to : Int → G (List Int)) (E : Nat → Nat → Prop) (hn : n ≤ 100000) (hbl : beg.length ≤ 100000) (hb : ∀ x ∈ beg, 0 ≤ x ∧ x < n)
    (hto : ∀ i : Nat, i < n → Tot (to i) (fun l => l.length ≤ 1000000000 ∧ (∀ x ∈ l, 0 ≤ x ∧ x < n) ∧ ∀ j : Nat, (j : Int) ∈ l ↔ E i j)) : Tot (J6 n beg to) (· = zfp n E fun i => (i : Int) ∈ beg) := by
  unfold J6
  repeat (first | with_reducible (refine Tot.bp ?_) | with_reducible (refine Tot.bb ?_) | (refine Tot.ct ?_ ?_; focus (first | rfl | (simp (disch := omega) only [jr, js, bl_]; done))) | (refine Tot.cf ?_ ?_; focus (first | rfl | (simp (disch := omega) only [jr, js, bl_]; done))) | with_reducible (refine Tot.bc ?_) | ((first | refine Tot.rdx ?_ ?_ | refine Tot.apx ?_ ?_ | refine Tot.mkx ?_ ?_); focus (first | omega | (simp; done) | (simp; omega))))
  refine Tot.someB (zh3 (by omega)) ?_
  refine Tot.part (fun r => r.length = n ∧ ∀ i : Nat, onB r i ↔ (i : Int) ∈ beg) ?_ ?_
  · refine Tot.forC (fun s => s.1) beg.length (fun k s => s.1 = (k : Int) ∧ s.2.length = n ∧ ∀ i : Nat, onB s.2 i ↔ (i : Int) ∈ beg.take k) (fun k s h => h.1) ?_ ?_ ⟨rfl, by simp, fun i => by simp [zg1]⟩
    · rintro k ⟨_, l⟩ hk ⟨rfl, h1, h2⟩
      simp only at h1 h2
      have hx := hb _ (zd6 (l := beg) (z := (k : Int)) (by omega) (by omega))
      repeat (first | with_reducible (refine Tot.bp ?_) | with_reducible (refine Tot.bb ?_) | (refine Tot.ct ?_ ?_; focus (first | rfl | (simp (disch := omega) only [jr, js, bl_]; done))) | (refine Tot.cf ?_ ?_; focus (first | rfl | (simp (disch := omega) only [jr, js, bl_]; done))) | with_reducible (refine Tot.bc ?_) | ((first | refine Tot.rdx ?_ ?_ | refine Tot.apx ?_ ?_ | refine Tot.mkx ?_ ?_); focus (first | omega | (simp; done) | (simp; omega))))
      refine Tot.pure ⟨qr (by omega), by simp [h1], fun i => ?_⟩
      simp only
      rw [Jp hx.1 (by omega), h2, J9 hk]
      constructor <;> (rintro (h | h) <;> simp [h])
    · rintro ⟨_, l⟩ ⟨rfl, h1, h2⟩
      simp only at h1 h2
      repeat (first | with_reducible (refine Tot.bp ?_) | with_reducible (refine Tot.bb ?_) | (refine Tot.ct ?_ ?_; focus (first | rfl | (simp (disch := omega) only [jr, js, bl_]; done))) | (refine Tot.cf ?_ ?_; focus (first | rfl | (simp (disch := omega) only [jr, js, bl_]; done))) | with_reducible (refine Tot.bc ?_) | ((first | refine Tot.rdx ?_ ?_ | refine Tot.apx ?_ ?_ | refine Tot.mkx ?_ ?_); focus (first | omega | (simp; done) | (simp; omega))))
      refine Tot.pure ⟨h1, fun i => ?_⟩
      rw [h2, List.take_length]
  · rintro m ⟨m1, m2⟩
    refine Tot.part (· = zfp n E fun i => (i : Int) ∈ beg) ?_ (fun a ha => Tot.pure ha)
    refine Tot.loop (fun s : List Bool × List Int => s.1.length = n ∧ (∀ x ∈ s.2, 0 ≤ x ∧ x < n ∧ onB s.1 x.toNat) ∧ (∀ i, onB s.1 i → Rch E (fun i => (i : Int) ∈ beg) i) ∧ (∀ i : Nat, (i : Int) ∈ beg → onB s.1 i) ∧ (∀ i j, onB s.1 i → E i j → onB s.1 j ∨ (i : Int) ∈ s.2) ∧ offs s.1 + s.2.length ≤ n + beg.length) (fun s : List Bool × List Int => 2 * offs s.1 + s.2.length) ?_ ⟨m1, ?_, fun i hi => .base ((m2 i).1 hi), fun i hi => (m2 i).2 hi, fun i j hi _ => .inr ((m2 i).1 hi), ?_⟩
    · rintro ⟨l, wait⟩ ⟨h1, h2, h3, h4, h5, h6⟩
      simp only at h1 h2 h3 h4 h5 h6
      cases wait with
      | nil =>
        repeat (first | with_reducible (refine Tot.bp ?_) | with_reducible (refine Tot.bb ?_) | (refine Tot.ct ?_ ?_; focus (first | rfl | (simp (disch := omega) only [jr, js, bl_]; done))) | (refine Tot.cf ?_ ?_; focus (first | rfl | (simp (disch := omega) only [jr, js, bl_]; done))) | with_reducible (refine Tot.bc ?_) | ((first | refine Tot.rdx ?_ ?_ | refine Tot.apx ?_ ?_ | refine Tot.mkx ?_ ?_); focus (first | omega | (simp; done) | (simp; omega))))
        refine Tot.pure (znf h1 h3 h4 fun i j hi he => ?_)
        rcases h5 i j hi he with h | h
        · exact h
        · simp at h
      | cons x rest =>
        have hx := h2 x (by simp)
        obtain ⟨q, rfl⟩ := Int.eq_ofNat_of_zero_le hx.1
        simp only [List.length_cons] at h6
        repeat (first | with_reducible (refine Tot.bp ?_) | with_reducible (refine Tot.bb ?_) | (refine Tot.ct ?_ ?_; focus (first | rfl | (simp (disch := omega) only [jr, js, bl_]; done))) | (refine Tot.cf ?_ ?_; focus (first | rfl | (simp (disch := omega) only [jr, js, bl_]; done))) | with_reducible (refine Tot.bc ?_) | ((first | refine Tot.rdx ?_ ?_ | refine Tot.apx ?_ ?_ | refine Tot.mkx ?_ ?_); focus (first | omega | (simp; done) | (simp; omega))))
        refine Tot.someB zjl ?_
        refine Tot.bind ((hto q (by omega)).mono fun nx hnx => ?_)
        obtain ⟨n0, n1, n2⟩ := hnx
        refine Tot.part (fun (r : List Bool × List Int) => r.1.length = n ∧ LeB l r.1 ∧ (∀ y ∈ r.2, 0 ≤ y ∧ y < n ∧ onB r.1 y.toNat) ∧ (∀ i, onB r.1 i → Rch E (fun i => (i : Int) ∈ beg) i) ∧ (∀ y ∈ nx, onB r.1 y.toNat) ∧ (∀ i, onB r.1 i → onB l i ∨ (i : Int) ∈ r.2) ∧ (∀ y ∈ rest, y ∈ r.2) ∧ offs r.1 + r.2.length = offs l + rest.length ∧ offs r.1 ≤ offs l) ?_ ?_
        · refine Tot.forC (fun s => s.1) nx.length (fun k (s : Int × List Bool × List Int) => s.1 = (k : Int) ∧ s.2.1.length = n ∧ LeB l s.2.1 ∧ (∀ y ∈ s.2.2, 0 ≤ y ∧ y < n ∧ onB s.2.1 y.toNat) ∧ (∀ i, onB s.2.1 i → Rch E (fun i => (i : Int) ∈ beg) i) ∧ (∀ y ∈ nx.take k, onB s.2.1 y.toNat) ∧ (∀ i, onB s.2.1 i → onB l i ∨ (i : Int) ∈ s.2.2) ∧ (∀ y ∈ rest, y ∈ s.2.2) ∧ offs s.2.1 + s.2.2.length = offs l + rest.length ∧ offs s.2.1 ≤ offs l) (fun k s h => h.1) ?_ ?_ ⟨rfl, h1, LeB.refl _, fun y hy => h2 y (by simp [hy]), h3, by simp, fun i hi => .inl hi, fun y hy => hy, rfl, Nat.le_refl _⟩
          · rintro k ⟨_, a, w⟩ hk ⟨rfl, k1, k2, k3, k4, k5, k6, k7, k8, k9⟩
            simp only at k1 k2 k3 k4 k5 k6 k7 k8 k9
            have hmem := zd6 (l := nx) (z := (k : Int)) (by omega) (by omega)
            have hy := n1 _ hmem
            have ho := zm7 l
            repeat (first | with_reducible (refine Tot.bp ?_) | with_reducible (refine Tot.bb ?_) | (refine Tot.ct ?_ ?_; focus (first | rfl | (simp (disch := omega) only [jr, js, bl_]; done))) | (refine Tot.cf ?_ ?_; focus (first | rfl | (simp (disch := omega) only [jr, js, bl_]; done))) | with_reducible (refine Tot.bc ?_) | ((first | refine Tot.rdx ?_ ?_ | refine Tot.apx ?_ ?_ | refine Tot.mkx ?_ ?_); focus (first | omega | (simp; done) | (simp; omega))))
            refine Tot.cond (fun hb => ?_) fun hb => ?_
            · simp only [Bool.not_eq_true'] at hb
              repeat (first | with_reducible (refine Tot.bp ?_) | with_reducible (refine Tot.bb ?_) | (refine Tot.ct ?_ ?_; focus (first | rfl | (simp (disch := omega) only [jr, js, bl_]; done))) | (refine Tot.cf ?_ ?_; focus (first | rfl | (simp (disch := omega) only [jr, js, bl_]; done))) | with_reducible (refine Tot.bc ?_) | ((first | refine Tot.rdx ?_ ?_ | refine Tot.apx ?_ ?_ | refine Tot.mkx ?_ ?_); focus (first | omega | (simp; done) | (simp; omega))))
              have hof := za3 hy.1 (by omega) hb
              obtain ⟨j, hj⟩ := Int.eq_ofNat_of_zero_le hy.1
              refine Tot.pure ⟨qr (by omega), by simp [k1], k2.trans (LeB.set (by omega)), ?_, ?_, ?_, ?_, ?_, ?_, ?_⟩
              all_goals simp only
              · intro y hy2
                rcases List.mem_append.1 hy2 with h | h
                · have := k3 y h
                  exact ⟨this.1, this.2.1, (Jp hy.1 (by omega)).2 (.inr this.2.2)⟩
                · simp at h; subst h
                  exact ⟨hy.1, hy.2, (Jp hy.1 (by omega)).2 (.inl (by omega))⟩
              · intro i hi
                rcases (Jp hy.1 (by omega)).1 hi with h | h
                · exact .step (h3 q (by simpa using hx.2.2)) ((n2 i).1 (h ▸ hmem))
                · exact k4 i h
              · intro y hy2
                refine (Jp hy.1 (by omega)).2 ?_
                rcases (J9 hk y).1 hy2 with h | h
                · exact .inr (k5 y h)
                · left; subst h; omega
              · intro i hi
                rcases (Jp hy.1 (by omega)).1 hi with h | h
                · right; simp [h]
                · rcases k6 i h with h | h
                  · exact .inl h
                  · right; simp [h]
              · intro y hy2; simp [k7 y hy2]
              · simp; omega
              · omega
            · simp only [Bool.not_eq_false'] at hb
              refine Tot.pure ⟨qr (by omega), k1, k2, k3, k4, ?_, k6, k7, k8, k9⟩
              intro y hy2
              rcases (J9 hk y).1 hy2 with h | h
              · exact k5 y h
              · subst h; exact (zhz hy.1).1 hb
          · rintro ⟨_, a, w⟩ ⟨rfl, k1, k2, k3, k4, k5, k6, k7, k8, k9⟩
            repeat (first | with_reducible (refine Tot.bp ?_) | with_reducible (refine Tot.bb ?_) | (refine Tot.ct ?_ ?_; focus (first | rfl | (simp (disch := omega) only [jr, js, bl_]; done))) | (refine Tot.cf ?_ ?_; focus (first | rfl | (simp (disch := omega) only [jr, js, bl_]; done))) | with_reducible (refine Tot.bc ?_) | ((first | refine Tot.rdx ?_ ?_ | refine Tot.apx ?_ ?_ | refine Tot.mkx ?_ ?_); focus (first | omega | (simp; done) | (simp; omega))))
            rw [List.take_length] at k5
            exact Tot.pure ⟨k1, k2, k3, k4, k5, k6, k7, k8, k9⟩
        · rintro ⟨a, w⟩ ⟨k1, k2, k3, k4, k5, k6, k7, k8, k9⟩
          simp only at k1 k2 k3 k4 k5 k6 k7 k8 k9
          refine Tot.pure ⟨⟨k1, k3, k4, fun i hi => k2.2 i (h4 i hi), ?_, ?_⟩, ?_⟩
          · intro i j hi he
            simp only at hi ⊢
            rcases k6 i hi with h | h
            · rcases h5 i j h he with h | h
              · exact .inl (k2.2 j h)
              · rcases List.mem_cons.1 h with h | h
                · left
                  have : i = q := by omega
                  subst this
                  have := k5 _ ((n2 j).2 he)
                  simpa using this
                · exact .inr (k7 _ h)
            · exact .inr h
          · simp only; omega
          · simp only [List.length_cons]; omega
    · intro x hx
      have := hb x hx
      obtain ⟨q, rfl⟩ := Int.eq_ofNat_of_zero_le this.1
      exact ⟨this.1, this.2, by simpa using (m2 q).2 hx⟩
    · have := zm7 m
      simp only; omega
end Go.Proofs.YtpohfkgjghiofaaGreat

namespace Go.Proofs.YtpohfkgjghiofaaGreat
open Go Go.RowKit L
set_option linter.unusedVariables false
set_option linter.unusedSimpArgs false
def nxt (d : je) (i : Nat) (c : Int) : Int := at' (at' d.jd i) c
def dE (d : je) (i j : Nat) : Prop := i < d.jd.length ∧ ∃ c : Int, 0 ≤ c ∧ c < d.ji ∧ nxt d i c = j
def za9 (d : je) (i : Nat) : Int := at' d.jj i
noncomputable def yk (d : je) : List Bool := if zk d then zfp d.jd.length (dE d) (fun i => i = 0) else []
theorem zaz {d : je} (hd : DOk d) (hm : MOk d) : 0 ≤ d.ji ∧ d.ji ≤ 256 := by
  have := zay hd.cls
  rw [← hm.wid]; exact ⟨this.1, this.2.1⟩
theorem zfl {α : Type} [Inhabited α] {l : List α} {k : Nat} (h : k < l.length) (p : α → Bool) : (l.take (k + 1)).filter p = if p (at' l (k : Int)) then (l.take k).filter p ++ [at' l (k : Int)] else (l.take k).filter p := by
  rw [List.take_succ_eq_append_getElem h, Ju h, List.filter_append]
  by_cases hp : p l[k] <;> simp [hp]
theorem on_tot (d : je) (hd : DOk d) (hm : MOk d) (i : Nat) (hi : i < d.jd.length) : Tot (Yg d i) (· = (at' d.jd i).filter fun x => decide (0 ≤ x)) := by
  unfold Yg
  have hw := zaz hd hm
  have hr := hm.row i (by omega) (by omega)
  repeat (first | with_reducible (refine Tot.bp ?_) | with_reducible (refine Tot.bb ?_) | (refine Tot.ct ?_ ?_; focus (first | rfl | (simp (disch := omega) only [jr, js, bl_]; done))) | (refine Tot.cf ?_ ?_; focus (first | rfl | (simp (disch := omega) only [jr, js, bl_]; done))) | with_reducible (refine Tot.bc ?_) | ((first | refine Tot.rdx ?_ ?_ | refine Tot.apx ?_ ?_ | refine Tot.mkx ?_ ?_); focus (first | omega | (simp; done) | (simp; omega))))
  refine Tot.part (· = (at' d.jd i).filter fun x => decide (0 ≤ x)) ?_ fun a ha => Tot.pure ha
  refine Tot.forC (fun s => s.1) (at' d.jd i).length (fun k (s : Int × List Int) => s.1 = (k : Int) ∧ s.2 = ((at' d.jd i).take k).filter fun x => decide (0 ≤ x)) (fun k s h => h.1) ?_ ?_ ⟨rfl, by simp⟩
  · rintro k ⟨_, l⟩ hk ⟨rfl, h⟩
    simp only at h
    have hl : l.length ≤ k := by rw [h]; exact Nat.le_trans (List.length_filter_le ..) (by simp; omega)
    have hs := zfl hk (fun x => decide (0 ≤ x))
    rw [← h] at hs
    repeat (first | with_reducible (refine Tot.bp ?_) | with_reducible (refine Tot.bb ?_) | (refine Tot.ct ?_ ?_; focus (first | rfl | (simp (disch := omega) only [jr, js, bl_]; done))) | (refine Tot.cf ?_ ?_; focus (first | rfl | (simp (disch := omega) only [jr, js, bl_]; done))) | with_reducible (refine Tot.bc ?_) | ((first | refine Tot.rdx ?_ ?_ | refine Tot.apx ?_ ?_ | refine Tot.mkx ?_ ?_); focus (first | omega | (simp; done) | (simp; omega))))
    refine Tot.cond (fun hb => ?_) fun hb => ?_
    · repeat (first | with_reducible (refine Tot.bp ?_) | with_reducible (refine Tot.bb ?_) | (refine Tot.ct ?_ ?_; focus (first | rfl | (simp (disch := omega) only [jr, js, bl_]; done))) | (refine Tot.cf ?_ ?_; focus (first | rfl | (simp (disch := omega) only [jr, js, bl_]; done))) | with_reducible (refine Tot.bc ?_) | ((first | refine Tot.rdx ?_ ?_ | refine Tot.apx ?_ ?_ | refine Tot.mkx ?_ ?_); focus (first | omega | (simp; done) | (simp; omega))))
      rw [hb, if_pos rfl] at hs
      exact Tot.pure ⟨qr (by omega), hs.symm⟩
    · rw [hb] at hs
      exact Tot.pure ⟨qr (by omega), hs.symm⟩
  · rintro ⟨_, l⟩ ⟨rfl, h⟩
    repeat (first | with_reducible (refine Tot.bp ?_) | with_reducible (refine Tot.bb ?_) | (refine Tot.ct ?_ ?_; focus (first | rfl | (simp (disch := omega) only [jr, js, bl_]; done))) | (refine Tot.cf ?_ ?_; focus (first | rfl | (simp (disch := omega) only [jr, js, bl_]; done))) | with_reducible (refine Tot.bc ?_) | ((first | refine Tot.rdx ?_ ?_ | refine Tot.apx ?_ ?_ | refine Tot.mkx ?_ ?_); focus (first | omega | (simp; done) | (simp; omega))))
    rw [List.take_length] at h
    exact Tot.pure h
theorem zm2 {d : je} (hm : MOk d) {i : Nat} (hi : i < d.jd.length) {x : Int} : x ∈ at' d.jd i ↔ ∃ c : Int, 0 ≤ c ∧ c < d.ji ∧ nxt d i c = x := by
  have hr := hm.row i (by omega) (by omega)
  constructor
  · intro h
    obtain ⟨c, hc, rfl⟩ := List.getElem_of_mem h
    exact ⟨c, by omega, by omega, by unfold nxt; rw [Ju hc]⟩
  · rintro ⟨c, h0, h1, rfl⟩
    exact zd6 h0 (by omega)
theorem zo9 (d : je) (hd : DOk d) (hm : MOk d) (i : Nat) (hi : i < d.jd.length) : ((at' d.jd i).filter fun x => decide (0 ≤ x)).length ≤ 256 ∧ (∀ x ∈ (at' d.jd i).filter fun x => decide (0 ≤ x), 0 ≤ x ∧ x < d.jd.length) ∧ ∀ j : Nat, (j : Int) ∈ ((at' d.jd i).filter fun x => decide (0 ≤ x)) ↔ dE d i j := by
  have hw := zaz hd hm
  have hr := hm.row i (by omega) (by omega)
  refine ⟨Nat.le_trans (List.length_filter_le ..) (by omega), fun x hx => ?_, fun j => ?_⟩
  · obtain ⟨h1, h2⟩ := List.mem_filter.1 hx
    obtain ⟨c, h3, h4, rfl⟩ := (zm2 hm hi).1 h1
    have := hm.nx i c (by omega) (by omega) h3 h4
    simp at h2
    exact ⟨h2, this.2⟩
  · rw [List.mem_filter, zm2 hm hi]
    unfold dE
    simp [hi]
theorem zgj (d : je) (hd : DOk d) (hn : d.jd.length ≤ 300) : Tot (Jq d) (· = yk d) := by
  unfold Jq yk
  refine Tot.bindE (ze2 d hd) ?_
  cases hR : zk d
  · repeat (first | with_reducible (refine Tot.bp ?_) | with_reducible (refine Tot.bb ?_) | (refine Tot.ct ?_ ?_; focus (first | rfl | (simp (disch := omega) only [jr, js, bl_]; done))) | (refine Tot.cf ?_ ?_; focus (first | rfl | (simp (disch := omega) only [jr, js, bl_]; done))) | with_reducible (refine Tot.bc ?_) | ((first | refine Tot.rdx ?_ ?_ | refine Tot.apx ?_ ?_ | refine Tot.mkx ?_ ?_); focus (first | omega | (simp; done) | (simp; omega))))
    exact Tot.pure rfl
  have hm := (Qr d).1 hR
  have := hm.n0
  repeat (first | with_reducible (refine Tot.bp ?_) | with_reducible (refine Tot.bb ?_) | (refine Tot.ct ?_ ?_; focus (first | rfl | (simp (disch := omega) only [jr, js, bl_]; done))) | (refine Tot.cf ?_ ?_; focus (first | rfl | (simp (disch := omega) only [jr, js, bl_]; done))) | with_reducible (refine Tot.bc ?_) | ((first | refine Tot.rdx ?_ ?_ | refine Tot.apx ?_ ?_ | refine Tot.mkx ?_ ?_); focus (first | omega | (simp; done) | (simp; omega))))
  refine Tot.part (· = zfp d.jd.length (dE d) (fun i => i = 0)) ?_ (fun a ha => Tot.pure ha)
  have h := zml d.jd.length [0] (fun y => Jt y d) (dE d) (by omega) (by simp) (fun x hx => by simp at hx; subst hx; omega) (fun i hi => by
    unfold Jt
    refine Tot.bindE (on_tot d hd hm i hi) (Tot.pure ?_)
    obtain ⟨h1, h2, h3⟩ := zo9 d hd hm i hi
    exact ⟨by omega, h2, h3⟩)
  refine h.mono fun a ha => ?_
  rw [ha]
  congr 1
  funext i
  simp
theorem zh7 (d : je) (hd : DOk d) (hn : d.jd.length ≤ 300) : Tot (z2 d) (· = yk d) := by
  unfold z2 yk
  refine Tot.bindE (zch d hd) ?_
  cases hR : zk d
  · repeat (first | with_reducible (refine Tot.bp ?_) | with_reducible (refine Tot.bb ?_) | (refine Tot.ct ?_ ?_; focus (first | rfl | (simp (disch := omega) only [jr, js, bl_]; done))) | (refine Tot.cf ?_ ?_; focus (first | rfl | (simp (disch := omega) only [jr, js, bl_]; done))) | with_reducible (refine Tot.bc ?_) | ((first | refine Tot.rdx ?_ ?_ | refine Tot.apx ?_ ?_ | refine Tot.mkx ?_ ?_); focus (first | omega | (simp; done) | (simp; omega))))
    exact Tot.pure rfl
  have hm := (Qr d).1 hR
  have hn0 := hm.n0
  have hw := zaz hd hm
  repeat (first | with_reducible (refine Tot.bp ?_) | with_reducible (refine Tot.bb ?_) | (refine Tot.ct ?_ ?_; focus (first | rfl | (simp (disch := omega) only [jr, js, bl_]; done))) | (refine Tot.cf ?_ ?_; focus (first | rfl | (simp (disch := omega) only [jr, js, bl_]; done))) | with_reducible (refine Tot.bc ?_) | ((first | refine Tot.rdx ?_ ?_ | refine Tot.apx ?_ ?_ | refine Tot.mkx ?_ ?_); focus (first | omega | (simp; done) | (simp; omega))))
  refine Tot.part (· = zfp d.jd.length (dE d) (fun i => i = 0)) ?_ (fun a ha => Tot.pure ha)
  generalize hA : (List.replicate (d.jd.length : Int).toNat false).set (0 : Int).toNat true = A
  have hA1 : A.length = d.jd.length := by rw [← hA]; simp
  have hA2 : ∀ i, onB A i ↔ i = 0 := fun i => by
    rw [← hA, Jp (by omega) (by simp; omega)]
    simp [zg1]
  have hA3 : offs A + 1 = d.jd.length := by
    rw [← hA, za3 (by omega) (by simp; omega) (by rw [show ((0 : Int)) = ((0 : Nat) : Int) from rfl, Ju (by simp; omega)]; simp)]
    unfold offs; simp
  refine Tot.forC (fun s => s.1) d.jd.length (fun k (s : Int × List Bool) => s.1 = (k : Int) ∧ s.2.length = d.jd.length ∧ onB s.2 0 ∧ (∀ i, onB s.2 i → Rch (dE d) (fun i => i = 0) i) ∧ (s.2 = zfp d.jd.length (dE d) (fun i => i = 0) ∨ offs s.2 + k ≤ offs A)) (fun k s h => h.1) ?_ ?_ ⟨rfl, hA1, (hA2 0).2 rfl, fun i hi => .base ((hA2 i).1 hi), .inr (Nat.le_refl _)⟩
  · rintro k ⟨_, a⟩ hk ⟨rfl, h1, h0, h2, h3⟩
    simp only at h1 h0 h2 h3
    repeat (first | with_reducible (refine Tot.bp ?_) | with_reducible (refine Tot.bb ?_) | (refine Tot.ct ?_ ?_; focus (first | rfl | (simp (disch := omega) only [jr, js, bl_]; done))) | (refine Tot.cf ?_ ?_; focus (first | rfl | (simp (disch := omega) only [jr, js, bl_]; done))) | with_reducible (refine Tot.bc ?_) | ((first | refine Tot.rdx ?_ ?_ | refine Tot.apx ?_ ?_ | refine Tot.mkx ?_ ?_); focus (first | omega | (simp; done) | (simp; omega))))
    refine Tot.part (fun b => Round (dE d) (fun i => i = 0) a b) ?_ fun b hb => Tot.pure ⟨qr (by omega), hb.le.1 ▸ h1, hb.le.2 _ h0, hb.sound, hb.next h1 h3⟩
    refine Tot.forC (fun s => s.1) d.jd.length (fun i (s : Int × List Bool) => s.1 = (i : Int) ∧ s.2.length = d.jd.length ∧ LeB a s.2 ∧ (∀ i, onB s.2 i → Rch (dE d) (fun i => i = 0) i) ∧ (a = s.2 → ∀ i' < i, ∀ j, onB a i' → dE d i' j → onB a j)) (fun k s h => h.1) ?_ ?_ ⟨rfl, h1, LeB.refl _, h2, fun _ i' h => by omega⟩
    · rintro i ⟨_, b⟩ hi ⟨rfl, g1, g2, g3, g4⟩
      simp only at g1 g2 g3 g4
      repeat (first | with_reducible (refine Tot.bp ?_) | with_reducible (refine Tot.bb ?_) | (refine Tot.ct ?_ ?_; focus (first | rfl | (simp (disch := omega) only [jr, js, bl_]; done))) | (refine Tot.cf ?_ ?_; focus (first | rfl | (simp (disch := omega) only [jr, js, bl_]; done))) | with_reducible (refine Tot.bc ?_) | ((first | refine Tot.rdx ?_ ?_ | refine Tot.apx ?_ ?_ | refine Tot.mkx ?_ ?_); focus (first | omega | (simp; done) | (simp; omega))))
      refine Tot.part (fun b => b.length = d.jd.length ∧ LeB a b ∧ (∀ i, onB b i → Rch (dE d) (fun i => i = 0) i) ∧ (a = b → ∀ i' < i + 1, ∀ j, onB a i' → dE d i' j → onB a j)) ?_ fun b hb => Tot.pure ⟨qr (by omega), hb⟩
      refine Tot.forC (fun s => s.1) d.ji.toNat (fun c (s : Int × List Bool) => s.1 = (c : Int) ∧ s.2.length = d.jd.length ∧ LeB a s.2 ∧ (∀ i, onB s.2 i → Rch (dE d) (fun i => i = 0) i) ∧ (a = s.2 → (∀ i' < i, ∀ j, onB a i' → dE d i' j → onB a j) ∧ (onB a i → ∀ c' : Int, 0 ≤ c' → c' < c → ∀ j : Nat, nxt d i c' = j → onB a j))) (fun k s h => h.1) ?_ ?_ ⟨rfl, g1, g2, g3, fun e => ⟨g4 e, fun _ c' h h' => by omega⟩⟩
      · rintro c ⟨_, b⟩ hc ⟨rfl, k1, k2, k3, k4⟩
        simp only at k1 k2 k3 k4
        have hrow := hm.row i (by omega) (by omega)
        have hnx := hm.nx i c (by omega) (by omega) (by omega) (by omega)
        repeat (first | with_reducible (refine Tot.bp ?_) | with_reducible (refine Tot.bb ?_) | (refine Tot.ct ?_ ?_; focus (first | rfl | (simp (disch := omega) only [jr, js, bl_]; done))) | (refine Tot.cf ?_ ?_; focus (first | rfl | (simp (disch := omega) only [jr, js, bl_]; done))) | with_reducible (refine Tot.bc ?_) | ((first | refine Tot.rdx ?_ ?_ | refine Tot.apx ?_ ?_ | refine Tot.mkx ?_ ?_); focus (first | omega | (simp; done) | (simp; omega))))
        cases hon : at' b (i : Int)
        · repeat (first | with_reducible (refine Tot.bp ?_) | with_reducible (refine Tot.bb ?_) | (refine Tot.ct ?_ ?_; focus (first | rfl | (simp (disch := omega) only [jr, js, bl_]; done))) | (refine Tot.cf ?_ ?_; focus (first | rfl | (simp (disch := omega) only [jr, js, bl_]; done))) | with_reducible (refine Tot.bc ?_) | ((first | refine Tot.rdx ?_ ?_ | refine Tot.apx ?_ ?_ | refine Tot.mkx ?_ ?_); focus (first | omega | (simp; done) | (simp; omega))))
          refine Tot.pure ⟨k1, k2, k3, fun e i' h' j => ?_⟩
          intro ho he
          by_cases hii : i' = i
          · subst hii
            have := k2.2 _ ho
            rw [← Qf, hon] at this; cases this
          · exact (k4 e).1 i' (by omega) j ho he
        · repeat (first | with_reducible (refine Tot.bp ?_) | with_reducible (refine Tot.bb ?_) | (refine Tot.ct ?_ ?_; focus (first | rfl | (simp (disch := omega) only [jr, js, bl_]; done))) | (refine Tot.cf ?_ ?_; focus (first | rfl | (simp (disch := omega) only [jr, js, bl_]; done))) | with_reducible (refine Tot.bc ?_) | ((first | refine Tot.rdx ?_ ?_ | refine Tot.apx ?_ ?_ | refine Tot.mkx ?_ ?_); focus (first | omega | (simp; done) | (simp; omega))))
          refine Tot.cond (fun hb => ?_) fun hb => ?_
          · simp only [decide_eq_true_eq] at hb
            repeat (first | with_reducible (refine Tot.bp ?_) | with_reducible (refine Tot.bb ?_) | (refine Tot.ct ?_ ?_; focus (first | rfl | (simp (disch := omega) only [jr, js, bl_]; done))) | (refine Tot.cf ?_ ?_; focus (first | rfl | (simp (disch := omega) only [jr, js, bl_]; done))) | with_reducible (refine Tot.bc ?_) | ((first | refine Tot.rdx ?_ ?_ | refine Tot.apx ?_ ?_ | refine Tot.mkx ?_ ?_); focus (first | omega | (simp; done) | (simp; omega))))
            refine Tot.pure ⟨qr (by omega), by simp [k1], k2.trans (LeB.set (by omega)), ?_, ?_⟩
            · intro j hj
              rcases (Jp hb (by omega)).1 hj with h | h
              · exact .step (k3 i (Qf.1 hon)) ⟨by omega, c, by omega, by omega, h.symm⟩
              · exact k3 j h
            · intro e
              simp only at e
              have e2 : a = b := k2.antisymm (e ▸ LeB.set (by omega))
              refine ⟨(k4 e2).1, fun ho c' h0 h1 j hj => ?_⟩
              by_cases hcc : c' = c
              · subst hcc
                rw [e]
                refine (Jp hb (by omega)).2 (.inl ?_)
                unfold nxt at hj
                omega
              · exact (k4 e2).2 ho c' h0 (by omega) j hj
          · simp only [decide_eq_false_iff_not] at hb
            refine Tot.pure ⟨qr (by omega), k1, k2, k3, fun e => ⟨(k4 e).1, fun ho c' h0 h1 j hj => ?_⟩⟩
            by_cases hcc : c' = c
            · subst hcc
              unfold nxt at hj
              omega
            · exact (k4 e).2 ho c' h0 (by omega) j hj
      · rintro ⟨_, b⟩ ⟨rfl, k1, k2, k3, k4⟩
        simp only at k1 k2 k3 k4
        have fin : a = b → ∀ i' < i + 1, ∀ j, onB a i' → dE d i' j → onB a j := fun e i' hi' j ho he => by
          by_cases hii : i' = i
          · subst hii
            obtain ⟨_, c, h0, h1, h2⟩ := he
            exact (k4 e).2 ho c h0 (by omega) j h2
          · exact (k4 e).1 i' (by omega) j ho he
        repeat (first | with_reducible (refine Tot.bp ?_) | with_reducible (refine Tot.bb ?_) | (refine Tot.ct ?_ ?_; focus (first | rfl | (simp (disch := omega) only [jr, js, bl_]; done))) | (refine Tot.cf ?_ ?_; focus (first | rfl | (simp (disch := omega) only [jr, js, bl_]; done))) | with_reducible (refine Tot.bc ?_) | ((first | refine Tot.rdx ?_ ?_ | refine Tot.apx ?_ ?_ | refine Tot.mkx ?_ ?_); focus (first | omega | (simp; done) | (simp; omega))))
        cases hon : at' b (i : Int)
        · repeat (first | with_reducible (refine Tot.bp ?_) | with_reducible (refine Tot.bb ?_) | (refine Tot.ct ?_ ?_; focus (first | rfl | (simp (disch := omega) only [jr, js, bl_]; done))) | (refine Tot.cf ?_ ?_; focus (first | rfl | (simp (disch := omega) only [jr, js, bl_]; done))) | with_reducible (refine Tot.bc ?_) | ((first | refine Tot.rdx ?_ ?_ | refine Tot.apx ?_ ?_ | refine Tot.mkx ?_ ?_); focus (first | omega | (simp; done) | (simp; omega))))
          exact Tot.pure ⟨k1, k2, k3, fin⟩
        · repeat (first | with_reducible (refine Tot.bp ?_) | with_reducible (refine Tot.bb ?_) | (refine Tot.ct ?_ ?_; focus (first | rfl | (simp (disch := omega) only [jr, js, bl_]; done))) | (refine Tot.cf ?_ ?_; focus (first | rfl | (simp (disch := omega) only [jr, js, bl_]; done))) | with_reducible (refine Tot.bc ?_) | ((first | refine Tot.rdx ?_ ?_ | refine Tot.apx ?_ ?_ | refine Tot.mkx ?_ ?_); focus (first | omega | (simp; done) | (simp; omega))))
          exact Tot.pure ⟨k1, k2, k3, fin⟩
    · rintro ⟨_, b⟩ ⟨rfl, g1, g2, g3, g4⟩
      simp only at g1 g2 g3 g4
      repeat (first | with_reducible (refine Tot.bp ?_) | with_reducible (refine Tot.bb ?_) | (refine Tot.ct ?_ ?_; focus (first | rfl | (simp (disch := omega) only [jr, js, bl_]; done))) | (refine Tot.cf ?_ ?_; focus (first | rfl | (simp (disch := omega) only [jr, js, bl_]; done))) | with_reducible (refine Tot.bc ?_) | ((first | refine Tot.rdx ?_ ?_ | refine Tot.apx ?_ ?_ | refine Tot.mkx ?_ ?_); focus (first | omega | (simp; done) | (simp; omega))))
      refine Tot.pure ⟨g2, g3, fun e => ⟨fun i hi => hi ▸ h0, fun i j ho he => g4 e i he.1 j ho he⟩⟩
  · rintro ⟨_, a⟩ ⟨rfl, h1, h0, h2, h3⟩
    simp only at h1 h0 h2 h3
    repeat (first | with_reducible (refine Tot.bp ?_) | with_reducible (refine Tot.bb ?_) | (refine Tot.ct ?_ ?_; focus (first | rfl | (simp (disch := omega) only [jr, js, bl_]; done))) | (refine Tot.cf ?_ ?_; focus (first | rfl | (simp (disch := omega) only [jr, js, bl_]; done))) | with_reducible (refine Tot.bc ?_) | ((first | refine Tot.rdx ?_ ?_ | refine Tot.apx ?_ ?_ | refine Tot.mkx ?_ ?_); focus (first | omega | (simp; done) | (simp; omega))))
    refine Tot.pure ?_
    rcases h3 with h | h
    · exact h
    · omega
end Go.Proofs.YtpohfkgjghiofaaGreat

namespace Go.Proofs.YtpohfkgjghiofaaGreat
open Go Go.RowKit L
set_option linter.unusedVariables false
set_option linter.unusedSimpArgs false
theorem zmz {α : Type} [Inhabited α] {l : List α} {z : Int} {j : Nat} {v : α} (h0 : 0 ≤ z) (h1 : z < l.length) : at' (l.set z.toNat v) (j : Int) = if (j : Int) = z then v else at' l (j : Int) := by
  by_cases h : (j : Int) = z
  · rw [if_pos h, h]; exact zm1 h0 h1
  · rw [if_neg h]; exact zqu h0 (by omega) (fun e => h e.symm)
theorem zpn {α : Type} [Inhabited α] {n j : Nat} {v : α} (h : j < n) : at' (List.replicate n v) (j : Int) = v := by
  rw [Ju (by simpa using h)]; simp
end Go.Proofs.YtpohfkgjghiofaaGreat

namespace Go.Proofs.YtpohfkgjghiofaaGreat
open Go Go.RowKit L
set_option linter.unusedVariables false
set_option linter.unusedSimpArgs false
theorem zex {d : je} (h : zk d = true) : (yk d).length = d.jd.length := by
  unfold yk; rw [h, if_pos rfl, zll]
theorem zmh {d : je} (hd : DOk d) (hm : MOk d) : 1 ≤ d.ji := by
  have h := zay hd.cls
  have hl : 0 < d.jp.1.length := by rw [d.jp.2]; decide
  have h1 := h.2.2 _ (List.getElem_mem hl)
  have h2 := hd.cls _ (List.getElem_mem hl)
  rw [← hm.wid]; omega
end Go.Proofs.YtpohfkgjghiofaaGreat

namespace Go.Proofs.YtpohfkgjghiofaaGreat
open Go Go.RowKit L
set_option linter.unusedVariables false
set_option linter.unusedSimpArgs false
abbrev bl (a b : List UInt8) : Bool := Op.bytesLess a b
theorem zos (a b : UInt8) : a < b ∨ a = b ∨ b < a := by
  rcases Nat.lt_trichotomy a.toNat b.toNat with h | h | h
  · exact .inl (UInt8.lt_iff_toNat_lt.2 h)
  · exact .inr (.inl (UInt8.toNat_inj.1 h))
  · exact .inr (.inr (UInt8.lt_iff_toNat_lt.2 h))
theorem zao {a b : UInt8} {x y : List UInt8} : bl (a :: x) (b :: y) = true ↔ a < b ∨ (a = b ∧ bl x y = true) := by
  simp [bl, Op.bytesLess]
theorem zdh : ∀ a : List UInt8, bl a a = false
  | [] => rfl
  | a :: x => by
    have h := zdh x
    cases e : bl (a :: x) (a :: x)
    · rfl
    · rcases zao.1 e with h1 | ⟨_, h1⟩
      · exact absurd h1 (UInt8.lt_irrefl a)
      · rw [h] at h1; cases h1
theorem zcb : ∀ {a b c : List UInt8}, bl a b = true → bl b c = true → bl a c = true
  | a, b, [], _, h => by cases b <;> simp [bl, Op.bytesLess] at h
  | [], b, c :: cs, _, _ => rfl
  | a :: xs, [], c :: cs, h, _ => by simp [bl, Op.bytesLess] at h
  | a :: xs, b :: ys, c :: cs, h1, h2 => by
    rw [zao] at h1 h2 ⊢
    rcases h1 with h1 | ⟨rfl, h1⟩
    · rcases h2 with h2 | ⟨rfl, h2⟩
      · exact .inl (UInt8.lt_trans h1 h2)
      · exact .inl h1
    · rcases h2 with h2 | ⟨rfl, h2⟩
      · exact .inl h2
      · exact .inr ⟨rfl, zcb h1 h2⟩
theorem zg3 : ∀ {a b : List UInt8}, a.length = b.length → bl a b = false → bl b a = false → a = b
  | [], [], _, _, _ => rfl
  | [], b :: ys, h, _, _ => by simp at h
  | a :: xs, [], h, _, _ => by simp at h
  | a :: xs, b :: ys, h, h1, h2 => by
    rcases zos a b with e | e | e
    · have := zao.2 (.inl e : a < b ∨ (a = b ∧ bl xs ys = true)); rw [this] at h1; cases h1
    · subst e
      congr 1
      refine zg3 (by simpa using h) ?_ ?_
      · cases e : bl xs ys
        · rfl
        · have := zao.2 (.inr ⟨rfl, e⟩ : a < a ∨ (a = a ∧ bl xs ys = true)); rw [this] at h1; cases h1
      · cases e : bl ys xs
        · rfl
        · have := zao.2 (.inr ⟨rfl, e⟩ : a < a ∨ (a = a ∧ bl ys xs = true)); rw [this] at h2; cases h2
    · have := zao.2 (.inl e : b < a ∨ (b = a ∧ bl ys xs = true)); rw [this] at h2; cases h2
theorem zmg : ∀ {a b x y : List UInt8}, a.length = b.length → bl a b = true → bl (a ++ x) (b ++ y) = true
  | [], [], x, y, _, h => by simp [bl, Op.bytesLess] at h
  | [], b :: ys, x, y, h, _ => by simp at h
  | a :: xs, [], x, y, h, _ => by simp at h
  | a :: xs, b :: ys, x, y, hl, h => by
    simp only [List.cons_append]
    rw [zao] at h ⊢
    rcases h with h | ⟨rfl, h⟩
    · exact .inl h
    · exact .inr ⟨rfl, zmg (by simpa using hl) h⟩
theorem zj6 : ∀ (a : List UInt8) {x y : List UInt8}, bl (a ++ x) (a ++ y) = bl x y
  | [], _, _ => rfl
  | a :: xs, x, y => by
    simp only [List.cons_append]
    have ih := zj6 xs (x := x) (y := y)
    rw [Bool.eq_iff_iff, zao, ih]
    constructor
    · rintro (h | h)
      · exact absurd h (UInt8.lt_irrefl a)
      · exact h.2
    · exact fun h => .inr ⟨rfl, h⟩
def Z5 (u v : List UInt8) : Prop := u.length < v.length ∨ (u.length = v.length ∧ bl u v = true)
def sle (u v : List UInt8) : Prop := ¬ Z5 v u
theorem Yv (u : List UInt8) : sle u u := by
  rintro (h | ⟨_, h⟩)
  · omega
  · rw [zdh] at h; cases h
theorem Qw {u v : List UInt8} : sle u v ↔ u.length < v.length ∨ (u.length = v.length ∧ bl v u = false) := by
  unfold sle Z5
  rw [← Bool.not_eq_true]
  constructor
  · intro h
    by_cases h1 : u.length < v.length
    · exact .inl h1
    · by_cases h2 : v.length < u.length
      · exact absurd (.inl h2) h
      · exact .inr ⟨by omega, fun e => h (.inr ⟨by omega, e⟩)⟩
  · rintro (h | ⟨h, h2⟩) (h3 | ⟨h3, h4⟩)
    · omega
    · omega
    · omega
    · exact h2 h4
theorem znv {a b c : List UInt8} (hl : a.length = b.length) (h1 : bl b a = false) (h2 : bl c b = false) : bl c a = false := by
  cases e : bl c a
  · rfl
  cases e2 : bl a b
  · have := zg3 hl e2 h1
    subst this; rw [h2] at e; cases e
  · have := zcb e e2; rw [h2] at this; cases this
theorem Yf {u v w : List UInt8} (h1 : sle u v) (h2 : sle v w) : sle u w := by
  rw [Qw] at *
  rcases h1 with h1 | ⟨h1, h3⟩ <;> rcases h2 with h2 | ⟨h2, h4⟩
  · left; omega
  · left; omega
  · left; omega
  · exact .inr ⟨by omega, znv h1 h3 h4⟩
theorem zpt {u v : List UInt8} (h1 : sle u v) (h2 : sle v u) : u = v := by
  rw [Qw] at *
  rcases h1 with h1 | ⟨h1, h3⟩ <;> rcases h2 with h2 | ⟨h2, h4⟩ <;> first | omega | exact zg3 h1 h4 h3
theorem za5 {u v : List UInt8} (h : Z5 u v) : sle u v := by
  rw [Qw]
  rcases h with h | ⟨h, h2⟩
  · exact .inl h
  · refine .inr ⟨h, ?_⟩
    cases e : bl v u
    · rfl
    · have := zcb h2 e; rw [zdh] at this; cases this
theorem zlg {u v : List UInt8} {x y : UInt8} (h : sle u v) (hx : x ≤ y) : sle (u ++ [x]) (v ++ [y]) := by
  rw [Qw] at *
  rcases h with h | ⟨h, h2⟩
  · left; simp; omega
  · right
    refine ⟨by simp [h], ?_⟩
    cases e : bl u v
    · have := zg3 h e h2
      subst this
      rw [zj6]
      cases e2 : bl [y] [x]
      · rfl
      · rcases zao.1 e2 with h3 | ⟨_, h3⟩
        · rw [UInt8.lt_iff_toNat_lt] at h3; rw [UInt8.le_iff_toNat_le] at hx; omega
        · simp [bl, Op.bytesLess] at h3
    · cases e2 : bl (v ++ [y]) (u ++ [x])
      · rfl
      · have h3 := zmg (x := [x]) (y := [y]) h e
        have := zcb e2 h3
        rw [zdh] at this; cases this
theorem zii {u v : List UInt8} {x y : UInt8} (h : Z5 u v) : Z5 (u ++ [x]) (v ++ [y]) := by
  rcases h with h | ⟨h, h2⟩
  · left; simp; omega
  · right; exact ⟨by simp [h], zmg h h2⟩
theorem zil {u : List UInt8} {x y : UInt8} (h : x < y) : Z5 (u ++ [x]) (u ++ [y]) := by
  right
  refine ⟨by simp, ?_⟩
  rw [zj6, zao]; exact .inl h
theorem zpi (u : List UInt8) (x : UInt8) : sle u (u ++ [x]) := by
  rw [Qw]; left; simp
theorem zli {u v w : List UInt8} (h1 : Z5 u v) (h2 : Z5 v w) : Z5 u w := by
  rcases h1 with h1 | ⟨h1, h3⟩ <;> rcases h2 with h2 | ⟨h2, h4⟩
  · left; omega
  · left; omega
  · left; omega
  · exact .inr ⟨by omega, zcb h3 h4⟩
def zlz (d : je) (b : UInt8) : Int := at' d.jp.1 (b.toNat : Int)
def stp (d : je) (at_ : Int) (b : UInt8) : Int := if at_ < 0 then at_ else nxt d at_.toNat (zlz d b)
def zm (d : je) (w : List UInt8) : Int := w.foldl (stp d) 0
theorem Vl (d : je) (w : List UInt8) (b : UInt8) : zm d (w ++ [b]) = stp d (zm d w) b := by simp [zm]
theorem zeh {P : List UInt8 → Prop} (h0 : P []) (h1 : ∀ w b, P w → P (w ++ [b])) (w : List UInt8) : P w := by
  have key : ∀ n (w : List UInt8), w.length = n → P w := by
    intro n
    induction n with
    | zero => intro w hw; have := List.length_eq_zero_iff.1 hw; subst this; exact h0
    | succ n ih =>
      intro w hw
      have hne : w ≠ [] := fun e => by subst e; simp at hw
      rw [← List.dropLast_concat_getLast hne]
      exact h1 _ _ (ih _ (by simp [hw]))
  exact key _ w rfl
section
variable {d : je} (hd : DOk d) (hm : MOk d)
include hd hm
theorem zec (b : UInt8) : 0 ≤ zlz d b ∧ zlz d b < d.ji := by
  have hl : (b.toNat : Int) < d.jp.1.length := by rw [d.jp.2]; have := b.toNat_lt; omega
  have h := zd6 (l := d.jp.1) (z := (b.toNat : Int)) (by omega) hl
  have h1 := zay hd.cls
  have h2 := hd.cls _ h
  have h3 := h1.2.2 _ h
  rw [hm.wid] at h3
  exact ⟨h2.1, h3⟩
theorem stp_ok {a : Int} (h : a < d.jd.length) (b : UInt8) : stp d a b < d.jd.length := by
  unfold stp
  split
  · exact h
  · have hc := zec hd hm b
    exact (hm.nx a.toNat _ (by omega) (by omega) hc.1 hc.2).2
theorem zgz (w : List UInt8) : zm d w < d.jd.length := by
  refine zeh (P := fun w => zm d w < d.jd.length) ?_ (fun w b h => ?_) w
  · have := hm.n0; simp [zm]; omega
  · rw [Vl]; exact stp_ok hd hm h b
omit hd hm in
omit hd hm in
theorem zfc {w : List UInt8} {b : UInt8} (h : 0 ≤ zm d (w ++ [b])) : 0 ≤ zm d w ∧ zm d (w ++ [b]) = nxt d (zm d w).toNat (zlz d b) := by
  rw [Vl] at h ⊢
  unfold stp at h ⊢
  split at h
  · omega
  · rename_i h1; rw [if_neg h1]; exact ⟨by omega, rfl⟩
end
theorem zdy : ∀ (l : List Int) (n c : Int), Qe n l = true → n ≤ c → c < l.foldl (fun n c => max n (c + 1)) n → c ∈ l
  | [], n, c, _, h1, h2 => by simp at h2; omega
  | x :: xs, n, c, h, h1, h2 => by
    simp only [Qe] at h
    by_cases hx : n < x
    · rw [if_pos hx] at h; cases h
    · rw [if_neg hx] at h
      simp only [List.foldl_cons] at h2
      by_cases he : x = n
      · rw [if_pos he] at h
        rw [show max n (x + 1) = n + 1 by omega] at h2
        by_cases hc : c = n
        · rw [hc, he]; simp
        · exact List.mem_cons_of_mem _ (zdy xs (n + 1) c h (by omega) h2)
      · rw [if_neg he] at h
        rw [show max n (x + 1) = n by omega] at h2
        exact List.mem_cons_of_mem _ (zdy xs n c h h1 h2)
def Qk (d : je) (c : Int) : Nat := ((List.range 256).find? fun (b : Nat) => decide (at' d.jp.1 (b : Int) = c)).getD 0
theorem Vk {d : je} (hd : DOk d) (hm : MOk d) {c : Int} (h0 : 0 ≤ c) (h1 : c < d.ji) : Qk d c < 256 ∧ at' d.jp.1 (Qk d c : Int) = c ∧ ∀ b : Nat, b < 256 → at' d.jp.1 (b : Int) = c → Qk d c ≤ b := by
  have hmem := zdy d.jp.1 0 c hm.cls h0 (by have := hm.wid; unfold Zx at this; rw [this]; exact h1)
  obtain ⟨k, hk, hkc⟩ := List.getElem_of_mem hmem
  have hl := d.jp.2
  unfold Qk
  cases hf : (List.range 256).find? fun (b : Nat) => decide (at' d.jp.1 (b : Int) = c) with
  | none =>
    have := List.find?_eq_none.1 hf k (by simp; omega)
    rw [Ju hk, hkc] at this; simp at this
  | some b =>
    obtain ⟨hp, as1, bs1, hab, hall⟩ := List.find?_eq_some_iff_append.1 hf
    have hb := List.mem_of_find?_eq_some hf
    simp at hb hp
    refine ⟨by simpa using hb, by simpa using hp, fun b' hb' he => ?_⟩
    simp only [Option.getD_some]
    rcases Nat.lt_or_ge b' b with hlt | hge
    · exfalso
      have hmem2 : b' ∈ as1 := by
        have hlen : as1.length = b := by
          have := congrArg (fun l => l[as1.length]?) hab
          simp at this
          have h2 : as1.length < 256 := by have := congrArg List.length hab; simp at this; omega
          simp [h2] at this
          exact this
        have := congrArg (fun l => l[b']?) hab
        simp only [List.getElem?_append_left (show b' < as1.length by omega)] at this
        simp [hb'] at this
        exact List.mem_of_getElem? this.symm
      have := hall b' hmem2
      simp at this; exact this he
    · exact hge
def ze (d : je) (c : Int) : UInt8 := UInt8.ofNat (Qk d c)
theorem zbn {d : je} (hd : DOk d) (hm : MOk d) {c : Int} (h0 : 0 ≤ c) (h1 : c < d.ji) : (ze d c).toNat = Qk d c := by
  unfold ze
  have := (Vk hd hm h0 h1).1
  simp; omega
theorem zd8 {d : je} (hd : DOk d) (hm : MOk d) {c : Int} (h0 : 0 ≤ c) (h1 : c < d.ji) : zlz d (ze d c) = c := by
  unfold zlz
  rw [zbn hd hm h0 h1]
  exact (Vk hd hm h0 h1).2.1
theorem zjy {d : je} (hd : DOk d) (hm : MOk d) (b : UInt8) : ze d (zlz d b) ≤ b := by
  have hc := zec hd hm b
  rw [UInt8.le_iff_toNat_le, zbn hd hm hc.1 hc.2]
  exact (Vk hd hm hc.1 hc.2).2.2 b.toNat b.toNat_lt rfl
theorem zbf : ∀ (l : List Int) (n : Int), Qe n l = true → ∀ (j : Nat) (x : Int), l[j]? = some x → n ≤ x → ∀ c, n ≤ c → c < x → ∃ i, i < j ∧ l[i]? = some c
  | [], n, _, j, x, h, _, c, _, _ => by simp at h
  | y :: ys, n, h, 0, x, hx, h1, c, h2, h3 => by
    simp at hx; subst hx
    simp only [Qe] at h
    by_cases hy : n < y
    · rw [if_pos hy] at h; cases h
    · omega
  | y :: ys, n, h, j + 1, x, hx, h1, c, h2, h3 => by
    simp at hx
    simp only [Qe] at h
    by_cases hy : n < y
    · rw [if_pos hy] at h; cases h
    · rw [if_neg hy] at h
      by_cases he : y = n
      · rw [if_pos he] at h
        by_cases hc : c = n
        · exact ⟨0, by omega, by simp [he, hc]⟩
        · obtain ⟨i, hi, hic⟩ := zbf ys (n + 1) h j x hx (by omega) c (by omega) h3
          exact ⟨i + 1, by omega, by simpa using hic⟩
      · rw [if_neg he] at h
        obtain ⟨i, hi, hic⟩ := zbf ys n h j x hx h1 c h2 h3
        exact ⟨i + 1, by omega, by simpa using hic⟩
theorem zj0 {d : je} (hd : DOk d) (hm : MOk d) {c e : Int} (h0 : 0 ≤ c) (h1 : c < e) (h2 : e < d.ji) : ze d c < ze d e := by
  rw [UInt8.lt_iff_toNat_lt, zbn hd hm h0 (by omega), zbn hd hm (by omega) h2]
  obtain ⟨a1, a2, a3⟩ := Vk hd hm (c := c) h0 (by omega)
  obtain ⟨b1, b2, b3⟩ := Vk hd hm (c := e) (by omega) h2
  have hl := d.jp.2
  have hx : d.jp.1[Qk d e]? = some e := by
    rw [Ju (by omega)] at b2
    rw [List.getElem?_eq_getElem (by omega), b2]
  obtain ⟨i, hi, hic⟩ := zbf d.jp.1 0 hm.cls (Qk d e) e hx (by omega) c h0 h1
  have := a3 i (by omega) (at_get hic)
  omega
end Go.Proofs.YtpohfkgjghiofaaGreat

namespace Go.Proofs.YtpohfkgjghiofaaGreat
open Go Go.RowKit L
set_option linter.unusedVariables false
set_option linter.unusedSimpArgs false
def tl (s : ByteArray) : List UInt8 := s.data.toList
theorem zdc (s : ByteArray) : s.toList = tl s := ByteArray.toList_eq s
theorem zpc (a b : ByteArray) : tl (a ++ b) = tl a ++ tl b := ByteArray.toList_data_append
theorem Y0 (a : ByteArray) : (tl a).length = a.size := rfl
theorem tl_inj {a b : ByteArray} (h : tl a = tl b) : a = b := by
  cases a; cases b
  unfold tl at h
  congr 1
  exact Array.ext' h
theorem zm8 (l : List Int) : tl (strOfNums l) = l.map fun n => UInt8.ofNat n.toNat := rfl
theorem tl_nil : tl ⟨#[]⟩ = [] := rfl
theorem zpv {l : List Int} {z : Int} (h : z < l.length) (h0 : 0 ≤ z) (hb : z < 1000000) : zc1 l z (w64 (z + 1)) = some [at' l z] := by
  obtain ⟨k, rfl⟩ := Int.eq_ofNat_of_zero_le h0
  have hk : k < l.length := by omega
  rw [qr (by omega)]
  unfold zc1
  rw [if_pos ⟨by omega, by omega, by simp, by simp; omega⟩, Ju hk]
  simp only [Int.toNat_natCast]
  rw [List.take_succ_eq_append_getElem hk, List.drop_append_of_le_length (by simp; omega), List.drop_of_length_le (by simp; omega)]
  rfl
theorem zm6 {a b : ByteArray} (h : a.size + b.size ≤ 1000000) : zl3 a b = some (a ++ b) := by
  unfold zl3; rw [if_pos (by omega)]
def ExSpec (d : je) (t : Int) (r : ByteArray × Bool) : Prop :=
  (r.2 = true ∧ 0 ≤ t ∧ 0 ≤ zm d (tl r.1) ∧ za9 d (zm d (tl r.1)).toNat = t ∧ ∀ u, 0 ≤ zm d u → za9 d (zm d u).toNat = t → sle (tl r.1) u) ∨
  (r.2 = false ∧ r.1 = ⟨#[]⟩ ∧ ∀ u, 0 ≤ zm d u → za9 d (zm d u).toNat = t → t < 0)
theorem ExSpec.uniq {d : je} {t : Int} {r s : ByteArray × Bool} (h : ExSpec d t r) (h' : ExSpec d t s) : r = s := by
  obtain ⟨r1, r2⟩ := r
  obtain ⟨s1, s2⟩ := s
  rcases h with ⟨h1, h2, h3, h4, h5⟩ | ⟨h1, h2, h3⟩ <;> rcases h' with ⟨g1, g2, g3, g4, g5⟩ | ⟨g1, g2, g3⟩ <;> simp only at *
  · rw [h1, g1, tl_inj (zpt (h5 _ g3 g4) (g5 _ h3 h4))]
  · have := g3 _ h3 h4; omega
  · have := h3 _ g3 g4; omega
  · rw [h1, g1, h2, g2]
abbrev SW := Int × List UInt8
def prS (x : qf) : SW := (x.Qy, tl x.J1)
theorem zp3 {d : je} (hd : DOk d) (hm : MOk d) {pop wt : List SW} (h1 : ∀ y ∈ pop ++ wt, zm d y.2 = y.1) (h4 : ∀ y ∈ pop, ∀ c : Int, 0 ≤ c → c < d.ji → 0 ≤ nxt d y.1.toNat c → ∃ w', (nxt d y.1.toNat c, w') ∈ pop ++ wt ∧ sle w' (y.2 ++ [ze d c]))
    (h7 : ((0 : Int), ([] : List UInt8)) ∈ pop ++ wt) (u : List UInt8) (hu : 0 ≤ zm d u) : (∃ w, (zm d u, w) ∈ pop ∧ sle w u) ∨ ∃ y ∈ wt, sle y.2 u := by
  revert hu
  refine zeh (P := fun u => 0 ≤ zm d u → (∃ w, (zm d u, w) ∈ pop ∧ sle w u) ∨ ∃ y ∈ wt, sle y.2 u) ?_ ?_ u
  · intro _
    rcases List.mem_append.1 h7 with h | h
    · exact .inl ⟨[], h, Yv _⟩
    · exact .inr ⟨_, h, Yv _⟩
  · intro u b ih hu
    obtain ⟨a1, a2⟩ := zfc hu
    rcases ih a1 with ⟨w, hw, hle⟩ | ⟨y, hy, hle⟩
    · have hc := zec hd hm b
      obtain ⟨w', hw', hle'⟩ := h4 _ hw _ hc.1 hc.2 (by rw [← a2]; exact hu)
      rw [← a2] at hw'
      have hl := Yf hle' (zlg hle (zjy hd hm b))
      rcases List.mem_append.1 hw' with h | h
      · exact .inl ⟨w', h, hl⟩
      · exact .inr ⟨_, h, hl⟩
    · exact .inr ⟨y, hy, Yf hle (zpi _ _)⟩
structure BInv (d : je) (t : Int) (seen : List Bool) (pop wt : List SW) : Prop where
  len : seen.length = d.jd.length
  run : ∀ y ∈ pop ++ wt, zm d y.2 = y.1 ∧ 0 ≤ y.1
  on : ∀ i : Nat, onB seen i ↔ ∃ w, ((i : Int), w) ∈ pop ++ wt
  sort : (pop ++ wt).Pairwise fun a b => Z5 a.2 b.2
  kids : ∀ y ∈ pop, za9 d y.1.toNat ≠ t ∧ ∀ c : Int, 0 ≤ c → c < d.ji → 0 ≤ nxt d y.1.toNat c → ∃ w', (nxt d y.1.toNat c, w') ∈ pop ++ wt ∧ sle w' (y.2 ++ [ze d c])
  front : ∀ h rest, wt = h :: rest → ∀ y ∈ pop ++ wt, ∀ b, Z5 y.2 (h.2 ++ [b])
  count : pop.length + wt.length + offs seen = d.jd.length
  short : ∀ y ∈ pop ++ wt, y.2.length ≤ pop.length
  root : ((0 : Int), ([] : List UInt8)) ∈ pop ++ wt
structure BIn (d : je) (t : Int) (h : SW) (pop : List SW) (c : Int) (seen : List Bool) (wt : List SW) : Prop where
  len : seen.length = d.jd.length
  run : ∀ y ∈ (pop ++ [h]) ++ wt, zm d y.2 = y.1 ∧ 0 ≤ y.1
  on : ∀ i : Nat, onB seen i ↔ ∃ w, ((i : Int), w) ∈ (pop ++ [h]) ++ wt
  sort : ((pop ++ [h]) ++ wt).Pairwise fun a b => Z5 a.2 b.2
  kids : ∀ y ∈ pop, za9 d y.1.toNat ≠ t ∧ ∀ c : Int, 0 ≤ c → c < d.ji → 0 ≤ nxt d y.1.toNat c → ∃ w', (nxt d y.1.toNat c, w') ∈ (pop ++ [h]) ++ wt ∧ sle w' (y.2 ++ [ze d c])
  mine : ∀ c' : Int, 0 ≤ c' → c' < c → 0 ≤ nxt d h.1.toNat c' → ∃ w', (nxt d h.1.toNat c', w') ∈ (pop ++ [h]) ++ wt ∧ sle w' (h.2 ++ [ze d c'])
  hs : h.2.length ≤ pop.length
  front : ∀ y ∈ (pop ++ [h]) ++ wt, (∃ c' : Int, 0 ≤ c' ∧ c' < c ∧ y.2 = h.2 ++ [ze d c']) ∨ ∀ b, Z5 y.2 (h.2 ++ [b])
  count : pop.length + 1 + wt.length + offs seen = d.jd.length
  short : ∀ y ∈ (pop ++ [h]) ++ wt, y.2.length ≤ pop.length + 1
  root : ((0 : Int), ([] : List UInt8)) ∈ (pop ++ [h]) ++ wt
theorem BInv.enter {d : je} {t : Int} {seen : List Bool} {pop rest : List SW} {h : SW} (H : BInv d t seen pop (h :: rest)) : BIn d t h pop 0 seen rest := by
  have e : pop ++ h :: rest = (pop ++ [h]) ++ rest := by simp
  refine ⟨H.len, ?_, ?_, ?_, ?_, fun c' h0 h1 => by omega, H.short h (by simp), ?_, ?_, ?_, ?_⟩
  · rw [← e]; exact H.run
  · rw [← e]; exact H.on
  · rw [← e]; exact H.sort
  · rw [← e]; exact H.kids
  · rw [← e]; exact fun y hy => .inr (H.front h rest rfl y hy)
  · have := H.count; simp at this; omega
  · rw [← e]; exact fun y hy => Nat.le_succ_of_le (H.short y hy)
  · rw [← e]; exact H.root
theorem BIn.leave {d : je} {t : Int} {seen : List Bool} {pop wt : List SW} {h : SW} (H : BIn d t h pop d.ji seen wt) (hl : za9 d h.1.toNat ≠ t) : BInv d t seen (pop ++ [h]) wt := by
  refine ⟨H.len, H.run, H.on, H.sort, ?_, ?_, by have := H.count; simp; omega, by simpa using H.short, H.root⟩
  · intro y hy
    rcases List.mem_append.1 hy with hy | hy
    · exact H.kids y hy
    · simp at hy; subst hy
      exact ⟨hl, fun c h0 h1 h2 => H.mine c h0 h1 h2⟩
  · intro g rest hw y hy b
    have hs : Z5 h.2 g.2 := (List.pairwise_append.1 H.sort).2.2 h (by simp) g (by rw [hw]; simp)
    rcases H.front y hy with ⟨c', _, _, e⟩ | hb
    · rw [e]; exact zii hs
    · exact zli (hb b) (zii hs)
theorem BIn.skip {d : je} (hd : DOk d) (hm : MOk d) {t : Int} {seen : List Bool} {pop wt : List SW} {h : SW} {c : Int} (H : BIn d t h pop c seen wt) (h0 : 0 ≤ c) (hc : c < d.ji) (hs : nxt d h.1.toNat c < 0 ∨ onB seen (nxt d h.1.toNat c).toNat) : BIn d t h pop (c + 1) seen wt := by
  refine ⟨H.len, H.run, H.on, H.sort, H.kids, ?_, H.hs, fun y hy => ?_, H.count, H.short, H.root⟩
  · intro c' g0 g1 g2
    by_cases hcc : c' = c
    · subst hcc
      rcases hs with hs | hs
      · omega
      · obtain ⟨w, hw⟩ := (H.on _).1 hs
        rw [Int.toNat_of_nonneg g2] at hw
        refine ⟨w, hw, ?_⟩
        rcases H.front _ hw with ⟨c'', g3, g4, e⟩ | hb
        · simp only at e; rw [e]
          exact za5 (zil (zj0 hd hm g3 g4 hc))
        · exact za5 (hb _)
    · exact H.mine c' g0 (by omega) g2
  · rcases H.front y hy with ⟨c', g0, g1, e⟩ | hb
    · exact .inl ⟨c', g0, by omega, e⟩
    · exact .inr hb
theorem BIn.push {d : je} (hd : DOk d) (hm : MOk d) {t : Int} {seen seen' : List Bool} {pop wt : List SW} {h : SW} {c : Int} (H : BIn d t h pop c seen wt) (h0 : 0 ≤ c) (hc : c < d.ji) (hn : 0 ≤ nxt d h.1.toNat c) (hs : ¬ onB seen (nxt d h.1.toNat c).toNat)
    (hl : seen'.length = seen.length) (hon : ∀ j : Nat, onB seen' j ↔ (j : Int) = nxt d h.1.toNat c ∨ onB seen j) (hof : offs seen' + 1 = offs seen) : BIn d t h pop (c + 1) seen' (wt ++ [(nxt d h.1.toNat c, h.2 ++ [ze d c])]) := by
  have e : (pop ++ [h]) ++ (wt ++ [(nxt d h.1.toNat c, h.2 ++ [ze d c])]) = ((pop ++ [h]) ++ wt) ++ [(nxt d h.1.toNat c, h.2 ++ [ze d c])] := by simp
  have hr := H.run h (by simp)
  have key : ∀ y ∈ (pop ++ [h]) ++ wt, Z5 y.2 (h.2 ++ [ze d c]) := fun y hy => by
    rcases H.front y hy with ⟨c', g0, g1, e⟩ | hb
    · rw [e]; exact zil (zj0 hd hm g0 g1 hc)
    · exact hb _
  refine ⟨by rw [hl, H.len], ?_, ?_, ?_, ?_, ?_, H.hs, ?_, ?_, ?_, ?_⟩
  · rw [e]
    intro y hy
    rcases List.mem_append.1 hy with hy | hy
    · exact H.run y hy
    · simp at hy; subst hy
      refine ⟨?_, hn⟩
      simp only
      rw [Vl, hr.1]
      unfold stp
      rw [if_neg (by omega), zd8 hd hm h0 hc]
  · intro i
    rw [hon, H.on, e]
    constructor
    · rintro (hi | ⟨w, hw⟩)
      · exact ⟨h.2 ++ [ze d c], List.mem_append.2 (.inr (by rw [hi]; simp))⟩
      · exact ⟨w, List.mem_append.2 (.inl hw)⟩
    · rintro ⟨w, hw⟩
      rcases List.mem_append.1 hw with hw | hw
      · exact .inr ⟨w, hw⟩
      · simp at hw; exact .inl hw.1
  · rw [e]
    refine List.pairwise_append.2 ⟨H.sort, by simp, fun a ha b hb => ?_⟩
    simp at hb; subst hb
    exact key a ha
  · intro y hy
    refine ⟨(H.kids y hy).1, fun c' g0 g1 g2 => ?_⟩
    obtain ⟨w', hw, hle⟩ := (H.kids y hy).2 c' g0 g1 g2
    exact ⟨w', by rw [e]; exact List.mem_append.2 (.inl hw), hle⟩
  · intro c' g0 g1 g2
    by_cases hcc : c' = c
    · subst hcc
      exact ⟨_, by rw [e]; exact List.mem_append.2 (.inr (by simp)), Yv _⟩
    · obtain ⟨w', hw, hle⟩ := H.mine c' g0 (by omega) g2
      exact ⟨w', by rw [e]; exact List.mem_append.2 (.inl hw), hle⟩
  · intro y hy
    rw [e] at hy
    rcases List.mem_append.1 hy with hy | hy
    · rcases H.front y hy with ⟨c', g0, g1, e⟩ | hb
      · exact .inl ⟨c', g0, by omega, e⟩
      · exact .inr hb
    · simp at hy; subst hy
      exact .inl ⟨c, h0, by omega, rfl⟩
  · have := H.count; simp; omega
  · intro y hy
    rw [e] at hy
    rcases List.mem_append.1 hy with hy | hy
    · exact H.short y hy
    · simp at hy; subst hy
      have := H.hs
      simp; omega
  · rw [e]; exact List.mem_append.2 (.inl H.root)
theorem zl6 (d : je) (hd : DOk d) (hm : MOk d) (l0 : List Int) (hl0 : (l0.length : Int) = d.ji) :
    Tot (G.loop (σ := (Int × (List Int))) (α := (List Int)) (fun (x16, x17) => G.cond (decide (0 ≤ x16)) (G.bind (G.lift (idx d.jp.1 x16)) fun x28 => G.bind (G.lift (idx x17 x28)) fun x29 => G.pure (.inl ((w64 (x16 - 1)), (x17.set (x28 : Int).toNat (IntKind.u8.wrap x16))))) (G.pure (.inr x17))) (255, l0))
      (fun l => (l.length : Int) = d.ji ∧ ∀ c : Int, 0 ≤ c → c < d.ji → at' l c = (Qk d c : Int)) := by
  have hcl := d.jp.2
  refine Tot.loop (fun s : Int × List Int => -1 ≤ s.1 ∧ s.1 ≤ 255 ∧ (s.2.length : Int) = d.ji ∧ ∀ b : Nat, s.1 < b → b < 256 → s.1 < at' s.2 (at' d.jp.1 (b : Int)) ∧ at' s.2 (at' d.jp.1 (b : Int)) ≤ b ∧ at' d.jp.1 (at' s.2 (at' d.jp.1 (b : Int))) = at' d.jp.1 (b : Int)) (fun s : Int × List Int => (s.1 + 1).toNat) ?_ ⟨by simp, by simp, hl0, fun b h0 h1 => by simp at h0; omega⟩
  rintro ⟨i, l⟩ ⟨h1, h2, h3, h4⟩
  simp only at h1 h2 h3 h4
  have cls : ∀ b : Nat, b < 256 → 0 ≤ at' d.jp.1 (b : Int) ∧ at' d.jp.1 (b : Int) < d.ji := fun b hb => by
    have h := zd6 (l := d.jp.1) (z := (b : Int)) (by omega) (by omega)
    have g1 := zay hd.cls
    have g3 := g1.2.2 _ h
    rw [hm.wid] at g3
    exact ⟨(hd.cls _ h).1, g3⟩
  by_cases hi : 0 ≤ i
  · obtain ⟨k, rfl⟩ := Int.eq_ofNat_of_zero_le hi
    have hk := cls k (by omega)
    repeat (first | with_reducible (refine Tot.bp ?_) | with_reducible (refine Tot.bb ?_) | (refine Tot.ct ?_ ?_; focus (first | rfl | (simp (disch := omega) only [jr, js, bl_]; done))) | (refine Tot.cf ?_ ?_; focus (first | rfl | (simp (disch := omega) only [jr, js, bl_]; done))) | with_reducible (refine Tot.bc ?_) | ((first | refine Tot.rdx ?_ ?_ | refine Tot.apx ?_ ?_ | refine Tot.mkx ?_ ?_); focus (first | omega | (simp; done) | (simp; omega))))
    have hu : IntKind.u8.wrap (k : Int) = (k : Int) := by
      unfold IntKind.wrap; simp [IntKind.signed, IntKind.bits]; omega
    have hw : w64 ((k : Int) - 1) = (k : Int) - 1 := zpu (by omega) (by omega)
    rw [hu, hw]
    refine Tot.pure ⟨⟨by simp only; omega, by simp only; omega, by simp [h3], fun b g0 g1 => ?_⟩, by simp only; omega⟩
    simp only at g0 ⊢
    have hb := cls b g1
    by_cases he : at' d.jp.1 (b : Int) = at' d.jp.1 (k : Int)
    · rw [he, zm1 hk.1 (by omega)]
      exact ⟨by omega, by omega, rfl⟩
    · rw [zqu hk.1 hb.1 (fun e => he e.symm)]
      have hne : b ≠ k := fun e => he (by rw [e])
      have := h4 b (by omega) g1
      exact ⟨by omega, this.2⟩
  · have hi1 : i = -1 := by omega
    subst hi1
    repeat (first | with_reducible (refine Tot.bp ?_) | with_reducible (refine Tot.bb ?_) | (refine Tot.ct ?_ ?_; focus (first | rfl | (simp (disch := omega) only [jr, js, bl_]; done))) | (refine Tot.cf ?_ ?_; focus (first | rfl | (simp (disch := omega) only [jr, js, bl_]; done))) | with_reducible (refine Tot.bc ?_) | ((first | refine Tot.rdx ?_ ?_ | refine Tot.apx ?_ ?_ | refine Tot.mkx ?_ ?_); focus (first | omega | (simp; done) | (simp; omega))))
    refine Tot.pure ⟨h3, fun c h0 h5 => ?_⟩
    obtain ⟨a1, a2, a3⟩ := Vk hd hm h0 h5
    have := h4 (Qk d c) (by omega) a1
    rw [a2] at this
    obtain ⟨q, hq⟩ := Int.eq_ofNat_of_zero_le (show 0 ≤ at' l c by omega)
    rw [hq] at this ⊢
    have := a3 q (by omega) this.2.2
    omega
theorem zgb (d : je) (hd : DOk d) (hn : d.jd.length ≤ 300) (t : Int) : Tot (Jn d t) (fun r => if 0 ≤ t ∧ zk d = true then ExSpec d t r else r = (⟨#[]⟩, false)) := by
  unfold Jn
  by_cases ht : 0 ≤ t
  rotate_left
  · repeat (first | with_reducible (refine Tot.bp ?_) | with_reducible (refine Tot.bb ?_) | (refine Tot.ct ?_ ?_; focus (first | rfl | (simp (disch := omega) only [jr, js, bl_]; done))) | (refine Tot.cf ?_ ?_; focus (first | rfl | (simp (disch := omega) only [jr, js, bl_]; done))) | with_reducible (refine Tot.bc ?_) | ((first | refine Tot.rdx ?_ ?_ | refine Tot.apx ?_ ?_ | refine Tot.mkx ?_ ?_); focus (first | omega | (simp; done) | (simp; omega))))
    refine Tot.pure ?_
    rw [if_neg (fun h => ht h.1)]
  repeat (first | with_reducible (refine Tot.bp ?_) | with_reducible (refine Tot.bb ?_) | (refine Tot.ct ?_ ?_; focus (first | rfl | (simp (disch := omega) only [jr, js, bl_]; done))) | (refine Tot.cf ?_ ?_; focus (first | rfl | (simp (disch := omega) only [jr, js, bl_]; done))) | with_reducible (refine Tot.bc ?_) | ((first | refine Tot.rdx ?_ ?_ | refine Tot.apx ?_ ?_ | refine Tot.mkx ?_ ?_); focus (first | omega | (simp; done) | (simp; omega))))
  refine Tot.bindE (ze2 d hd) ?_
  cases hR : zk d
  · repeat (first | with_reducible (refine Tot.bp ?_) | with_reducible (refine Tot.bb ?_) | (refine Tot.ct ?_ ?_; focus (first | rfl | (simp (disch := omega) only [jr, js, bl_]; done))) | (refine Tot.cf ?_ ?_; focus (first | rfl | (simp (disch := omega) only [jr, js, bl_]; done))) | with_reducible (refine Tot.bc ?_) | ((first | refine Tot.rdx ?_ ?_ | refine Tot.apx ?_ ?_ | refine Tot.mkx ?_ ?_); focus (first | omega | (simp; done) | (simp; omega))))
    refine Tot.pure ?_
    simp
  have hm := (Qr d).1 hR
  have hn0 := hm.n0
  have hlab := hm.lab
  have hw := zaz hd hm
  have hw1 := zmh hd hm
  repeat (first | with_reducible (refine Tot.bp ?_) | with_reducible (refine Tot.bb ?_) | (refine Tot.ct ?_ ?_; focus (first | rfl | (simp (disch := omega) only [jr, js, bl_]; done))) | (refine Tot.cf ?_ ?_; focus (first | rfl | (simp (disch := omega) only [jr, js, bl_]; done))) | with_reducible (refine Tot.bc ?_) | ((first | refine Tot.rdx ?_ ?_ | refine Tot.apx ?_ ?_ | refine Tot.mkx ?_ ?_); focus (first | omega | (simp; done) | (simp; omega))))
  refine Tot.mono (Q := ExSpec d t) ?_ (fun r hr => by rw [if_pos ⟨ht, rfl⟩]; exact hr)
  refine Tot.part _ (zl6 d hd hm _ (by simp; omega)) fun lst hlst => ?_
  obtain ⟨l1, l2⟩ := hlst
  repeat (first | with_reducible (refine Tot.bp ?_) | with_reducible (refine Tot.bb ?_) | (refine Tot.ct ?_ ?_; focus (first | rfl | (simp (disch := omega) only [jr, js, bl_]; done))) | (refine Tot.cf ?_ ?_; focus (first | rfl | (simp (disch := omega) only [jr, js, bl_]; done))) | with_reducible (refine Tot.bc ?_) | ((first | refine Tot.rdx ?_ ?_ | refine Tot.apx ?_ ?_ | refine Tot.mkx ?_ ?_); focus (first | omega | (simp; done) | (simp; omega))))
  refine Tot.part (ExSpec d t) ?_ fun a ha => Tot.pure ha
  generalize hA : (List.replicate (d.jd.length : Int).toNat false).set (0 : Int).toNat true = A
  have hA1 : A.length = d.jd.length := by rw [← hA]; simp
  have hA2 : ∀ i, onB A i ↔ i = 0 := fun i => by
    rw [← hA, Jp (by omega) (by simp; omega)]
    simp [zg1]
  have hA3 : offs A + 1 = d.jd.length := by
    rw [← hA, za3 (by omega) (by simp; omega) (by rw [show ((0 : Int)) = ((0 : Nat) : Int) from rfl, Ju (by simp; omega)]; simp)]
    unfold offs; simp
  refine Tot.loop (fun s : ByteArray × Bool × List Bool × List qf => s.1 = ⟨#[]⟩ ∧ s.2.1 = false ∧ ∃ pop, BInv d t s.2.2.1 pop (s.2.2.2.map prS)) (fun s : ByteArray × Bool × List Bool × List qf => 2 * offs s.2.2.1 + s.2.2.2.length) ?_ ⟨rfl, rfl, [], ?_⟩
  rotate_left
  · refine ⟨hA1, ?_, ?_, ?_, ?_, ?_, ?_, ?_, ?_⟩
    · intro y hy; simp [prS, tl] at hy; subst hy; exact ⟨rfl, by decide⟩
    · intro i; rw [hA2]; simp [prS, tl]
    · simp
    · intro y hy; simp at hy
    · intro h rest e y hy b
      simp [prS, tl] at e hy
      obtain ⟨e1, e2⟩ := e
      subst hy e1
      exact .inl (by simp)
    · simp; omega
    · intro y hy; simp [prS, tl] at hy; subst hy; simp
    · simp [prS, tl]
  · rintro ⟨e, s, seen, wait⟩ ⟨h1, h2, pop, H⟩
    simp only at h1 h2 H
    subst h1 h2
    have hall := fun u hu => zp3 hd hm (fun y hy => (H.run y hy).1) (fun y hy => (H.kids y hy).2) H.root u hu
    cases wait with
    | nil =>
      repeat (first | with_reducible (refine Tot.bp ?_) | with_reducible (refine Tot.bb ?_) | (refine Tot.ct ?_ ?_; focus (first | rfl | (simp (disch := omega) only [jr, js, bl_]; done))) | (refine Tot.cf ?_ ?_; focus (first | rfl | (simp (disch := omega) only [jr, js, bl_]; done))) | with_reducible (refine Tot.bc ?_) | ((first | refine Tot.rdx ?_ ?_ | refine Tot.apx ?_ ?_ | refine Tot.mkx ?_ ?_); focus (first | omega | (simp; done) | (simp; omega))))
      refine Tot.pure (.inr ⟨rfl, rfl, fun u hu he => ?_⟩)
      rcases hall u hu with ⟨w, hw, _⟩ | ⟨y, hy, _⟩
      · exact absurd he (H.kids _ hw).1
      · simp at hy
    | cons x rest =>
      simp only [List.map_cons] at H hall
      have hx := H.run (prS x) (by simp)
      have hx1 : 0 ≤ x.Qy := hx.2
      have hx2 : x.Qy < d.jd.length := by have := zgz hd hm (prS x).2; rw [hx.1] at this; exact this
      have hshort := H.short (prS x) (by simp)
      have hcount := H.count
      simp only [List.length_cons, List.length_map] at hcount
      repeat (first | with_reducible (refine Tot.bp ?_) | with_reducible (refine Tot.bb ?_) | (refine Tot.ct ?_ ?_; focus (first | rfl | (simp (disch := omega) only [jr, js, bl_]; done))) | (refine Tot.cf ?_ ?_; focus (first | rfl | (simp (disch := omega) only [jr, js, bl_]; done))) | with_reducible (refine Tot.bc ?_) | ((first | refine Tot.rdx ?_ ?_ | refine Tot.apx ?_ ?_ | refine Tot.mkx ?_ ?_); focus (first | omega | (simp; done) | (simp; omega))))
      refine Tot.someB zom ?_
      refine Tot.someB zjl ?_
      repeat (first | with_reducible (refine Tot.bp ?_) | with_reducible (refine Tot.bb ?_) | (refine Tot.ct ?_ ?_; focus (first | rfl | (simp (disch := omega) only [jr, js, bl_]; done))) | (refine Tot.cf ?_ ?_; focus (first | rfl | (simp (disch := omega) only [jr, js, bl_]; done))) | with_reducible (refine Tot.bc ?_) | ((first | refine Tot.rdx ?_ ?_ | refine Tot.apx ?_ ?_ | refine Tot.mkx ?_ ?_); focus (first | omega | (simp; done) | (simp; omega))))
      refine Tot.cond (fun hb => Tot.pure ?_) fun hb => ?_
      · simp only [decide_eq_true_eq] at hb
        refine .inl ⟨rfl, ht, ?_, ?_, fun u hu he => ?_⟩
        · rw [show zm d (tl x.J1) = x.Qy from hx.1]; exact hx1
        · rw [show zm d (tl x.J1) = x.Qy from hx.1]
          unfold za9; rw [Int.toNat_of_nonneg hx1]; exact hb
        · rcases hall u hu with ⟨w, hw, _⟩ | ⟨y, hy, hle⟩
          · exact absurd he (H.kids _ hw).1
          · refine Yf ?_ hle
            rcases List.mem_cons.1 hy with rfl | hy
            · exact Yv _
            · have := (List.pairwise_append.1 H.sort).2.1
              exact za5 ((List.pairwise_cons.1 this).1 y hy)
      · simp only [decide_eq_false_iff_not] at hb
        have hl : za9 d (prS x).1.toNat ≠ t := by
          unfold za9; rw [Int.toNat_of_nonneg hx.2]; exact hb
        repeat (first | with_reducible (refine Tot.bp ?_) | with_reducible (refine Tot.bb ?_) | (refine Tot.ct ?_ ?_; focus (first | rfl | (simp (disch := omega) only [jr, js, bl_]; done))) | (refine Tot.cf ?_ ?_; focus (first | rfl | (simp (disch := omega) only [jr, js, bl_]; done))) | with_reducible (refine Tot.bc ?_) | ((first | refine Tot.rdx ?_ ?_ | refine Tot.apx ?_ ?_ | refine Tot.mkx ?_ ?_); focus (first | omega | (simp; done) | (simp; omega))))
        have hrow := hm.row x.Qy hx1 hx2
        have hE := H.enter
        refine Tot.part (fun (r : List Bool × List qf) => BIn d t (prS x) pop d.ji r.1 (r.2.map prS) ∧ offs r.1 ≤ offs seen) ?_ ?_
        · refine Tot.forC (fun s => s.1) d.ji.toNat (fun k (s : Int × List Bool × List qf) => s.1 = (k : Int) ∧ BIn d t (prS x) pop (k : Int) s.2.1 (s.2.2.map prS) ∧ offs s.2.1 ≤ offs seen) (fun k s h => h.1) ?_ ?_ ⟨rfl, hE, Nat.le_refl _⟩
          · rintro c ⟨_, sn, wt⟩ hc ⟨rfl, I, hof⟩
            simp only at I hof
            have hnx := hm.nx x.Qy c (by omega) (by omega) (by omega) (by omega)
            have hN : nxt d (prS x).1.toNat (c : Int) = at' (at' d.jd x.Qy) (c : Int) := by
              unfold nxt; rw [Int.toNat_of_nonneg hx.2]; rfl
            have hIl := I.len
            have hIc := I.count
            simp only [List.length_map] at hIc
            have key := fun hs => I.skip hd hm (by omega) (by omega) hs
            repeat (first | with_reducible (refine Tot.bp ?_) | with_reducible (refine Tot.bb ?_) | (refine Tot.ct ?_ ?_; focus (first | rfl | (simp (disch := omega) only [jr, js, bl_]; done))) | (refine Tot.cf ?_ ?_; focus (first | rfl | (simp (disch := omega) only [jr, js, bl_]; done))) | with_reducible (refine Tot.bc ?_) | ((first | refine Tot.rdx ?_ ?_ | refine Tot.apx ?_ ?_ | refine Tot.mkx ?_ ?_); focus (first | omega | (simp; done) | (simp; omega))))
            refine Tot.cond (fun hb => ?_) fun hb => ?_
            · simp only [Bool.not_eq_true', decide_eq_false_iff_not] at hb
              repeat (first | with_reducible (refine Tot.bp ?_) | with_reducible (refine Tot.bb ?_) | (refine Tot.ct ?_ ?_; focus (first | rfl | (simp (disch := omega) only [jr, js, bl_]; done))) | (refine Tot.cf ?_ ?_; focus (first | rfl | (simp (disch := omega) only [jr, js, bl_]; done))) | with_reducible (refine Tot.bc ?_) | ((first | refine Tot.rdx ?_ ?_ | refine Tot.apx ?_ ?_ | refine Tot.mkx ?_ ?_); focus (first | omega | (simp; done) | (simp; omega))))
              cases hon : at' sn (at' (at' d.jd x.Qy) (c : Int))
              · repeat (first | with_reducible (refine Tot.bp ?_) | with_reducible (refine Tot.bb ?_) | (refine Tot.ct ?_ ?_; focus (first | rfl | (simp (disch := omega) only [jr, js, bl_]; done))) | (refine Tot.cf ?_ ?_; focus (first | rfl | (simp (disch := omega) only [jr, js, bl_]; done))) | with_reducible (refine Tot.bc ?_) | ((first | refine Tot.rdx ?_ ?_ | refine Tot.apx ?_ ?_ | refine Tot.mkx ?_ ?_); focus (first | omega | (simp; done) | (simp; omega))))
                rw [zpv (show (c : Int) < (lst.length : Int) by omega) (by omega) (by omega)]
                refine Tot.someB rfl ?_
                have hlt := Vk hd hm (c := (c : Int)) (by omega) (by omega)
                have hz1 : x.J1.size ≤ pop.length := hshort
                have hz2 : (strOfNums [at' lst (c : Int)]).size = 1 := rfl
                refine Tot.bb ?_
                refine Tot.someB (a := x.J1 ++ strOfNums [at' lst (c : Int)]) (zm6 (Nat.le_trans (Nat.add_le_add hz1 (Nat.le_of_eq hz2)) (Nat.le_trans (Nat.add_le_add_right (show pop.length ≤ 300 by omega) 1) (by decide)))) ?_
                repeat (first | with_reducible (refine Tot.bp ?_) | with_reducible (refine Tot.bb ?_) | (refine Tot.ct ?_ ?_; focus (first | rfl | (simp (disch := omega) only [jr, js, bl_]; done))) | (refine Tot.cf ?_ ?_; focus (first | rfl | (simp (disch := omega) only [jr, js, bl_]; done))) | with_reducible (refine Tot.bc ?_) | ((first | refine Tot.rdx ?_ ?_ | refine Tot.apx ?_ ?_ | refine Tot.mkx ?_ ?_); focus (first | omega | (simp; done) | (simp; omega))))
                have hset := za3 (by omega) (by omega) hon
                refine Tot.pure ⟨qr (by omega), ?_, by simp only; omega⟩
                have hp := I.push (seen' := sn.set (at' (at' d.jd x.Qy) (c : Int)).toNat true) hd hm (by omega) (by omega) (by rw [hN]; omega) (by rw [hN]; rw [← zhz (by omega), hon]; simp) (by simp) (fun j => by rw [Jp (by omega) (by omega), hN]) hset
                simp only [List.map_append, List.map_cons, List.map_nil]
                have e : prS ⟨at' (at' d.jd x.Qy) (c : Int), x.J1 ++ strOfNums [at' lst (c : Int)]⟩ = (nxt d (prS x).1.toNat (c : Int), (prS x).2 ++ [ze d (c : Int)]) := by
                  rw [hN]
                  unfold prS
                  rw [zpc, zm8, l2 _ (by omega) (by omega)]
                  simp [ze]
                rw [e]
                exact hp
              · repeat (first | with_reducible (refine Tot.bp ?_) | with_reducible (refine Tot.bb ?_) | (refine Tot.ct ?_ ?_; focus (first | rfl | (simp (disch := omega) only [jr, js, bl_]; done))) | (refine Tot.cf ?_ ?_; focus (first | rfl | (simp (disch := omega) only [jr, js, bl_]; done))) | with_reducible (refine Tot.bc ?_) | ((first | refine Tot.rdx ?_ ?_ | refine Tot.apx ?_ ?_ | refine Tot.mkx ?_ ?_); focus (first | omega | (simp; done) | (simp; omega))))
                exact Tot.pure ⟨qr (by omega), key (.inr (by rw [hN, ← zhz (by omega)]; exact hon)), hof⟩
            · simp only [Bool.not_eq_false', decide_eq_true_eq] at hb
              repeat (first | with_reducible (refine Tot.bp ?_) | with_reducible (refine Tot.bb ?_) | (refine Tot.ct ?_ ?_; focus (first | rfl | (simp (disch := omega) only [jr, js, bl_]; done))) | (refine Tot.cf ?_ ?_; focus (first | rfl | (simp (disch := omega) only [jr, js, bl_]; done))) | with_reducible (refine Tot.bc ?_) | ((first | refine Tot.rdx ?_ ?_ | refine Tot.apx ?_ ?_ | refine Tot.mkx ?_ ?_); focus (first | omega | (simp; done) | (simp; omega))))
              exact Tot.pure ⟨qr (by omega), key (.inl (by rw [hN]; exact hb)), hof⟩
          · rintro ⟨_, sn, wt⟩ ⟨rfl, I, hof⟩
            simp only at I hof
            repeat (first | with_reducible (refine Tot.bp ?_) | with_reducible (refine Tot.bb ?_) | (refine Tot.ct ?_ ?_; focus (first | rfl | (simp (disch := omega) only [jr, js, bl_]; done))) | (refine Tot.cf ?_ ?_; focus (first | rfl | (simp (disch := omega) only [jr, js, bl_]; done))) | with_reducible (refine Tot.bc ?_) | ((first | refine Tot.rdx ?_ ?_ | refine Tot.apx ?_ ?_ | refine Tot.mkx ?_ ?_); focus (first | omega | (simp; done) | (simp; omega))))
            rw [Int.toNat_of_nonneg hw.1] at I
            exact Tot.pure ⟨I, hof⟩
        · rintro ⟨sn, wt⟩ ⟨I, hof⟩
          simp only at I hof
          have hIc := I.count
          simp only [List.length_map] at hIc
          refine Tot.pure ⟨⟨rfl, rfl, pop ++ [prS x], I.leave hl⟩, ?_⟩
          simp only [List.length_cons]
          omega
end Go.Proofs.YtpohfkgjghiofaaGreat

namespace Go.Proofs.YtpohfkgjghiofaaGreat
open Go Go.RowKit L
set_option linter.unusedVariables false
set_option linter.unusedSimpArgs false
instance (l : List Bool) (i : Nat) : Decidable (onB l i) := inferInstanceAs (Decidable (l[i]? = some true))
def zav (cls : List Int) (c : Int) (k : Nat) : List Int := ((List.range k).filter fun (b : Nat) => decide (at' cls (b : Int) = c)).map fun (b : Nat) => (b : Int)
theorem znt (a : Arr 256 Int) (ha : zhw a.1) (c : Int) : Tot (zt a c) (· = zav a.1 c 256) := by
  unfold zt
  have hl := a.2
  refine Tot.part (· = zav a.1 c 256) ?_ fun a ha => Tot.pure ha
  refine Tot.forC (fun s => s.1) 256 (fun k (s : Int × List Int) => s.1 = (k : Int) ∧ s.2 = zav a.1 c k) (fun k s h => h.1) ?_ ?_ ⟨rfl, rfl⟩
  · rintro k ⟨_, l⟩ hk ⟨rfl, h⟩
    simp only at h
    have hb := ha _ (zd6 (l := a.1) (z := (k : Int)) (by omega) (by omega))
    have hw : w64 (at' a.1 (k : Int)) = at' a.1 (k : Int) := zpu (by omega) (by omega)
    have hu : IntKind.u8.wrap (k : Int) = (k : Int) := by
      unfold IntKind.wrap; simp [IntKind.signed, IntKind.bits]; omega
    have hlen : l.length ≤ k := by rw [h]; unfold zav; rw [List.length_map]; exact Nat.le_trans (List.length_filter_le ..) (by simp)
    have hs : zav a.1 c (k + 1) = if at' a.1 (k : Int) = c then zav a.1 c k ++ [(k : Int)] else zav a.1 c k := by
      unfold zav
      rw [List.range_succ, List.filter_append, List.map_append]
      by_cases hc : at' a.1 (k : Int) = c <;> simp [hc]
    repeat (first | with_reducible (refine Tot.bp ?_) | with_reducible (refine Tot.bb ?_) | (refine Tot.ct ?_ ?_; focus (first | with_reducible rfl | (simp (disch := omega) only [jr, js, bl_]; done))) | (refine Tot.cf ?_ ?_; focus (first | with_reducible rfl | (simp (disch := omega) only [jr, js, bl_]; done))) | with_reducible (refine Tot.bc ?_) | ((first | refine Tot.rdx ?_ ?_ | refine Tot.apx ?_ ?_ | refine Tot.mkx ?_ ?_); focus (first | omega | (simp; done) | (simp; omega))))
    rw [hw]
    refine Tot.cond (fun hb => ?_) fun hb => ?_
    · simp only [decide_eq_true_eq] at hb
      rw [hu]
      repeat (first | with_reducible (refine Tot.bp ?_) | with_reducible (refine Tot.bb ?_) | (refine Tot.ct ?_ ?_; focus (first | with_reducible rfl | (simp (disch := omega) only [jr, js, bl_]; done))) | (refine Tot.cf ?_ ?_; focus (first | with_reducible rfl | (simp (disch := omega) only [jr, js, bl_]; done))) | with_reducible (refine Tot.bc ?_) | ((first | refine Tot.rdx ?_ ?_ | refine Tot.apx ?_ ?_ | refine Tot.mkx ?_ ?_); focus (first | omega | (simp; done) | (simp; omega))))
      refine Tot.pure ⟨qr (by omega), ?_⟩
      simp only; rw [hs, if_pos hb, h]
    · simp only [decide_eq_false_iff_not] at hb
      repeat (first | with_reducible (refine Tot.bp ?_) | with_reducible (refine Tot.bb ?_) | (refine Tot.ct ?_ ?_; focus (first | with_reducible rfl | (simp (disch := omega) only [jr, js, bl_]; done))) | (refine Tot.cf ?_ ?_; focus (first | with_reducible rfl | (simp (disch := omega) only [jr, js, bl_]; done))) | with_reducible (refine Tot.bc ?_) | ((first | refine Tot.rdx ?_ ?_ | refine Tot.apx ?_ ?_ | refine Tot.mkx ?_ ?_); focus (first | omega | (simp; done) | (simp; omega))))
      refine Tot.pure ⟨qr (by omega), ?_⟩
      simp only; rw [hs, if_neg hb, h]
  · rintro ⟨_, l⟩ ⟨rfl, h⟩
    repeat (first | with_reducible (refine Tot.bp ?_) | with_reducible (refine Tot.bb ?_) | (refine Tot.ct ?_ ?_; focus (first | with_reducible rfl | (simp (disch := omega) only [jr, js, bl_]; done))) | (refine Tot.cf ?_ ?_; focus (first | with_reducible rfl | (simp (disch := omega) only [jr, js, bl_]; done))) | with_reducible (refine Tot.bc ?_) | ((first | refine Tot.rdx ?_ ?_ | refine Tot.apx ?_ ?_ | refine Tot.mkx ?_ ?_); focus (first | omega | (simp; done) | (simp; omega))))
    exact Tot.pure h
theorem zmk {d : je} (hd : DOk d) (hm : MOk d) {c : Int} (h0 : 0 ≤ c) (h1 : c < d.ji) : zc1 (zav d.jp.1 c 256) 0 1 = some [(Qk d c : Int)] := by
  have hne : ∃ x, ((List.range 256).filter fun (b : Nat) => decide (at' d.jp.1 (b : Int) = c)).head? = some x := by
    obtain ⟨a1, a2, _⟩ := Vk hd hm h0 h1
    have : Qk d c ∈ (List.range 256).filter fun (b : Nat) => decide (at' d.jp.1 (b : Int) = c) := List.mem_filter.2 ⟨List.mem_range.2 a1, by simpa using a2⟩
    cases hl : (List.range 256).filter fun (b : Nat) => decide (at' d.jp.1 (b : Int) = c) with
    | nil => rw [hl] at this; cases this
    | cons x xs => exact ⟨x, rfl⟩
  obtain ⟨x, hx⟩ := hne
  have he : Qk d c = x := by
    unfold Qk
    rw [← List.head?_filter, hx]; rfl
  unfold zav
  cases hl : (List.range 256).filter fun (b : Nat) => decide (at' d.jp.1 (b : Int) = c) with
  | nil => rw [hl] at hx; cases hx
  | cons y ys =>
    rw [hl] at hx
    simp at hx; subst hx
    rw [he]
    unfold zc1
    rw [if_pos ⟨by omega, by omega, by simp, by simp⟩]
    simp
section
variable (d : je) (t : Int)
def Best (i : Nat) (w : List UInt8) : Prop := zm d w = i ∧ ∀ u, zm d u = i → sle w u
def zdl (k : Nat) (word : List ByteArray) (has : List Bool) (i : Nat) : Prop := onB has i ∧ (at' word (i : Int)).size = k ∧ za9 d i = t
structure REInv (k : Nat) (word : List ByteArray) (has : List Bool) : Prop where
  wl : word.length = d.jd.length
  hl : has.length = d.jd.length
  on : ∀ i : Nat, onB has i ↔ ∃ u, zm d u = i ∧ u.length ≤ k
  best : ∀ i : Nat, onB has i → Best d i (tl (at' word (i : Int)))
  none : ∀ u, 0 ≤ zm d u → za9 d (zm d u).toNat = t → k ≤ u.length
  prog : (∀ u, 0 ≤ zm d u → ∃ v, zm d v = zm d u ∧ v.length < k) ∨ offs has + k + 1 ≤ d.jd.length
def Cd (k : Nat) (word : List ByteArray) (has : List Bool) (i c to : Nat) : Prop := onB has i ∧ (at' word (i : Int)).size = k ∧ (c : Int) < d.ji ∧ nxt d i (c : Int) = (to : Int) ∧ ¬ onB has to
def NInv (k : Nat) (word : List ByteArray) (has : List Bool) (next : List ByteArray) (P : Nat → Nat → Prop) : Prop :=
  next.length = d.jd.length ∧ ∀ to : Nat, to < d.jd.length → (tl (at' next (to : Int)) = [] ∧ ∀ i c, P i c → ¬ Cd d k word has i c to) ∨
    (∃ i c, P i c ∧ Cd d k word has i c to ∧ tl (at' next (to : Int)) = tl (at' word (i : Int)) ++ [ze d (c : Int)] ∧ ∀ i' c', P i' c' → Cd d k word has i' c' to → sle (tl (at' next (to : Int))) (tl (at' word (i' : Int)) ++ [ze d (c' : Int)]))
end
section
variable {d : je} {t : Int} {k : Nat} {word nx : List ByteArray} {has : List Bool}
theorem NInv.same {P P' : Nat → Nat → Prop} (h : NInv d k word has nx P) (h1 : ∀ i c, P i c → P' i c) (h2 : ∀ i c to, P' i c → Cd d k word has i c to → P i c) : NInv d k word has nx P' := by
  refine ⟨h.1, fun to ht => ?_⟩
  rcases h.2 to ht with ⟨a, b⟩ | ⟨i, c, a, b, e, f⟩
  · exact .inl ⟨a, fun i c hp hc => b i c (h2 i c to hp hc) hc⟩
  · exact .inr ⟨i, c, h1 i c a, b, e, fun i' c' hp hc => f i' c' (h2 i' c' to hp hc) hc⟩
theorem NInv.put {P P' : Nat → Nat → Prop} (h : NInv d k word has nx P) {i c to : Nat} {v : ByteArray} (hto : to < d.jd.length) (hc : Cd d k word has i c to) (hv : tl v = tl (at' word (i : Int)) ++ [ze d (c : Int)])
    (hp : ∀ i' c', P' i' c' ↔ P i' c' ∨ (i' = i ∧ c' = c)) (hl : tl (at' nx (to : Int)) = [] ∨ bl (tl v) (tl (at' nx (to : Int))) = true) : NInv d k word has (nx.set (to : Int).toNat v) P' := by
  have hnl := h.1
  refine ⟨by simp [h.1], fun to' ht => ?_⟩
  rw [zmz (by omega) (by omega)]
  by_cases he : (to' : Int) = to
  · rw [if_pos he]
    have he2 : to' = to := by omega
    subst he2
    right
    refine ⟨i, c, (hp i c).2 (.inr ⟨rfl, rfl⟩), hc, hv, fun i' c' hp' hc' => ?_⟩
    rw [hp] at hp'
    rcases h.2 to' ht with ⟨a, b⟩ | ⟨i0, c0, a, b, e, f⟩
    · rcases hp' with hp' | ⟨rfl, rfl⟩
      · exact absurd hc' (b i' c' hp')
      · rw [hv]; exact Yv _
    · have hless : sle (tl v) (tl (at' nx (to' : Int))) := by
        rcases hl with hl | hl
        · rw [e] at hl; simp at hl
        · refine za5 (.inr ⟨?_, hl⟩)
          rw [hv, e]; simp only [List.length_append, Y0, b.2.1, hc.2.1]; rfl
      rcases hp' with hp' | ⟨rfl, rfl⟩
      · exact Yf hless (f i' c' hp' hc')
      · rw [hv]; exact Yv _
  · rw [if_neg he]
    rcases h.2 to' ht with ⟨a, b⟩ | ⟨i0, c0, a, b, e, f⟩
    · refine .inl ⟨a, fun i' c' hp' hc' => ?_⟩
      rcases (hp _ _).1 hp' with hp' | ⟨rfl, rfl⟩
      · exact b i' c' hp' hc'
      · have := hc'.2.2.2.1; have h2 := hc.2.2.2.1; rw [h2] at this; exact he this.symm
    · refine .inr ⟨i0, c0, (hp _ _).2 (.inl a), b, e, fun i' c' hp' hc' => ?_⟩
      rcases (hp _ _).1 hp' with hp' | ⟨rfl, rfl⟩
      · exact f i' c' hp' hc'
      · have := hc'.2.2.2.1; have h2 := hc.2.2.2.1; rw [h2] at this; exact absurd this.symm he
theorem NInv.keep {P P' : Nat → Nat → Prop} (h : NInv d k word has nx P) {i c to : Nat} {v : ByteArray} (hto : to < d.jd.length) (hc : Cd d k word has i c to) (hv : tl v = tl (at' word (i : Int)) ++ [ze d (c : Int)])
    (hp : ∀ i' c', P' i' c' ↔ P i' c' ∨ (i' = i ∧ c' = c)) (hl : tl (at' nx (to : Int)) ≠ [] ∧ bl (tl v) (tl (at' nx (to : Int))) = false) : NInv d k word has nx P' := by
  refine ⟨h.1, fun to' ht => ?_⟩
  by_cases he : to' = to
  · subst he
    rcases h.2 to' ht with ⟨a, b⟩ | ⟨i0, c0, a, b, e, f⟩
    · exact absurd a hl.1
    · refine .inr ⟨i0, c0, (hp _ _).2 (.inl a), b, e, fun i' c' hp' hc' => ?_⟩
      rcases (hp _ _).1 hp' with hp' | ⟨rfl, rfl⟩
      · exact f i' c' hp' hc'
      · rw [← hv, Qw]
        refine .inr ⟨?_, hl.2⟩
        rw [hv, e]; simp only [List.length_append, Y0, b.2.1, hc.2.1]; rfl
  · rcases h.2 to' ht with ⟨a, b⟩ | ⟨i0, c0, a, b, e, f⟩
    · refine .inl ⟨a, fun i' c' hp' hc' => ?_⟩
      rcases (hp _ _).1 hp' with hp' | ⟨rfl, rfl⟩
      · exact b i' c' hp' hc'
      · have := hc'.2.2.2.1; have h2 := hc.2.2.2.1; rw [h2] at this; omega
    · refine .inr ⟨i0, c0, (hp _ _).2 (.inl a), b, e, fun i' c' hp' hc' => ?_⟩
      rcases (hp _ _).1 hp' with hp' | ⟨rfl, rfl⟩
      · exact f i' c' hp' hc'
      · have := hc'.2.2.2.1; have h2 := hc.2.2.2.1; rw [h2] at this; omega
theorem REInv.step (hd : DOk d) (hm : MOk d) (R : REInv d t k word has) (hno : ∀ i, ¬ zdl d t k word has i) {P : Nat → Nat → Prop} (hP : ∀ i c, i < d.jd.length → P i c) (hN : NInv d k word has nx P) {word' : List ByteArray} {has' : List Bool}
    (w1 : word'.length = d.jd.length) (w2 : has'.length = d.jd.length) (w3 : ∀ j : Nat, j < d.jd.length → (onB has' j ↔ onB has j ∨ tl (at' nx (j : Int)) ≠ []) ∧ at' word' (j : Int) = if tl (at' nx (j : Int)) ≠ [] ∧ ¬ onB has j then at' nx (j : Int) else at' word (j : Int)) : REInv d t (k + 1) word' has' := by
  have hlt : ∀ i, onB has i → i < d.jd.length := fun i hi => R.hl ▸ zhs hi
  have hlt' : ∀ i, onB has' i → i < d.jd.length := fun i hi => w2 ▸ zhs hi
  have hlen : ∀ i, onB has i → (at' word (i : Int)).size ≤ k := fun i hi => by
    obtain ⟨u, hu, hk⟩ := (R.on i).1 hi
    have := (R.best i hi).2 u hu
    rw [Qw] at this
    have h2 := Y0 (at' word (i : Int))
    omega
  -- a word one longer, to a new state: by a candidate
  have new : ∀ (w : List UInt8) (b : UInt8) (to : Nat), zm d (w ++ [b]) = to → ¬ onB has to → w.length ≤ k → ∃ i c, Cd d k word has i c to ∧ sle (tl (at' word (i : Int)) ++ [ze d (c : Int)]) (w ++ [b]) := by
    intro w b to hr hto hk
    obtain ⟨a1, a2⟩ := zfc (d := d) (w := w) (b := b) (by omega)
    have hc := zec hd hm b
    obtain ⟨i, hi⟩ := Int.eq_ofNat_of_zero_le a1
    obtain ⟨c, hcc⟩ := Int.eq_ofNat_of_zero_le hc.1
    have hoi : onB has i := (R.on i).2 ⟨w, hi, hk⟩
    have hb := R.best i hoi
    have hsz := hlen i hoi
    have hn : nxt d i (c : Int) = (to : Int) := by
      rw [← hr, a2, hi, hcc]; simp
    refine ⟨i, c, ⟨hoi, ?_, by rw [← hcc]; exact hc.2, hn, hto⟩, ?_⟩
    · -- else the new state would be there
      refine Nat.le_antisymm hsz (Nat.le_of_not_lt fun hl => hto ((R.on to).2 ⟨tl (at' word (i : Int)) ++ [b], ?_, ?_⟩))
      · rw [Vl, hb.1]
        unfold stp
        rw [if_neg (by omega), Int.toNat_natCast, hcc, hn]
      · have h2 := Y0 (at' word (i : Int))
        simp only [List.length_append, List.length_cons, List.length_nil]; omega
    · rw [← hcc]
      exact zlg (hb.2 w hi) (zjy hd hm b)
  have nonew : ∀ to : Nat, to < d.jd.length → tl (at' nx (to : Int)) = [] → ∀ (w : List UInt8) (b : UInt8), zm d (w ++ [b]) = to → w.length ≤ k → onB has to := by
    intro to ht he w b hr hk
    refine Decidable.byContradiction fun hto => ?_
    obtain ⟨i, c, hc, _⟩ := new w b to hr hto hk
    rcases hN.2 to ht with ⟨_, hb⟩ | ⟨i0, c0, _, _, e, _⟩
    · exact hb i c (hP i c (hlt i hc.1)) hc
    · rw [he] at e; simp at e
  have isnew : ∀ to : Nat, to < d.jd.length → tl (at' nx (to : Int)) ≠ [] → ¬ onB has to → zm d (tl (at' nx (to : Int))) = to ∧ (tl (at' nx (to : Int))).length = k + 1 ∧ ∀ u, zm d u = to → sle (tl (at' nx (to : Int))) u := by
    intro to ht hne hto
    rcases hN.2 to ht with ⟨a, _⟩ | ⟨i, c, _, hc, e, hmin⟩
    · exact absurd a hne
    · have hb := R.best i hc.1
      have hcl := hc.2.2.1
      refine ⟨?_, ?_, fun u hu => ?_⟩
      · rw [e, Vl, hb.1]
        unfold stp
        rw [if_neg (by omega), Int.toNat_natCast, zd8 hd hm (by omega) hcl, hc.2.2.2.1]
      · rw [e]; simp only [List.length_append, Y0, hc.2.1]; rfl
      · have hlk : k < u.length := Nat.lt_of_not_le fun h => hto ((R.on to).2 ⟨u, hu, h⟩)
        have hl2 : (tl (at' nx (to : Int))).length = k + 1 := by rw [e]; simp only [List.length_append, Y0, hc.2.1]; rfl
        by_cases hl3 : k + 1 < u.length
        · rw [Qw]; left; omega
        · have hne2 : u ≠ [] := fun h => by subst h; simp at hlk
          have hu2 := List.dropLast_concat_getLast hne2
          rw [← hu2] at hu ⊢
          obtain ⟨i', c', hc', hle⟩ := new _ _ to hu hto (by simp; omega)
          exact Yf (hmin i' c' (hP i' c' (hlt i' hc'.1)) hc') hle
  have on' : ∀ i : Nat, onB has' i ↔ ∃ u, zm d u = i ∧ u.length ≤ k + 1 := by
    intro i
    constructor
    · intro hi
      rcases (w3 i (hlt' i hi)).1.1 hi with h | h
      · obtain ⟨u, hu, hk⟩ := (R.on i).1 h
        exact ⟨u, hu, by omega⟩
      · by_cases ho : onB has i
        · obtain ⟨u, hu, hk⟩ := (R.on i).1 ho
          exact ⟨u, hu, by omega⟩
        · obtain ⟨a, b, _⟩ := isnew i (hlt' i hi) h ho
          exact ⟨_, a, by omega⟩
    · rintro ⟨u, hu, hk⟩
      have hi : i < d.jd.length := by have := zgz hd hm u; omega
      refine (w3 i hi).1.2 ?_
      by_cases hk2 : u.length ≤ k
      · exact .inl ((R.on i).2 ⟨u, hu, hk2⟩)
      · have hne2 : u ≠ [] := fun h => by subst h; simp at hk2
        have hu2 := List.dropLast_concat_getLast hne2
        rw [← hu2] at hu
        by_cases he : tl (at' nx (i : Int)) = []
        · exact .inl (nonew i hi he _ _ hu (by simp; omega))
        · exact .inr he
  refine ⟨w1, w2, on', ?_, ?_, ?_⟩
  · intro i hi
    have hin := hlt' i hi
    rw [(w3 i hin).2]
    by_cases hc : tl (at' nx (i : Int)) ≠ [] ∧ ¬ onB has i
    · rw [if_pos hc]
      obtain ⟨a, b, c⟩ := isnew i hin hc.1 hc.2
      exact ⟨a, c⟩
    · rw [if_neg hc]
      rcases (w3 i hin).1.1 hi with h | h
      · exact R.best i h
      · exact R.best i (Decidable.byContradiction fun ho => hc ⟨h, ho⟩)
  · intro u hu ht
    have h0 := R.none u hu ht
    refine Nat.lt_of_le_of_ne h0 fun he => ?_
    obtain ⟨i, hi⟩ := Int.eq_ofNat_of_zero_le hu
    have ho : onB has i := (R.on i).2 ⟨u, hi, by omega⟩
    rw [hi] at ht
    simp only [Int.toNat_natCast] at ht
    have hb := R.best i ho
    have h1 := R.none _ (by rw [hb.1]; omega) (by rw [hb.1]; simpa using ht)
    have h2 := hlen i ho
    have h3 := Y0 (at' word (i : Int))
    exact hno i ⟨ho, by omega, ht⟩
  · rcases R.prog with h | h
    · left
      intro u hu
      obtain ⟨v, hv, hl⟩ := h u hu
      exact ⟨v, hv, by omega⟩
    · have hLe : LeB has has' := ⟨by rw [R.hl, w2], fun i hi => (w3 i (hlt i hi)).1.2 (.inl hi)⟩
      rcases hLe.offs with e | e
      · left
        have key : ∀ u, 0 ≤ zm d u → ∃ v, zm d v = zm d u ∧ v.length ≤ k := by
          intro u
          refine zeh (P := fun u => 0 ≤ zm d u → ∃ v, zm d v = zm d u ∧ v.length ≤ k) (fun _ => ⟨[], rfl, by simp⟩) (fun u b ih hu => ?_) u
          obtain ⟨a1, a2⟩ := zfc hu
          obtain ⟨v, hv, hl⟩ := ih a1
          obtain ⟨i, hi⟩ := Int.eq_ofNat_of_zero_le hu
          have : onB has' i := (on' i).2 ⟨v ++ [b], by rw [Vl, hv, ← Vl, hi], by simp; omega⟩
          rw [← e] at this
          obtain ⟨w, hw, hwl⟩ := (R.on i).1 this
          exact ⟨w, by rw [hw, hi], hwl⟩
        intro u hu
        obtain ⟨v, hv, hl⟩ := key u hu
        exact ⟨v, hv, by omega⟩
      · right; omega
end
end Go.Proofs.YtpohfkgjghiofaaGreat
