/-
  Texts of this proof, put together: Lv32, Pb, Pc, Pd, Pe, Pf, Pm, Pg, Ph, Pi, Pj, Pk, Pl, Pq, Pr, Ps, Kn, Pn, Pu, Pv, Pw, Row, Op, O15, Px.
-/
import Derived.ProofKit
import Derived.OpenShut
import Derived.Deep.Slices
import Derived.Test.YtpohfkgjghiofaaQ5LiveSame

namespace Go.Proofs.Ytpohfkgjghiofaa
open Go Go.RowKit L
set_option maxRecDepth 10000
set_option maxHeartbeats 4000000
set_option linter.unusedVariables false
set_option linter.unusedSimpArgs false
def Yk (a0 : je) : G (List Int) :=
  G.bind (zx a0) fun x5 => G.bind (G.loop (σ := (Int × (List Int))) (α := (List Int)) (fun (x9, x10) => G.cond (decide (x9 < (x5.length : Int))) (G.bind (α := (List Int)) (G.bind (G.lift (idx x5 x9)) fun x25 => G.bind (G.cond x25 (G.lift (idx a0.jk x9)) (G.pure 0)) fun x27 => G.cond (x25 && (decide (0 ≤ x27))) (G.bind (G.lift (idx a0.jk x9)) fun x29 => G.bind (G.lift (app 8 x10 ([x29] : List Int))) fun x30 => G.pure x30) (G.pure x10)) fun x22 => G.pure (.inl ((w64 (x9 + 1)), x22))) (G.pure (.inr x10))) (0, [])) fun x41 => G.bind (G.lift (za9 x41 (zcm x41))) fun x44 => G.bind (G.lift (za9 x44 (zcb x44))) fun x47 => G.pure x47
theorem zfr {nn : Nat} {a0 : je} {r : (List Int)} (h0 : Yk a0 nn = some r) : PCall Try.prog 17 [jd a0] (· = PV.fr 3 1 (r.map I)) := by
 unfold Yk at h0
 refine PCall.intro' Try.func17 rfl Try.ntmps17 (by simp) fun W => ?_
 refine A1 0 (e_ (jd a0)) fun F f0 => ?_
 generalize PHeap.empty = H
 refine SR fun K1 hK1 => ?_
 refine Q3 (PV.rp (jd a0).cells) (zl f0 (qp _ _)) ?_
 refine Q1 (PV.u (.slice none 0 0)) (jg rfl) ?_
 have o1002 : ownL 3 1 I H 1002 (PV.u (.slice none 0 0)) [] := ownL.nil _ _
 refine PL.nil (hK1 _ _ ?_)
 refine A1 1 (e_ (PV.rp (jd a0).cells)) fun F f1 => ?_
 refine SR fun K2 hK2 => ?_
 refine Q1 (PV.u (.slice none 0 0)) (jg rfl) ?_
 have o1002 : ownL 3 1 I H 1002 (PV.u (.slice none 0 0)) [] := ownL.nil _ _
 refine PL.nil (hK2 _ _ ?_)
 refine A2 1 f1 3 (e_ (PV.u (.slice none 0 0))) fun F f1 f3 => ?_
 refine PC.seq fun K3 hK3 => ?_
 refine SR fun K4 hK4 => ?_
 refine Q1 (jd a0) (v8 vp f1 (j6 _)) ?_
 obtain ⟨x5, hx5, h0⟩ := bs h0
 refine Q3 (slB x5) (j0 (by kernel_rfl) (am (e_ (jd a0)) (am0)) (js (j2 _) (j5)) (Vw hx5)) ?_
 refine Q1 (I (x5.length : Int)) (qe (rep := B) (xs := x5) Zf (e_ (slB x5))) ?_
 refine Q1 _ (jc (e_ (I 0))) ?_
 refine PL.nil (hK4 _ _ ?_)
 refine A5 1 f1 3 f3 7 (e_ (slB x5)) 8 (e_ (I (x5.length : Int))) 9 (e_ (I 0)) fun F f1 f3 f7 f8 f9 => ?_
 refine PC.block ?_
 obtain ⟨o12, ho12, h0⟩ := bs h0
 obtain ⟨B13, hB13, ho12⟩ := G.loop_some ho12
 refine PC.loop (fun m16 F H => ∃ s50 : (Int × (List Int)), ∃ q11, qx B13 m16 s50 = some o12 ∧ F 1 = (PV.rp (jd a0).cells) ∧ F 3 = q11 ∧ F 7 = (slB x5) ∧ F 8 = (I (x5.length : Int)) ∧ F 9 = (I s50.1) ∧ ownL 3 1 I H 1002 q11 s50.2) (m := nn) ⟨(0, []), (PV.u (.slice none 0 0)), ho12, f1, f3, f7, f8, f9, o1002⟩ fun m16 F H hI => ?_
 obtain ⟨⟨x9, x10⟩, q11, ho12, f1, f3, f7, f8, f9, o1002⟩ := hI
 obtain ⟨m16, rfl, st14, hs15, ho12⟩ := jv ho12
 rw [hB13] at hs15
 try dsimp only at hs15
 refine SR fun K17 hK17 => ?_
 refine Q1 (B (decide (x9 < (x5.length : Int)))) (jj rfl f9 f8 ju) ?_
 refine PL.nil (hK17 _ _ ?_)
 refine A6 1 f1 3 f3 7 f7 8 f8 9 f9 10 (e_ (B (decide (x9 < (x5.length : Int))))) fun F f1 f3 f7 f8 f9 f10 => ?_
 refine PC.seq fun K18 hK18 => ?_
 rcases cz hs15 with ⟨hb19, hs15⟩ | ⟨hb19, hs15⟩
 refine PC.condTb f10 hb19 ?_
 refine PC.skip ?_
 refine hK18 _ _ ?_
 refine A5 1 f1 3 f3 7 f7 8 f8 9 f9 fun F f1 f3 f7 f8 f9 => ?_
 obtain ⟨o21, ho21, hs15⟩ := bs hs15
 refine PC.seqM (fun F H => ∃ s33 : (List Int), ∃ q23, o21 = s33 ∧ F 1 = (PV.rp (jd a0).cells) ∧ F 3 = q23 ∧ F 7 = (slB x5) ∧ F 8 = (I (x5.length : Int)) ∧ F 9 = (I x9) ∧ ownL 3 1 I H 1002 q23 s33) ?_ ?_
 refine PC.block ?_
 refine SR fun K24 hK24 => ?_
 refine Q1 _ (jc f9) ?_
 obtain ⟨x25, hx25, ho21⟩ := bs ho21
 refine Q1 (PV.rp (B x25).cells) (j3 (rep := B) (xs := x5) Yy f7 f9 hx25) ?_
 refine Q1 (B x25) (qo zbe (e_ (PV.rp (B x25).cells))) ?_
 refine Q1 _ (jg (e_ (I x9))) ?_
 refine Q1 _ (jg (e_ (B x25))) ?_
 refine PL.nil (hK24 _ _ ?_)
 refine A7 1 f1 3 f3 4 (e_ (I x9)) 5 (e_ (B x25)) 7 f7 8 f8 9 f9 fun F f1 f3 f4 f5 f7 f8 f9 => ?_
 refine SR fun K26 hK26 => ?_
 refine Q1 _ (jc f5) ?_
 refine Q1 _ (jc (e_ (B x25))) ?_
 refine GT (PV.rp ((jd a0).cells.drop 258)) rfl (e_ (B x25)) (fun hb => j7 y4 qh (by decide) f1) ?_
 refine GT (slI a0.jk) rfl (e_ (B x25)) (fun hb => jw qh (gvp hb (e_ (gv x25 (PV.rp ((jd a0).cells.drop 258))))) (vz a0)) ?_
 refine GT (I x9) rfl (e_ (B x25)) (fun hb => jc f4) ?_
 obtain ⟨x27, hx27, ho21⟩ := bs ho21
 refine GT (PV.rp (I x27).cells) rfl (e_ (B x25)) (fun hb => j3 (rep := I) (xs := a0.jk) vq (gvp hb (e_ (gv x25 (slI a0.jk)))) (gvp hb (e_ (gv x25 (I x9)))) (G.cond_pos hx27 hb)) ?_
 refine GT (I x27) rfl (e_ (B x25)) (fun hb => qo qw (gvp hb (e_ (gv x25 (PV.rp (I x27).cells))))) ?_
 refine GT (B (decide (0 ≤ x27))) rfl (e_ (B x25)) (fun hb => jj rfl (gvp hb (e_ (gv x25 (I x27)))) (e_ (I 0)) vx) ?_
 refine Q1 (B (x25 && (decide (0 ≤ x27)))) (vy (e_ (B x25)) (e_ (gv x25 (B (decide (0 ≤ x27))))) rfl) ?_
 refine PL.nil (hK26 _ _ ?_)
 refine A7 1 f1 3 f3 4 f4 7 f7 8 f8 9 f9 22 (e_ (B (x25 && (decide (0 ≤ x27))))) fun F f1 f3 f4 f7 f8 f9 f22 => ?_
 rcases cz ho21 with ⟨hb28, ho21⟩ | ⟨hb28, ho21⟩
 refine PC.condTb f22 hb28 ?_
 refine PC.region ?_
 refine Q1 _ (jc f3) ?_
 refine Q1 (PV.rp ((jd a0).cells.drop 258)) (j7 y4 qh (by decide) f1) ?_
 refine Q1 (slI a0.jk) (jw qh (e_ (PV.rp ((jd a0).cells.drop 258))) (vz a0)) ?_
 refine Q1 _ (jc f4) ?_
 obtain ⟨x29, hx29, ho21⟩ := bs ho21
 refine Q1 (PV.rp (I x29).cells) (j3 (rep := I) (xs := a0.jk) vq (e_ (slI a0.jk)) (e_ (I x9)) hx29) ?_
 refine Q1 (I x29) (qo qw (e_ (PV.rp (I x29).cells))) ?_
 refine Q3 (slI ([x29] : List Int)) (y5 (rep := I) (xs := [x29]) qk rfl (by decide) (bm (e_ (I x29)) (bm0)) rfl rfl) ?_
 obtain ⟨x30, hx30, ho21⟩ := bs ho21
 refine PL.appG (rep := I) (ys := ([x29] : List Int)) rfl rfl rfl (by decide) qk (e_ q11) o1002 (e_ (slI ([x29] : List Int))) (fun _ => rfl) (lf1 (fun _ => rfl) (fun _ => rfl)) hx30 fun q31 H o1002 fz32 => ?_
 refine Q1 _ (jg (e_ q31)) ?_
 refine PL.nil ?_
 have ho21 := pz ho21
 subst ho21
 exact ⟨x30, q31, rfl, f1, (e_ q31), f7, f8, f9, o1002⟩
 refine PC.condFb f22 hb28 ?_
 refine PC.skip ?_
 have ho21 := pz ho21
 subst ho21
 exact ⟨x10, q11, rfl, f1, f3, f7, f8, f9, o1002⟩
 intro F H hI
 obtain ⟨x22, q23, ho, f1, f3, f7, f8, f9, o1002⟩ := hI
 have ho := ho.symm
 subst ho
 try dsimp only at hs15
 refine PC.region ?_
 refine Q1 _ (jj rfl f9 (e_ (I 1)) j8) ?_
 refine Q1 _ (jc (e_ (I (w64 (x9 + 1))))) ?_
 refine PL.nil ?_
 have hs15 := pz hs15
 subst hs15
 exact ⟨m16, Nat.lt_succ_self _, ((w64 (x9 + 1)), x22), q23, ho12, f1, f3, f7, f8, (e_ (I (w64 (x9 + 1)))), o1002⟩
 refine PC.condFb f10 hb19 ?_
 refine PC.exit ?_
 have hs15 := pz hs15
 subst hs15
 try dsimp only at ho12
 subst ho12
 try dsimp only at h0
 refine hK3 _ _ ?_
 refine A1 3 f3 fun F f3 => ?_
 refine SR fun K34 hK34 => ?_
 refine Q1 _ (jc f3) ?_
 obtain ⟨x35, hx35, h0⟩ := bs h0
 refine PL.sortI 1002 rfl rfl (by simp [ze]) (e_ q11) o1002 hx35 fun H o1002 fz36 => ?_
 refine PL.nil (hK34 _ _ ?_)
 refine A1 3 f3 fun F f3 => ?_
 refine SR fun K37 hK37 => ?_
 refine Q1 _ (jc f3) ?_
 obtain ⟨x38, hx38, h0⟩ := bs h0
 refine PL.compI 1002 rfl rfl rfl (by decide) (e_ q11) o1002 hx38 fun q39 H o1002 fz40 => ?_
 refine Q1 _ (jg (e_ q39)) ?_
 refine PL.nil (hK37 _ _ ?_)
 refine A1 2 (e_ q39) fun F f2 => ?_
 refine PC.ret ?_
 have h0 := pz h0
 subst h0
 exact zh (.inr rfl) (qa Try.results17 f2) o1002 (fun _ => rfl)
theorem zf3 {nn : Nat} {a0 : je} {r : (List Int)} (h0 : Yk a0 nn = some r) : PCall Try.prog 17 [jd a0] (· = slI r) := (zfr h0).forget
def Jd  : G Bool :=
  G.bind (zax ([(⟨#[91, 98, 45, 100, 93, 43, 99]⟩ : ByteArray)] : List ByteArray)) fun x3 => G.bind (Zm x3 0) fun x4 => G.bind (zax ([(⟨#[97]⟩ : ByteArray), (⟨#[97, 91, 94, 92, 120, 48, 48, 45, 92, 120, 102, 102, 93]⟩ : ByteArray)] : List ByteArray)) fun x6 => G.bind (Qc x6) fun x7 => G.bind (G.cond ((x4.2 && (x4.1.toList == (⟨#[98, 99]⟩ : ByteArray).toList)) && (decide ((x7.ja.length : Int) = 2))) (Yk (⟨x7.ji, x7.jf, x7.ja, x7.jk⟩ : je)) (G.pure [])) fun x12 => G.bind (G.cond ((x4.2 && (x4.1.toList == (⟨#[98, 99]⟩ : ByteArray).toList)) && (decide ((x7.ja.length : Int) = 2))) (zm x12 ([0] : List Int)) (G.pure false)) fun x13 => G.pure (((x4.2 && (x4.1.toList == (⟨#[98, 99]⟩ : ByteArray).toList)) && (decide ((x7.ja.length : Int) = 2))) && x13)
theorem Yr {nn : Nat}  {r : Bool} (h0 : Jd nn = some r) : PCall Try.prog 6 [] (· = B r) := by
 unfold Jd at h0
 refine PCall.intro' Try.func6 rfl Try.ntmps6 (by simp) fun W => ?_
 refine PC.absF (fun F => True) trivial ?_
 intro F hI
 clear hI
 generalize PHeap.empty = H
 refine SR fun K1 hK1 => ?_
 refine Q1 _ (jg (e_ (B false))) ?_
 refine PL.nil (hK1 _ _ ?_)
 refine PC.absF (fun F => True) trivial ?_
 intro F hI
 clear hI
 refine SR fun K2 hK2 => ?_
 refine Q3 (zim ([(⟨#[91, 98, 45, 100, 93, 43, 99]⟩ : ByteArray)] : List ByteArray)) (y5 (rep := S) (xs := [(⟨#[91, 98, 45, 100, 93, 43, 99]⟩ : ByteArray)]) zkv rfl (by decide) (bm (e_ (S (⟨#[91, 98, 45, 100, 93, 43, 99]⟩ : ByteArray))) (bm0)) rfl rfl) ?_
 obtain ⟨x3, hx3, h0⟩ := bs h0
 refine Q3 (jd x3) (j0 (by kernel_rfl) (am (e_ (zim ([(⟨#[91, 98, 45, 100, 93, 43, 99]⟩ : ByteArray)] : List ByteArray))) (am0)) (js (zk4 _) (j5)) (zd4 hx3)) ?_
 obtain ⟨x4, hx4, h0⟩ := bs h0
 refine Q3 (PV.tup [(S x4.1), (B x4.2)]) (j0 (by kernel_rfl) (am (e_ (jd x3)) (am (e_ (I 0)) (am0))) (js (j2 _) (js (.u _) (j5))) (zfb hx4)) ?_
 refine Q1 _ (jc (e_ (PV.tup [(S x4.1), (B x4.2)]))) ?_
 refine Q1 _ (vr (e_ (PV.tup [(S x4.1), (B x4.2)])) rfl) ?_
 refine Q1 _ (vr (e_ (PV.tup [(S x4.1), (B x4.2)])) rfl) ?_
 refine Q1 _ (jg (e_ (S x4.1))) ?_
 refine Q1 _ (jg (e_ (B x4.2))) ?_
 refine PL.nil (hK2 _ _ ?_)
 refine A2 1 (e_ (S x4.1)) 2 (e_ (B x4.2)) fun F f1 f2 => ?_
 refine SR fun K5 hK5 => ?_
 refine Q3 (zim ([(⟨#[97]⟩ : ByteArray), (⟨#[97, 91, 94, 92, 120, 48, 48, 45, 92, 120, 102, 102, 93]⟩ : ByteArray)] : List ByteArray)) (y5 (rep := S) (xs := [(⟨#[97]⟩ : ByteArray), (⟨#[97, 91, 94, 92, 120, 48, 48, 45, 92, 120, 102, 102, 93]⟩ : ByteArray)]) zkv rfl (by decide) (bm (e_ (S (⟨#[97]⟩ : ByteArray))) (bm (e_ (S (⟨#[97, 91, 94, 92, 120, 48, 48, 45, 92, 120, 102, 102, 93]⟩ : ByteArray))) (bm0))) rfl rfl) ?_
 obtain ⟨x6, hx6, h0⟩ := bs h0
 refine Q3 (jd x6) (j0 (by kernel_rfl) (am (e_ (zim ([(⟨#[97]⟩ : ByteArray), (⟨#[97, 91, 94, 92, 120, 48, 48, 45, 92, 120, 102, 102, 93]⟩ : ByteArray)] : List ByteArray))) (am0)) (js (zk4 _) (j5)) (zd4 hx6)) ?_
 obtain ⟨x7, hx7, h0⟩ := bs h0
 refine Q3 (jd x7) (j0 (by kernel_rfl) (am (e_ (jd x6)) (am0)) (js (j2 _) (j5)) (Z9 hx7)) ?_
 refine PL.allocA 203 (cs := (((arV (n := 256) U8) (arZ 256 0)).cells ++ [(I 0), (PV.u (.slice none 0 0)), (PV.u (.slice none 0 0))])) rfl rfl rfl (by decide) Yo (by kernel_rfl) (by kernel_rfl) fun v203 H b203 fz8 => ?_
 refine PL.recell (cs' := (((arV (n := 256) U8) (arZ 256 0)).cells ++ [(I 0), (qi []), (slI [])])) b203 (WeakL.app (WeakL.refl _) (WeakL.cons (Weak.refl _) (WeakL.cons (Weak.nil _) (WeakL.cons (Weak.nil _) (WeakL.nil))))) fun H b203 fz9 => ?_
 refine PL.storeA (ag := true) (cs' := (((arV (n := 256) U8) x7.ji).cells ++ [(I x7.jf), (qi x7.ja), (slI x7.jk)])) (ps := (((arV (n := 256) U8) x7.ji).cells ++ [(I x7.jf), (qi x7.ja), (slI x7.jk)])) rfl rfl (fun _ h => by cases h) (e_ (PV.pp 203 0 v203)) b203 vp (e_ (jd x7)) (qp _ _) rfl (j9 (jl _ _ (fun _ => rfl)) rfl) (by rw [(j9 (jl _ _ (fun _ => rfl)) rfl)]; exact Nat.le_of_ble_eq_true rfl) (vw (N := 256 + (3)) (j9 (jl _ _ (fun _ => rfl)) rfl) (j9 (jl _ _ (fun _ => rfl)) rfl)) fun H b203 fz10 => ?_
 refine PL.nil (hK5 _ _ ?_)
 refine A3 1 f1 2 f2 3 (e_ (PV.pp 203 0 v203)) fun F f1 f2 f3 => ?_
 refine SR fun K11 hK11 => ?_
 refine Q1 _ (jc f2) ?_
 refine Q1 _ (jc (e_ (B x4.2))) ?_
 refine GT (S x4.1) rfl (e_ (B x4.2)) (fun hb => jc f1) ?_
 refine GT (B (x4.1.toList == (⟨#[98, 99]⟩ : ByteArray).toList)) rfl (e_ (B x4.2)) (fun hb => jj rfl (gvp hb (e_ (gv x4.2 (S x4.1)))) (e_ (S (⟨#[98, 99]⟩ : ByteArray))) (zi6 _ _)) ?_
 refine Q1 (B (x4.2 && (x4.1.toList == (⟨#[98, 99]⟩ : ByteArray).toList))) (vy (e_ (B x4.2)) (e_ (gv x4.2 (B (x4.1.toList == (⟨#[98, 99]⟩ : ByteArray).toList)))) rfl) ?_
 refine Q1 _ (jc (e_ (B (x4.2 && (x4.1.toList == (⟨#[98, 99]⟩ : ByteArray).toList))))) ?_
 refine GT (PV.pp 203 257 v203) rfl (e_ (B (x4.2 && (x4.1.toList == (⟨#[98, 99]⟩ : ByteArray).toList)))) (fun hb => yq qz qb (by decide) f3 b203) ?_
 refine GT (qi x7.ja) rfl (e_ (B (x4.2 && (x4.1.toList == (⟨#[98, 99]⟩ : ByteArray).toList)))) (fun hb => qv qb (gvp hb (e_ (gv (x4.2 && (x4.1.toList == (⟨#[98, 99]⟩ : ByteArray).toList)) (PV.pp 203 257 v203)))) b203 (zey (m := 256) (i := 1) (jl _ _ (fun _ => rfl)) rfl)) ?_
 refine GT (I (x7.ja.length : Int)) rfl (e_ (B (x4.2 && (x4.1.toList == (⟨#[98, 99]⟩ : ByteArray).toList)))) (fun hb => qe (rep := slI) (xs := x7.ja) qu (gvp hb (e_ (gv (x4.2 && (x4.1.toList == (⟨#[98, 99]⟩ : ByteArray).toList)) (qi x7.ja))))) ?_
 refine GT (B (decide ((x7.ja.length : Int) = 2))) rfl (e_ (B (x4.2 && (x4.1.toList == (⟨#[98, 99]⟩ : ByteArray).toList)))) (fun hb => jj rfl (gvp hb (e_ (gv (x4.2 && (x4.1.toList == (⟨#[98, 99]⟩ : ByteArray).toList)) (I (x7.ja.length : Int))))) (e_ (I 2)) qc) ?_
 refine Q1 (B ((x4.2 && (x4.1.toList == (⟨#[98, 99]⟩ : ByteArray).toList)) && (decide ((x7.ja.length : Int) = 2)))) (vy (e_ (B (x4.2 && (x4.1.toList == (⟨#[98, 99]⟩ : ByteArray).toList)))) (e_ (gv (x4.2 && (x4.1.toList == (⟨#[98, 99]⟩ : ByteArray).toList)) (B (decide ((x7.ja.length : Int) = 2))))) rfl) ?_
 refine Q1 _ (jc (e_ (B ((x4.2 && (x4.1.toList == (⟨#[98, 99]⟩ : ByteArray).toList)) && (decide ((x7.ja.length : Int) = 2)))))) ?_
 refine GT (jd (⟨x7.ji, x7.jf, x7.ja, x7.jk⟩ : je)) rfl (e_ (B ((x4.2 && (x4.1.toList == (⟨#[98, 99]⟩ : ByteArray).toList)) && (decide ((x7.ja.length : Int) = 2))))) (fun hb => qv vp f3 b203 (yh (j6 (⟨x7.ji, x7.jf, x7.ja, x7.jk⟩ : je)))) ?_
 obtain ⟨x12, hx12, h0⟩ := bs h0
 refine GTq (slI x12) rfl (e_ (B ((x4.2 && (x4.1.toList == (⟨#[98, 99]⟩ : ByteArray).toList)) && (decide ((x7.ja.length : Int) = 2))))) (fun hb => j0 (by kernel_rfl) (am (gvp hb (e_ (gv ((x4.2 && (x4.1.toList == (⟨#[98, 99]⟩ : ByteArray).toList)) && (decide ((x7.ja.length : Int) = 2))) (jd (⟨x7.ji, x7.jf, x7.ja, x7.jk⟩ : je))))) (am0)) (js (j2 _) (j5)) (zf3 (G.cond_pos hx12 hb))) ?_
 refine GTq (slI ([0] : List Int)) rfl (e_ (B ((x4.2 && (x4.1.toList == (⟨#[98, 99]⟩ : ByteArray).toList)) && (decide ((x7.ja.length : Int) = 2))))) (fun hb => y5 (rep := I) (xs := [0]) qk rfl (by decide) (bm (e_ (I 0)) (bm0)) rfl rfl) ?_
 obtain ⟨x13, hx13, h0⟩ := bs h0
 refine GTq (B x13) rfl (e_ (B ((x4.2 && (x4.1.toList == (⟨#[98, 99]⟩ : ByteArray).toList)) && (decide ((x7.ja.length : Int) = 2))))) (fun hb => j0 (by kernel_rfl) (am (gvp hb (e_ (gv ((x4.2 && (x4.1.toList == (⟨#[98, 99]⟩ : ByteArray).toList)) && (decide ((x7.ja.length : Int) = 2))) (slI x12)))) (am (gvp hb (e_ (gv ((x4.2 && (x4.1.toList == (⟨#[98, 99]⟩ : ByteArray).toList)) && (decide ((x7.ja.length : Int) = 2))) (slI ([0] : List Int))))) (am0))) (js (v6 _) (js (v6 _) (j5))) (Vl (G.cond_pos hx13 hb))) ?_
 refine Q1 (B (((x4.2 && (x4.1.toList == (⟨#[98, 99]⟩ : ByteArray).toList)) && (decide ((x7.ja.length : Int) = 2))) && x13)) (vy (e_ (B ((x4.2 && (x4.1.toList == (⟨#[98, 99]⟩ : ByteArray).toList)) && (decide ((x7.ja.length : Int) = 2))))) (e_ (gv ((x4.2 && (x4.1.toList == (⟨#[98, 99]⟩ : ByteArray).toList)) && (decide ((x7.ja.length : Int) = 2))) (B x13))) rfl) ?_
 refine Q1 _ (jg (e_ (B (((x4.2 && (x4.1.toList == (⟨#[98, 99]⟩ : ByteArray).toList)) && (decide ((x7.ja.length : Int) = 2))) && x13)))) ?_
 refine PL.nil (hK11 _ _ ?_)
 refine A1 0 (e_ (B (((x4.2 && (x4.1.toList == (⟨#[98, 99]⟩ : ByteArray).toList)) && (decide ((x7.ja.length : Int) = 2))) && x13))) fun F f0 => ?_
 refine PC.ret ?_
 have h0 := pz h0
 subst h0
 exact fin (.inr rfl) (qa Try.results6 f0) (.u _)
def Qp (a0 : (Arr 256 Int)) : G Bool :=
  G.bind (G.loop (σ := (Int × Int)) (α := Unit ⊕ Bool) (fun (x7, x8) => G.cond (decide (x8 < 256)) (G.bind (α := Int ⊕ Bool) (G.bind (G.lift (idx a0.1 x8)) fun x22 => G.cond (decide (x7 < (w64 x22))) (G.pure (.inr false)) (G.bind (G.lift (idx a0.1 x8)) fun x26 => G.cond (decide ((w64 x26) = x7)) (G.pure (.inl (w64 (x7 + 1)))) (G.pure (.inl x7)))) fun o => match o with | .inl x19 => G.pure (.inl (x19, (w64 (x8 + 1)))) | .inr r28 => G.pure (.inr (.inr r28))) (G.pure (.inr (.inl ())))) (0, 0)) fun o => match o with | .inl () => G.pure true | .inr r32 => G.pure r32
theorem zgb {nn : Nat} {a0 : (Arr 256 Int)} {r : Bool} (h0 : Qp a0 nn = some r) : PCall Try.prog 19 [(arV (n := 256) U8) a0] (· = B r) := by
 unfold Qp at h0
 refine PCall.intro' Try.func19 rfl Try.ntmps19 (by simp) fun W => ?_
 refine A1 0 (e_ ((arV (n := 256) U8) a0)) fun F f0 => ?_
 generalize PHeap.empty = H
 refine SR fun K1 hK1 => ?_
 refine Q3 (PV.rp ((arV (n := 256) U8) a0).cells) (zl f0 (yb _ _ _ (fun _ => rfl))) ?_
 refine Q1 _ (jg (e_ (B false))) ?_
 refine PL.nil (hK1 _ _ ?_)
 refine A1 1 (e_ (PV.rp ((arV (n := 256) U8) a0).cells)) fun F f1 => ?_
 refine SR fun K2 hK2 => ?_
 refine Q1 _ (jg (e_ (I 0))) ?_
 refine PL.nil (hK2 _ _ ?_)
 refine A2 1 f1 3 (e_ (I 0)) fun F f1 f3 => ?_
 refine PC.seq fun K3 hK3 => ?_
 refine SR fun K4 hK4 => ?_
 refine Q1 _ (jg (e_ (I 0))) ?_
 refine PL.nil (hK4 _ _ ?_)
 refine A3 1 f1 3 f3 4 (e_ (I 0)) fun F f1 f3 f4 => ?_
 refine PC.block ?_
 obtain ⟨o9, ho9, h0⟩ := bs h0
 obtain ⟨B10, hB10, ho9⟩ := G.loop_some ho9
 refine PC.loop (fun m13 F H => ∃ s33 : (Int × Int), qx B10 m13 s33 = some o9 ∧ F 1 = (PV.rp ((arV (n := 256) U8) a0).cells) ∧ F 3 = (I s33.1) ∧ F 4 = (I s33.2)) (m := nn) ⟨(0, 0), ho9, f1, f3, f4⟩ fun m13 F H hI => ?_
 obtain ⟨⟨x7, x8⟩, ho9, f1, f3, f4⟩ := hI
 obtain ⟨m13, rfl, st11, hs12, ho9⟩ := jv ho9
 rw [hB10] at hs12
 try dsimp only at hs12
 refine PC.seq fun K14 hK14 => ?_
 refine SR fun K15 hK15 => ?_
 refine Q1 _ (jc f4) ?_
 refine Q1 _ (jj rfl (e_ (I x8)) (e_ (I 256)) ju) ?_
 refine PL.nil (hK15 _ _ ?_)
 refine A4 1 f1 3 f3 4 f4 6 (e_ (B (decide (x8 < 256)))) fun F f1 f3 f4 f6 => ?_
 rcases cz hs12 with ⟨hb16, hs12⟩ | ⟨hb16, hs12⟩
 refine PC.condTb f6 hb16 ?_
 refine PC.skip ?_
 refine hK14 _ _ ?_
 refine A3 1 f1 3 f3 4 f4 fun F f1 f3 f4 => ?_
 obtain ⟨o18, ho18, hs12⟩ := bs hs12
 refine PC.seqM (fun F H => ∃ s29 : Int, o18 = .inl s29 ∧ F 1 = (PV.rp ((arV (n := 256) U8) a0).cells) ∧ F 3 = (I s29) ∧ F 4 = (I x8)) ?_ ?_
 refine PC.block ?_
 refine PC.seq fun K20 hK20 => ?_
 refine SR fun K21 hK21 => ?_
 refine Q1 _ (jc f4) ?_
 obtain ⟨x22, hx22, ho18⟩ := bs ho18
 refine Q1 (PV.rp (((arV (n := 256) U8) a0).cells.drop ((x8 : Int).toNat * 1))) (zcv (rep := U8) (a := a0) Yu f1 (e_ (I x8)) hx22) ?_
 refine Q1 (U8 x22) (jw Z2 (e_ (PV.rp (((arV (n := 256) U8) a0).cells.drop ((x8 : Int).toNat * 1)))) (zb2 hx22)) ?_
 refine Q1 (I (w64 x22)) (Jh (by kernel_rfl) (by kernel_rfl) (e_ (U8 x22))) ?_
 refine Q1 _ (jc f3) ?_
 refine Q1 _ (jj rfl (e_ (I (w64 x22))) (e_ (I x7)) Qf) ?_
 refine PL.nil (hK21 _ _ ?_)
 refine A4 1 f1 3 f3 4 f4 14 (e_ (B (decide (x7 < (w64 x22))))) fun F f1 f3 f4 f14 => ?_
 rcases cz ho18 with ⟨hb23, ho18⟩ | ⟨hb23, ho18⟩
 refine PC.condTb f14 hb23 ?_
 refine SR fun K24 hK24 => ?_
 refine Q1 _ (jg (e_ (B false))) ?_
 refine PL.nil (hK24 _ _ ?_)
 refine A1 2 (e_ (B false)) fun F f2 => ?_
 have ho18 := pz ho18
 subst ho18
 try dsimp only at hs12
 have hs12 := pz hs12
 subst hs12
 try dsimp only at ho9
 subst ho9
 try dsimp only at h0
 refine PC.ret ?_
 have h0 := pz h0
 subst h0
 exact fin (.inr rfl) (qa Try.results19 f2) (.u _)
 refine PC.condFb f14 hb23 ?_
 refine PC.skip ?_
 refine hK20 _ _ ?_
 refine A3 1 f1 3 f3 4 f4 fun F f1 f3 f4 => ?_
 refine SR fun K25 hK25 => ?_
 refine Q1 _ (jc f4) ?_
 obtain ⟨x26, hx26, ho18⟩ := bs ho18
 refine Q1 (PV.rp (((arV (n := 256) U8) a0).cells.drop ((x8 : Int).toNat * 1))) (zcv (rep := U8) (a := a0) Yu f1 (e_ (I x8)) hx26) ?_
 refine Q1 (U8 x26) (jw Z2 (e_ (PV.rp (((arV (n := 256) U8) a0).cells.drop ((x8 : Int).toNat * 1)))) (zb2 hx26)) ?_
 refine Q1 (I (w64 x26)) (Jh (by kernel_rfl) (by kernel_rfl) (e_ (U8 x26))) ?_
 refine Q1 _ (jc f3) ?_
 refine Q1 _ (jj rfl (e_ (I (w64 x26))) (e_ (I x7)) qc) ?_
 refine PL.nil (hK25 _ _ ?_)
 refine A4 1 f1 3 f3 4 f4 20 (e_ (B (decide ((w64 x26) = x7)))) fun F f1 f3 f4 f20 => ?_
 rcases cz ho18 with ⟨hb27, ho18⟩ | ⟨hb27, ho18⟩
 refine PC.condTb f20 hb27 ?_
 refine PC.region ?_
 refine Q1 _ (jc f3) ?_
 refine Q1 _ (jj rfl (e_ (I x7)) (e_ (I 1)) j8) ?_
 refine Q1 _ (jg (e_ (I (w64 (x7 + 1))))) ?_
 refine PL.nil ?_
 have ho18 := pz ho18
 subst ho18
 exact ⟨(w64 (x7 + 1)), rfl, f1, (e_ (I (w64 (x7 + 1)))), f4⟩
 refine PC.condFb f20 hb27 ?_
 refine PC.skip ?_
 have ho18 := pz ho18
 subst ho18
 exact ⟨x7, rfl, f1, f3, f4⟩
 intro F H hI
 obtain ⟨x19, ho, f1, f3, f4⟩ := hI
 have ho := ho.symm
 subst ho
 try dsimp only at hs12
 refine PC.region ?_
 refine Q1 _ (jc f4) ?_
 refine Q1 _ (jj rfl (e_ (I x8)) (e_ (I 1)) j8) ?_
 refine Q1 _ (jg (e_ (I (w64 (x8 + 1))))) ?_
 refine PL.nil ?_
 have hs12 := pz hs12
 subst hs12
 exact ⟨m13, Nat.lt_succ_self _, (x19, (w64 (x8 + 1))), ho9, f1, f3, (e_ (I (w64 (x8 + 1))))⟩
 refine PC.condFb f6 hb16 ?_
 refine PC.exit ?_
 have hs12 := pz hs12
 subst hs12
 try dsimp only at ho9
 subst ho9
 try dsimp only at h0
 refine hK3 _ _ ?_
 refine PC.absF (fun F => True) trivial ?_
 intro F hI
 clear hI
 refine SR fun K30 hK30 => ?_
 refine Q1 _ (jg (e_ (B true))) ?_
 refine PL.nil (hK30 _ _ ?_)
 refine A1 2 (e_ (B true)) fun F f2 => ?_
 refine PC.ret ?_
 have h0 := pz h0
 subst h0
 exact fin (.inr rfl) (qa Try.results19 f2) (.u _)
def Jx (a0 : (Arr 256 Int)) : G Int :=
  G.bind (G.loop (σ := (Int × Int)) (α := Int) (fun (x7, x8) => G.cond (decide (x8 < 256)) (G.bind (G.lift (idx a0.1 x8)) fun x18 => G.pure (.inl ((max x7 (w64 ((w64 x18) + 1))), (w64 (x8 + 1))))) (G.pure (.inr x7))) (0, 0)) fun x20 => G.pure x20
theorem zf0 {nn : Nat} {a0 : (Arr 256 Int)} {r : Int} (h0 : Jx a0 nn = some r) : PCall Try.prog 20 [(arV (n := 256) U8) a0] (· = I r) := by
 unfold Jx at h0
 refine PCall.intro' Try.func20 rfl Try.ntmps20 (by simp) fun W => ?_
 refine A1 0 (e_ ((arV (n := 256) U8) a0)) fun F f0 => ?_
 generalize PHeap.empty = H
 refine SR fun K1 hK1 => ?_
 refine Q3 (PV.rp ((arV (n := 256) U8) a0).cells) (zl f0 (yb _ _ _ (fun _ => rfl))) ?_
 refine Q1 _ (jg (e_ (I 0))) ?_
 refine PL.nil (hK1 _ _ ?_)
 refine A1 1 (e_ (PV.rp ((arV (n := 256) U8) a0).cells)) fun F f1 => ?_
 refine SR fun K2 hK2 => ?_
 refine Q1 _ (jg (e_ (I 0))) ?_
 refine PL.nil (hK2 _ _ ?_)
 refine A2 1 f1 3 (e_ (I 0)) fun F f1 f3 => ?_
 refine PC.seq fun K3 hK3 => ?_
 refine SR fun K4 hK4 => ?_
 refine Q1 _ (jg (e_ (I 0))) ?_
 refine PL.nil (hK4 _ _ ?_)
 refine A3 1 f1 3 f3 4 (e_ (I 0)) fun F f1 f3 f4 => ?_
 refine PC.block ?_
 obtain ⟨o9, ho9, h0⟩ := bs h0
 obtain ⟨B10, hB10, ho9⟩ := G.loop_some ho9
 refine PC.loop (fun m13 F H => ∃ s22 : (Int × Int), qx B10 m13 s22 = some o9 ∧ F 1 = (PV.rp ((arV (n := 256) U8) a0).cells) ∧ F 3 = (I s22.1) ∧ F 4 = (I s22.2)) (m := nn) ⟨(0, 0), ho9, f1, f3, f4⟩ fun m13 F H hI => ?_
 obtain ⟨⟨x7, x8⟩, ho9, f1, f3, f4⟩ := hI
 obtain ⟨m13, rfl, st11, hs12, ho9⟩ := jv ho9
 rw [hB10] at hs12
 try dsimp only at hs12
 refine PC.seq fun K14 hK14 => ?_
 refine SR fun K15 hK15 => ?_
 refine Q1 _ (jc f4) ?_
 refine Q1 _ (jj rfl (e_ (I x8)) (e_ (I 256)) ju) ?_
 refine PL.nil (hK15 _ _ ?_)
 refine A4 1 f1 3 f3 4 f4 6 (e_ (B (decide (x8 < 256)))) fun F f1 f3 f4 f6 => ?_
 rcases cz hs12 with ⟨hb16, hs12⟩ | ⟨hb16, hs12⟩
 refine PC.condTb f6 hb16 ?_
 refine PC.skip ?_
 refine hK14 _ _ ?_
 refine A3 1 f1 3 f3 4 f4 fun F f1 f3 f4 => ?_
 refine PC.seq fun K17 hK17 => ?_
 refine PC.block ?_
 refine PC.region ?_
 refine Q1 _ (jc f3) ?_
 refine Q1 _ (jc f4) ?_
 obtain ⟨x18, hx18, hs12⟩ := bs hs12
 refine Q1 (PV.rp (((arV (n := 256) U8) a0).cells.drop ((x8 : Int).toNat * 1))) (zcv (rep := U8) (a := a0) Yu f1 (e_ (I x8)) hx18) ?_
 refine Q1 (U8 x18) (jw Z2 (e_ (PV.rp (((arV (n := 256) U8) a0).cells.drop ((x8 : Int).toNat * 1)))) (zb2 hx18)) ?_
 refine Q1 (I (w64 x18)) (Jh (by kernel_rfl) (by kernel_rfl) (e_ (U8 x18))) ?_
 refine Q1 _ (jj rfl (e_ (I (w64 x18))) (e_ (I 1)) j8) ?_
 refine Q1 (I (max x7 (w64 ((w64 x18) + 1)))) (zn4 (e_ (I x7)) (e_ (I (w64 ((w64 x18) + 1))))) ?_
 refine Q1 _ (jg (e_ (I (max x7 (w64 ((w64 x18) + 1)))))) ?_
 refine PL.nil (hK17 _ _ ?_)
 refine A3 1 f1 3 (e_ (I (max x7 (w64 ((w64 x18) + 1))))) 4 f4 fun F f1 f3 f4 => ?_
 refine PC.region ?_
 refine Q1 _ (jc f4) ?_
 refine Q1 _ (jj rfl (e_ (I x8)) (e_ (I 1)) j8) ?_
 refine Q1 _ (jg (e_ (I (w64 (x8 + 1))))) ?_
 refine PL.nil ?_
 have hs12 := pz hs12
 subst hs12
 exact ⟨m13, Nat.lt_succ_self _, ((max x7 (w64 ((w64 x18) + 1))), (w64 (x8 + 1))), ho9, f1, f3, (e_ (I (w64 (x8 + 1))))⟩
 refine PC.condFb f6 hb16 ?_
 refine PC.exit ?_
 have hs12 := pz hs12
 subst hs12
 try dsimp only at ho9
 subst ho9
 try dsimp only at h0
 refine hK3 _ _ ?_
 refine A1 3 f3 fun F f3 => ?_
 refine SR fun K19 hK19 => ?_
 refine Q1 _ (jc f3) ?_
 refine Q1 _ (jg (e_ (I x7))) ?_
 refine PL.nil (hK19 _ _ ?_)
 refine A1 2 (e_ (I x7)) fun F f2 => ?_
 refine PC.ret ?_
 have h0 := pz h0
 subst h0
 exact fin (.inr rfl) (qa Try.results20 f2) (.u _)
def y7 (a0 : je) : G Bool :=
  G.bind (Qp a0.ji) fun x4 => G.bind (G.cond (!(!x4)) (Jx a0.ji) (G.pure 0)) fun x5 => G.cond ((((!x4) || (decide (¬ a0.jf = x5))) || (decide ((a0.ja.length : Int) = 0))) || (decide (¬ (a0.jk.length : Int) = (a0.ja.length : Int)))) (G.pure false) (G.bind (G.loop (σ := Int) (α := Unit ⊕ Bool) (fun x11 => G.cond (decide (x11 < (a0.ja.length : Int))) (G.bind (G.lift (idx a0.ja x11)) fun x23 => G.bind (G.cond (!(decide (¬ (x23.length : Int) = a0.jf))) (G.lift (idx a0.jk x11)) (G.pure 0)) fun x24 => G.cond ((decide (¬ (x23.length : Int) = a0.jf)) || (decide (x24 < (-1)))) (G.pure (.inr (.inr false))) (G.bind (G.loop (σ := Int) (α := Unit ⊕ Bool) (fun x29 => G.cond (decide (x29 < a0.jf)) (G.bind (G.lift (idx a0.ja x11)) fun x40 => G.bind (G.lift (idx x40 x29)) fun x41 => G.bind (G.cond (!(decide (x41 < (-1)))) (G.lift (idx a0.ja x11)) (G.pure [])) fun x42 => G.bind (G.cond (!(decide (x41 < (-1)))) (G.lift (idx x42 x29)) (G.pure 0)) fun x43 => G.cond ((decide (x41 < (-1))) || (decide ((a0.ja.length : Int) ≤ x43))) (G.pure (.inr (.inr false))) (G.pure (.inl (w64 (x29 + 1))))) (G.pure (.inr (.inl ())))) 0) fun o => match o with | .inl () => G.pure (.inl (w64 (x11 + 1))) | .inr r46 => G.pure (.inr (.inr r46)))) (G.pure (.inr (.inl ())))) 0) fun o => match o with | .inl () => G.pure true | .inr r50 => G.pure r50)
theorem Q5 {nn : Nat} {a0 : je} {r : Bool} (h0 : y7 a0 nn = some r) : PCall Try.prog 8 [jd a0] (· = B r) := by
 unfold y7 at h0
 refine PCall.intro' Try.func8 rfl Try.ntmps8 (by simp) fun W => ?_
 refine A1 0 (e_ (jd a0)) fun F f0 => ?_
 generalize PHeap.empty = H
 refine SR fun K1 hK1 => ?_
 refine Q3 (PV.rp (jd a0).cells) (zl f0 (qp _ _)) ?_
 refine Q1 _ (jg (e_ (B false))) ?_
 refine PL.nil (hK1 _ _ ?_)
 refine A1 1 (e_ (PV.rp (jd a0).cells)) fun F f1 => ?_
 refine PC.seq fun K2 hK2 => ?_
 refine PC.seq fun K3 hK3 => ?_
 refine PC.regionQ mixed (by kernel_rfl) ?_
 refine Q2 (PV.rp ((jd a0).cells.drop 0)) (j7 J6 yu (by decide) f1) ?_
 refine Q2 ((arV (n := 256) U8) a0.ji) (jw yu (e_ (PV.rp ((jd a0).cells.drop 0))) (yo a0)) ?_
 obtain ⟨x4, hx4, h0⟩ := bs h0
 refine Q4 (B x4) (j0 (by kernel_rfl) (am (e_ ((arV (n := 256) U8) a0.ji)) (am0)) (js (vg _ (fun _ => (.u _))) (j5)) (zgb hx4)) ?_
 refine Q2 (B (!x4)) (yj (e_ (B x4))) ?_
 refine Q2 _ (jc (e_ (B (!x4)))) ?_
 refine HF_ (PV.rp ((jd a0).cells.drop 256)) rfl (e_ (B (!x4))) (fun hb => j7 Jt qw (by decide) f1) ?_
 refine HF_ (I a0.jf) rfl (e_ (B (!x4))) (fun hb => jw qw (gvp hb (e_ (gv (!(!x4)) (PV.rp ((jd a0).cells.drop 256))))) (yw a0)) ?_
 refine HF_ (PV.rp ((jd a0).cells.drop 0)) rfl (e_ (B (!x4))) (fun hb => j7 J6 yu (by decide) f1) ?_
 refine HF_ ((arV (n := 256) U8) a0.ji) rfl (e_ (B (!x4))) (fun hb => jw yu (gvp hb (e_ (gv (!(!x4)) (PV.rp ((jd a0).cells.drop 0))))) (yo a0)) ?_
 obtain ⟨x5, hx5, h0⟩ := bs h0
 refine HFq (I x5) rfl (e_ (B (!x4))) (fun hb => j0 (by kernel_rfl) (am (gvp hb (e_ (gv (!(!x4)) ((arV (n := 256) U8) a0.ji)))) (am0)) (js (vg _ (fun _ => (.u _))) (j5)) (zf0 (G.cond_pos hx5 hb))) ?_
 refine HF_ (B (decide (¬ a0.jf = x5))) rfl (e_ (B (!x4))) (fun hb => jj rfl (gvp hb (e_ (gv (!(!x4)) (I a0.jf)))) (gvp hb (e_ (gv (!(!x4)) (I x5)))) vt) ?_
 refine Q2 (B ((!x4) || (decide (¬ a0.jf = x5)))) (yd (e_ (B (!x4))) rfl (e_ (gv (!(!x4)) (B (decide (¬ a0.jf = x5)))))) ?_
 refine Q2 _ (jc (e_ (B ((!x4) || (decide (¬ a0.jf = x5)))))) ?_
 refine HF_ (PV.rp ((jd a0).cells.drop 257)) rfl (e_ (B ((!x4) || (decide (¬ a0.jf = x5))))) (fun hb => j7 qz qb (by decide) f1) ?_
 refine HF_ (qi a0.ja) rfl (e_ (B ((!x4) || (decide (¬ a0.jf = x5))))) (fun hb => jw qb (gvp hb (e_ (gv (!((!x4) || (decide (¬ a0.jf = x5)))) (PV.rp ((jd a0).cells.drop 257))))) (qg a0)) ?_
 refine HF_ (I (a0.ja.length : Int)) rfl (e_ (B ((!x4) || (decide (¬ a0.jf = x5))))) (fun hb => qe (rep := slI) (xs := a0.ja) qu (gvp hb (e_ (gv (!((!x4) || (decide (¬ a0.jf = x5)))) (qi a0.ja))))) ?_
 refine HF_ (B (decide ((a0.ja.length : Int) = 0))) rfl (e_ (B ((!x4) || (decide (¬ a0.jf = x5))))) (fun hb => jj rfl (gvp hb (e_ (gv (!((!x4) || (decide (¬ a0.jf = x5)))) (I (a0.ja.length : Int))))) (e_ (I 0)) qc) ?_
 refine Q2 (B (((!x4) || (decide (¬ a0.jf = x5))) || (decide ((a0.ja.length : Int) = 0)))) (yd (e_ (B ((!x4) || (decide (¬ a0.jf = x5))))) rfl (e_ (gv (!((!x4) || (decide (¬ a0.jf = x5)))) (B (decide ((a0.ja.length : Int) = 0)))))) ?_
 refine Q2 _ (jc (e_ (B (((!x4) || (decide (¬ a0.jf = x5))) || (decide ((a0.ja.length : Int) = 0)))))) ?_
 refine HF_ (PV.rp ((jd a0).cells.drop 258)) rfl (e_ (B (((!x4) || (decide (¬ a0.jf = x5))) || (decide ((a0.ja.length : Int) = 0))))) (fun hb => j7 y4 qh (by decide) f1) ?_
 refine HF_ (slI a0.jk) rfl (e_ (B (((!x4) || (decide (¬ a0.jf = x5))) || (decide ((a0.ja.length : Int) = 0))))) (fun hb => jw qh (gvp hb (e_ (gv (!(((!x4) || (decide (¬ a0.jf = x5))) || (decide ((a0.ja.length : Int) = 0)))) (PV.rp ((jd a0).cells.drop 258))))) (vz a0)) ?_
 refine HF_ (I (a0.jk.length : Int)) rfl (e_ (B (((!x4) || (decide (¬ a0.jf = x5))) || (decide ((a0.ja.length : Int) = 0))))) (fun hb => qe (rep := I) (xs := a0.jk) qm (gvp hb (e_ (gv (!(((!x4) || (decide (¬ a0.jf = x5))) || (decide ((a0.ja.length : Int) = 0)))) (slI a0.jk))))) ?_
 refine HF_ (PV.rp ((jd a0).cells.drop 257)) rfl (e_ (B (((!x4) || (decide (¬ a0.jf = x5))) || (decide ((a0.ja.length : Int) = 0))))) (fun hb => j7 qz qb (by decide) f1) ?_
 refine HF_ (qi a0.ja) rfl (e_ (B (((!x4) || (decide (¬ a0.jf = x5))) || (decide ((a0.ja.length : Int) = 0))))) (fun hb => jw qb (gvp hb (e_ (gv (!(((!x4) || (decide (¬ a0.jf = x5))) || (decide ((a0.ja.length : Int) = 0)))) (PV.rp ((jd a0).cells.drop 257))))) (qg a0)) ?_
 refine HF_ (I (a0.ja.length : Int)) rfl (e_ (B (((!x4) || (decide (¬ a0.jf = x5))) || (decide ((a0.ja.length : Int) = 0))))) (fun hb => qe (rep := slI) (xs := a0.ja) qu (gvp hb (e_ (gv (!(((!x4) || (decide (¬ a0.jf = x5))) || (decide ((a0.ja.length : Int) = 0)))) (qi a0.ja))))) ?_
 refine HF_ (B (decide (¬ (a0.jk.length : Int) = (a0.ja.length : Int)))) rfl (e_ (B (((!x4) || (decide (¬ a0.jf = x5))) || (decide ((a0.ja.length : Int) = 0))))) (fun hb => jj rfl (gvp hb (e_ (gv (!(((!x4) || (decide (¬ a0.jf = x5))) || (decide ((a0.ja.length : Int) = 0)))) (I (a0.jk.length : Int))))) (gvp hb (e_ (gv (!(((!x4) || (decide (¬ a0.jf = x5))) || (decide ((a0.ja.length : Int) = 0)))) (I (a0.ja.length : Int))))) vt) ?_
 refine Q2 (B ((((!x4) || (decide (¬ a0.jf = x5))) || (decide ((a0.ja.length : Int) = 0))) || (decide (¬ (a0.jk.length : Int) = (a0.ja.length : Int))))) (yd (e_ (B (((!x4) || (decide (¬ a0.jf = x5))) || (decide ((a0.ja.length : Int) = 0))))) rfl (e_ (gv (!(((!x4) || (decide (¬ a0.jf = x5))) || (decide ((a0.ja.length : Int) = 0)))) (B (decide (¬ (a0.jk.length : Int) = (a0.ja.length : Int))))))) ?_
 refine QF.nil ?_
 refine hK3 _ _ ?_
 refine A2 1 f1 31 (e_ (B ((((!x4) || (decide (¬ a0.jf = x5))) || (decide ((a0.ja.length : Int) = 0))) || (decide (¬ (a0.jk.length : Int) = (a0.ja.length : Int)))))) fun F f1 f31 => ?_
 rcases cz h0 with ⟨hb6, h0⟩ | ⟨hb6, h0⟩
 refine PC.condTb f31 hb6 ?_
 refine SR fun K7 hK7 => ?_
 refine Q1 _ (jg (e_ (B false))) ?_
 refine PL.nil (hK7 _ _ ?_)
 refine A1 2 (e_ (B false)) fun F f2 => ?_
 refine PC.ret ?_
 have h0 := pz h0
 subst h0
 exact fin (.inr rfl) (qa Try.results8 f2) (.u _)
 refine PC.condFb f31 hb6 ?_
 refine PC.skip ?_
 refine hK2 _ _ ?_
 refine A1 1 f1 fun F f1 => ?_
 refine PC.seq fun K8 hK8 => ?_
 refine SR fun K9 hK9 => ?_
 refine Q1 _ (jg (e_ (I 0))) ?_
 refine PL.nil (hK9 _ _ ?_)
 refine A2 1 f1 3 (e_ (I 0)) fun F f1 f3 => ?_
 refine PC.block ?_
 obtain ⟨o12, ho12, h0⟩ := bs h0
 obtain ⟨B13, hB13, ho12⟩ := G.loop_some ho12
 refine PC.loop (fun m16 F H => ∃ s51 : Int, qx B13 m16 s51 = some o12 ∧ F 1 = (PV.rp (jd a0).cells) ∧ F 3 = (I s51)) (m := nn) ⟨0, ho12, f1, f3⟩ fun m16 F H hI => ?_
 obtain ⟨x11, ho12, f1, f3⟩ := hI
 obtain ⟨m16, rfl, st14, hs15, ho12⟩ := jv ho12
 rw [hB13] at hs15
 try dsimp only at hs15
 refine PC.seq fun K17 hK17 => ?_
 refine SR fun K18 hK18 => ?_
 refine Q1 _ (jc f3) ?_
 refine Q1 (PV.rp ((jd a0).cells.drop 257)) (j7 qz qb (by decide) f1) ?_
 refine Q1 (qi a0.ja) (jw qb (e_ (PV.rp ((jd a0).cells.drop 257))) (qg a0)) ?_
 refine Q1 (I (a0.ja.length : Int)) (qe (rep := slI) (xs := a0.ja) qu (e_ (qi a0.ja))) ?_
 refine Q1 _ (jj rfl (e_ (I x11)) (e_ (I (a0.ja.length : Int))) ju) ?_
 refine PL.nil (hK18 _ _ ?_)
 refine A3 1 f1 3 f3 36 (e_ (B (decide (x11 < (a0.ja.length : Int))))) fun F f1 f3 f36 => ?_
 rcases cz hs15 with ⟨hb19, hs15⟩ | ⟨hb19, hs15⟩
 refine PC.condTb f36 hb19 ?_
 refine PC.skip ?_
 refine hK17 _ _ ?_
 refine A2 1 f1 3 f3 fun F f1 f3 => ?_
 refine PC.seq fun K20 hK20 => ?_
 refine PC.block ?_
 refine PC.seq fun K21 hK21 => ?_
 refine PC.seq fun K22 hK22 => ?_
 refine PC.regionQ mixed (by kernel_rfl) ?_
 refine Q2 (PV.rp ((jd a0).cells.drop 257)) (j7 qz qb (by decide) f1) ?_
 refine Q2 (qi a0.ja) (jw qb (e_ (PV.rp ((jd a0).cells.drop 257))) (qg a0)) ?_
 refine Q2 _ (jc f3) ?_
 obtain ⟨x23, hx23, hs15⟩ := bs hs15
 refine Q2 (PV.rp (slI x23).cells) (j3 (rep := slI) (xs := a0.ja) Jr (e_ (qi a0.ja)) (e_ (I x11)) hx23) ?_
 refine Q2 (slI x23) (qo qh (e_ (PV.rp (slI x23).cells))) ?_
 refine Q2 (I (x23.length : Int)) (qe (rep := I) (xs := x23) qm (e_ (slI x23))) ?_
 refine Q2 (PV.rp ((jd a0).cells.drop 256)) (j7 Jt qw (by decide) f1) ?_
 refine Q2 (I a0.jf) (jw qw (e_ (PV.rp ((jd a0).cells.drop 256))) (yw a0)) ?_
 refine Q2 _ (jj rfl (e_ (I (x23.length : Int))) (e_ (I a0.jf)) vt) ?_
 refine Q2 _ (jc (e_ (B (decide (¬ (x23.length : Int) = a0.jf))))) ?_
 refine HF_ (PV.rp ((jd a0).cells.drop 258)) rfl (e_ (B (decide (¬ (x23.length : Int) = a0.jf)))) (fun hb => j7 y4 qh (by decide) f1) ?_
 refine HF_ (slI a0.jk) rfl (e_ (B (decide (¬ (x23.length : Int) = a0.jf)))) (fun hb => jw qh (gvp hb (e_ (gv (!(decide (¬ (x23.length : Int) = a0.jf))) (PV.rp ((jd a0).cells.drop 258))))) (vz a0)) ?_
 refine HF_ (I x11) rfl (e_ (B (decide (¬ (x23.length : Int) = a0.jf)))) (fun hb => jc f3) ?_
 obtain ⟨x24, hx24, hs15⟩ := bs hs15
 refine HF_ (PV.rp (I x24).cells) rfl (e_ (B (decide (¬ (x23.length : Int) = a0.jf)))) (fun hb => j3 (rep := I) (xs := a0.jk) vq (gvp hb (e_ (gv (!(decide (¬ (x23.length : Int) = a0.jf))) (slI a0.jk)))) (gvp hb (e_ (gv (!(decide (¬ (x23.length : Int) = a0.jf))) (I x11)))) (G.cond_pos hx24 hb)) ?_
 refine HF_ (I x24) rfl (e_ (B (decide (¬ (x23.length : Int) = a0.jf)))) (fun hb => qo qw (gvp hb (e_ (gv (!(decide (¬ (x23.length : Int) = a0.jf))) (PV.rp (I x24).cells))))) ?_
 refine HF_ (B (decide (x24 < (-1)))) rfl (e_ (B (decide (¬ (x23.length : Int) = a0.jf)))) (fun hb => jj rfl (gvp hb (e_ (gv (!(decide (¬ (x23.length : Int) = a0.jf))) (I x24)))) (e_ (I (-1))) ju) ?_
 refine Q2 (B ((decide (¬ (x23.length : Int) = a0.jf)) || (decide (x24 < (-1))))) (yd (e_ (B (decide (¬ (x23.length : Int) = a0.jf)))) rfl (e_ (gv (!(decide (¬ (x23.length : Int) = a0.jf))) (B (decide (x24 < (-1))))))) ?_
 refine QF.nil ?_
 refine hK22 _ _ ?_
 refine A3 1 f1 3 f3 55 (e_ (B ((decide (¬ (x23.length : Int) = a0.jf)) || (decide (x24 < (-1)))))) fun F f1 f3 f55 => ?_
 rcases cz hs15 with ⟨hb25, hs15⟩ | ⟨hb25, hs15⟩
 refine PC.condTb f55 hb25 ?_
 refine SR fun K26 hK26 => ?_
 refine Q1 _ (jg (e_ (B false))) ?_
 refine PL.nil (hK26 _ _ ?_)
 refine A1 2 (e_ (B false)) fun F f2 => ?_
 have hs15 := pz hs15
 subst hs15
 try dsimp only at ho12
 subst ho12
 try dsimp only at h0
 refine PC.ret ?_
 have h0 := pz h0
 subst h0
 exact fin (.inr rfl) (qa Try.results8 f2) (.u _)
 refine PC.condFb f55 hb25 ?_
 refine PC.skip ?_
 refine hK21 _ _ ?_
 refine A2 1 f1 3 f3 fun F f1 f3 => ?_
 refine SR fun K27 hK27 => ?_
 refine Q1 _ (jg (e_ (I 0))) ?_
 refine PL.nil (hK27 _ _ ?_)
 refine A3 1 f1 3 f3 4 (e_ (I 0)) fun F f1 f3 f4 => ?_
 refine PC.block ?_
 obtain ⟨o30, ho30, hs15⟩ := bs hs15
 obtain ⟨B31, hB31, ho30⟩ := G.loop_some ho30
 refine PC.loop (fun m34 F H => ∃ s47 : Int, qx B31 m34 s47 = some o30 ∧ F 1 = (PV.rp (jd a0).cells) ∧ F 3 = (I x11) ∧ F 4 = (I s47)) (m := nn) ⟨0, ho30, f1, f3, f4⟩ fun m34 F H hI => ?_
 obtain ⟨x29, ho30, f1, f3, f4⟩ := hI
 obtain ⟨m34, rfl, st32, hs33, ho30⟩ := jv ho30
 rw [hB31] at hs33
 try dsimp only at hs33
 refine PC.seq fun K35 hK35 => ?_
 refine SR fun K36 hK36 => ?_
 refine Q1 _ (jc f4) ?_
 refine Q1 (PV.rp ((jd a0).cells.drop 256)) (j7 Jt qw (by decide) f1) ?_
 refine Q1 (I a0.jf) (jw qw (e_ (PV.rp ((jd a0).cells.drop 256))) (yw a0)) ?_
 refine Q1 _ (jj rfl (e_ (I x29)) (e_ (I a0.jf)) ju) ?_
 refine PL.nil (hK36 _ _ ?_)
 refine A4 1 f1 3 f3 4 f4 59 (e_ (B (decide (x29 < a0.jf)))) fun F f1 f3 f4 f59 => ?_
 rcases cz hs33 with ⟨hb37, hs33⟩ | ⟨hb37, hs33⟩
 refine PC.condTb f59 hb37 ?_
 refine PC.skip ?_
 refine hK35 _ _ ?_
 refine A3 1 f1 3 f3 4 f4 fun F f1 f3 f4 => ?_
 refine PC.seq fun K38 hK38 => ?_
 refine PC.block ?_
 refine PC.seq fun K39 hK39 => ?_
 refine PC.regionQ mixed (by kernel_rfl) ?_
 refine Q2 (PV.rp ((jd a0).cells.drop 257)) (j7 qz qb (by decide) f1) ?_
 refine Q2 (qi a0.ja) (jw qb (e_ (PV.rp ((jd a0).cells.drop 257))) (qg a0)) ?_
 refine Q2 _ (jc f3) ?_
 obtain ⟨x40, hx40, hs33⟩ := bs hs33
 refine Q2 (PV.rp (slI x40).cells) (j3 (rep := slI) (xs := a0.ja) Jr (e_ (qi a0.ja)) (e_ (I x11)) hx40) ?_
 refine Q2 (slI x40) (qo qh (e_ (PV.rp (slI x40).cells))) ?_
 refine Q2 _ (jc f4) ?_
 obtain ⟨x41, hx41, hs33⟩ := bs hs33
 refine Q2 (PV.rp (I x41).cells) (j3 (rep := I) (xs := x40) vq (e_ (slI x40)) (e_ (I x29)) hx41) ?_
 refine Q2 (I x41) (qo qw (e_ (PV.rp (I x41).cells))) ?_
 refine Q2 _ (jj rfl (e_ (I x41)) (e_ (I (-1))) ju) ?_
 refine Q2 _ (jc (e_ (B (decide (x41 < (-1)))))) ?_
 refine HF_ (PV.rp ((jd a0).cells.drop 257)) rfl (e_ (B (decide (x41 < (-1))))) (fun hb => j7 qz qb (by decide) f1) ?_
 refine HF_ (qi a0.ja) rfl (e_ (B (decide (x41 < (-1))))) (fun hb => jw qb (gvp hb (e_ (gv (!(decide (x41 < (-1)))) (PV.rp ((jd a0).cells.drop 257))))) (qg a0)) ?_
 refine HF_ (I x11) rfl (e_ (B (decide (x41 < (-1))))) (fun hb => jc f3) ?_
 obtain ⟨x42, hx42, hs33⟩ := bs hs33
 refine HF_ (PV.rp (slI x42).cells) rfl (e_ (B (decide (x41 < (-1))))) (fun hb => j3 (rep := slI) (xs := a0.ja) Jr (gvp hb (e_ (gv (!(decide (x41 < (-1)))) (qi a0.ja)))) (gvp hb (e_ (gv (!(decide (x41 < (-1)))) (I x11)))) (G.cond_pos hx42 hb)) ?_
 refine HF_ (slI x42) rfl (e_ (B (decide (x41 < (-1))))) (fun hb => qo qh (gvp hb (e_ (gv (!(decide (x41 < (-1)))) (PV.rp (slI x42).cells))))) ?_
 refine HF_ (I x29) rfl (e_ (B (decide (x41 < (-1))))) (fun hb => jc f4) ?_
 obtain ⟨x43, hx43, hs33⟩ := bs hs33
 refine HF_ (PV.rp (I x43).cells) rfl (e_ (B (decide (x41 < (-1))))) (fun hb => j3 (rep := I) (xs := x42) vq (gvp hb (e_ (gv (!(decide (x41 < (-1)))) (slI x42)))) (gvp hb (e_ (gv (!(decide (x41 < (-1)))) (I x29)))) (G.cond_pos hx43 hb)) ?_
 refine HF_ (I x43) rfl (e_ (B (decide (x41 < (-1))))) (fun hb => qo qw (gvp hb (e_ (gv (!(decide (x41 < (-1)))) (PV.rp (I x43).cells))))) ?_
 refine HF_ (PV.rp ((jd a0).cells.drop 257)) rfl (e_ (B (decide (x41 < (-1))))) (fun hb => j7 qz qb (by decide) f1) ?_
 refine HF_ (qi a0.ja) rfl (e_ (B (decide (x41 < (-1))))) (fun hb => jw qb (gvp hb (e_ (gv (!(decide (x41 < (-1)))) (PV.rp ((jd a0).cells.drop 257))))) (qg a0)) ?_
 refine HF_ (I (a0.ja.length : Int)) rfl (e_ (B (decide (x41 < (-1))))) (fun hb => qe (rep := slI) (xs := a0.ja) qu (gvp hb (e_ (gv (!(decide (x41 < (-1)))) (qi a0.ja))))) ?_
 refine HF_ (B (decide ((a0.ja.length : Int) ≤ x43))) rfl (e_ (B (decide (x41 < (-1))))) (fun hb => jj rfl (gvp hb (e_ (gv (!(decide (x41 < (-1)))) (I x43)))) (gvp hb (e_ (gv (!(decide (x41 < (-1)))) (I (a0.ja.length : Int))))) vx) ?_
 refine Q2 (B ((decide (x41 < (-1))) || (decide ((a0.ja.length : Int) ≤ x43)))) (yd (e_ (B (decide (x41 < (-1))))) rfl (e_ (gv (!(decide (x41 < (-1)))) (B (decide ((a0.ja.length : Int) ≤ x43)))))) ?_
 refine QF.nil ?_
 refine hK39 _ _ ?_
 refine A4 1 f1 3 f3 4 f4 84 (e_ (B ((decide (x41 < (-1))) || (decide ((a0.ja.length : Int) ≤ x43))))) fun F f1 f3 f4 f84 => ?_
 rcases cz hs33 with ⟨hb44, hs33⟩ | ⟨hb44, hs33⟩
 refine PC.condTb f84 hb44 ?_
 refine SR fun K45 hK45 => ?_
 refine Q1 _ (jg (e_ (B false))) ?_
 refine PL.nil (hK45 _ _ ?_)
 refine A1 2 (e_ (B false)) fun F f2 => ?_
 have hs33 := pz hs33
 subst hs33
 try dsimp only at ho30
 subst ho30
 try dsimp only at hs15
 have hs15 := pz hs15
 subst hs15
 try dsimp only at ho12
 subst ho12
 try dsimp only at h0
 refine PC.ret ?_
 have h0 := pz h0
 subst h0
 exact fin (.inr rfl) (qa Try.results8 f2) (.u _)
 refine PC.condFb f84 hb44 ?_
 refine PC.skip ?_
 refine hK38 _ _ ?_
 refine A3 1 f1 3 f3 4 f4 fun F f1 f3 f4 => ?_
 refine PC.region ?_
 refine Q1 _ (jc f4) ?_
 refine Q1 _ (jj rfl (e_ (I x29)) (e_ (I 1)) j8) ?_
 refine Q1 _ (jg (e_ (I (w64 (x29 + 1))))) ?_
 refine PL.nil ?_
 have hs33 := pz hs33
 subst hs33
 exact ⟨m34, Nat.lt_succ_self _, (w64 (x29 + 1)), ho30, f1, f3, (e_ (I (w64 (x29 + 1))))⟩
 refine PC.condFb f59 hb37 ?_
 refine PC.exit ?_
 have hs33 := pz hs33
 subst hs33
 try dsimp only at ho30
 subst ho30
 try dsimp only at hs15
 refine hK20 _ _ ?_
 refine A2 1 f1 3 f3 fun F f1 f3 => ?_
 refine PC.region ?_
 refine Q1 _ (jc f3) ?_
 refine Q1 _ (jj rfl (e_ (I x11)) (e_ (I 1)) j8) ?_
 refine Q1 _ (jg (e_ (I (w64 (x11 + 1))))) ?_
 refine PL.nil ?_
 have hs15 := pz hs15
 subst hs15
 exact ⟨m16, Nat.lt_succ_self _, (w64 (x11 + 1)), ho12, f1, (e_ (I (w64 (x11 + 1))))⟩
 refine PC.condFb f36 hb19 ?_
 refine PC.exit ?_
 have hs15 := pz hs15
 subst hs15
 try dsimp only at ho12
 subst ho12
 try dsimp only at h0
 refine hK8 _ _ ?_
 refine PC.absF (fun F => True) trivial ?_
 intro F hI
 clear hI
 refine SR fun K48 hK48 => ?_
 refine Q1 _ (jg (e_ (B true))) ?_
 refine PL.nil (hK48 _ _ ?_)
 refine A1 2 (e_ (B true)) fun F f2 => ?_
 refine PC.ret ?_
 have h0 := pz h0
 subst h0
 exact fin (.inr rfl) (qa Try.results8 f2) (.u _)
def Vb (a0 : je) (a1 : ByteArray) : G Int :=
  G.bind (y7 a0) fun x4 => G.cond (!x4) (G.pure (-1)) (G.bind (G.loop (σ := (Int × Int)) (α := Int) (fun (x12, x13) => G.cond ((decide (x13 < (a1.size : Int))) && (decide (0 ≤ x12))) (G.bind (G.lift (idx a0.ja x12)) fun x23 => G.bind (G.lift (Ym a1 x13)) fun x24 => G.bind (G.lift (idx a0.ji.1 x24)) fun x25 => G.bind (G.lift (idx x23 x25)) fun x26 => G.pure (.inl (x26, (w64 (x13 + 1))))) (G.pure (.inr x12))) (0, 0)) fun x28 => G.pure x28)
theorem zc8 {nn : Nat} {a0 : je} {a1 : ByteArray} {r : Int} (h0 : Vb a0 a1 nn = some r) : PCall Try.prog 10 [jd a0, S a1] (· = I r) := by
 unfold Vb at h0
 refine PCall.intro' Try.func10 rfl Try.ntmps10 (by simp) fun W => ?_
 refine A2 0 (e_ (jd a0)) 1 (e_ (S a1)) fun F f0 f1 => ?_
 generalize PHeap.empty = H
 refine SR fun K1 hK1 => ?_
 refine Q3 (PV.rp (jd a0).cells) (zl f0 (qp _ _)) ?_
 refine Q1 _ (jg (e_ (I 0))) ?_
 refine PL.nil (hK1 _ _ ?_)
 refine A2 1 f1 2 (e_ (PV.rp (jd a0).cells)) fun F f1 f2 => ?_
 refine PC.seq fun K2 hK2 => ?_
 refine SR fun K3 hK3 => ?_
 refine Q1 (jd a0) (v8 vp f2 (j6 _)) ?_
 obtain ⟨x4, hx4, h0⟩ := bs h0
 refine Q3 (B x4) (j0 (by kernel_rfl) (am (e_ (jd a0)) (am0)) (js (j2 _) (j5)) (Q5 hx4)) ?_
 refine Q1 (B (!x4)) (yj (e_ (B x4))) ?_
 refine PL.nil (hK3 _ _ ?_)
 refine A3 1 f1 2 f2 9 (e_ (B (!x4))) fun F f1 f2 f9 => ?_
 rcases cz h0 with ⟨hb5, h0⟩ | ⟨hb5, h0⟩
 refine PC.condTb f9 hb5 ?_
 refine SR fun K6 hK6 => ?_
 refine Q1 _ (jg (e_ (I (-1)))) ?_
 refine PL.nil (hK6 _ _ ?_)
 refine A1 4 (e_ (I (-1))) fun F f4 => ?_
 refine PC.ret ?_
 have h0 := pz h0
 subst h0
 exact fin (.inr rfl) (qa Try.results10 f4) (.u _)
 refine PC.condFb f9 hb5 ?_
 refine PC.skip ?_
 refine hK2 _ _ ?_
 refine A2 1 f1 2 f2 fun F f1 f2 => ?_
 refine SR fun K7 hK7 => ?_
 refine Q1 _ (jg (e_ (I 0))) ?_
 refine PL.nil (hK7 _ _ ?_)
 refine A3 1 f1 2 f2 5 (e_ (I 0)) fun F f1 f2 f5 => ?_
 refine PC.seq fun K8 hK8 => ?_
 refine SR fun K9 hK9 => ?_
 refine Q1 _ (jg (e_ (I 0))) ?_
 refine PL.nil (hK9 _ _ ?_)
 refine A4 1 f1 2 f2 5 f5 6 (e_ (I 0)) fun F f1 f2 f5 f6 => ?_
 refine PC.block ?_
 obtain ⟨o14, ho14, h0⟩ := bs h0
 obtain ⟨B15, hB15, ho14⟩ := G.loop_some ho14
 refine PC.loop (fun m18 F H => ∃ s30 : (Int × Int), qx B15 m18 s30 = some o14 ∧ F 1 = (S a1) ∧ F 2 = (PV.rp (jd a0).cells) ∧ F 5 = (I s30.1) ∧ F 6 = (I s30.2)) (m := nn) ⟨(0, 0), ho14, f1, f2, f5, f6⟩ fun m18 F H hI => ?_
 obtain ⟨⟨x12, x13⟩, ho14, f1, f2, f5, f6⟩ := hI
 obtain ⟨m18, rfl, st16, hs17, ho14⟩ := jv ho14
 rw [hB15] at hs17
 try dsimp only at hs17
 refine PC.seq fun K19 hK19 => ?_
 refine SR fun K20 hK20 => ?_
 refine Q1 _ (jc f6) ?_
 refine Q1 _ (jc f1) ?_
 refine Q1 (I (a1.size : Int)) (yy qr (e_ (S a1))) ?_
 refine Q1 _ (jj rfl (e_ (I x13)) (e_ (I (a1.size : Int))) ju) ?_
 refine Q1 _ (jc (e_ (B (decide (x13 < (a1.size : Int)))))) ?_
 refine GT (I x12) rfl (e_ (B (decide (x13 < (a1.size : Int))))) (fun hb => jc f5) ?_
 refine GT (B (decide (0 ≤ x12))) rfl (e_ (B (decide (x13 < (a1.size : Int))))) (fun hb => jj rfl (gvp hb (e_ (gv (decide (x13 < (a1.size : Int))) (I x12)))) (e_ (I 0)) vx) ?_
 refine Q1 (B ((decide (x13 < (a1.size : Int))) && (decide (0 ≤ x12)))) (vy (e_ (B (decide (x13 < (a1.size : Int))))) (e_ (gv (decide (x13 < (a1.size : Int))) (B (decide (0 ≤ x12))))) rfl) ?_
 refine PL.nil (hK20 _ _ ?_)
 refine A5 1 f1 2 f2 5 f5 6 f6 17 (e_ (B ((decide (x13 < (a1.size : Int))) && (decide (0 ≤ x12))))) fun F f1 f2 f5 f6 f17 => ?_
 rcases cz hs17 with ⟨hb21, hs17⟩ | ⟨hb21, hs17⟩
 refine PC.condTb f17 hb21 ?_
 refine PC.skip ?_
 refine hK19 _ _ ?_
 refine A4 1 f1 2 f2 5 f5 6 f6 fun F f1 f2 f5 f6 => ?_
 refine PC.seq fun K22 hK22 => ?_
 refine PC.block ?_
 refine PC.regionQ mixed (by kernel_rfl) ?_
 refine Q2 (PV.rp ((jd a0).cells.drop 257)) (j7 qz qb (by decide) f2) ?_
 refine Q2 (qi a0.ja) (jw qb (e_ (PV.rp ((jd a0).cells.drop 257))) (qg a0)) ?_
 refine Q2 _ (jc f5) ?_
 obtain ⟨x23, hx23, hs17⟩ := bs hs17
 refine Q2 (PV.rp (slI x23).cells) (j3 (rep := slI) (xs := a0.ja) Jr (e_ (qi a0.ja)) (e_ (I x12)) hx23) ?_
 refine Q2 (slI x23) (qo qh (e_ (PV.rp (slI x23).cells))) ?_
 refine Q2 _ (jc f1) ?_
 refine Q2 _ (jc f6) ?_
 obtain ⟨x24, hx24, hs17⟩ := bs hs17
 refine Q2 (U8 x24) (yn qr (e_ (S a1)) (e_ (I x13)) hx24) ?_
 refine Q2 (PV.rp ((jd a0).cells.drop 0)) (j7 J6 yu (by decide) f2) ?_
 obtain ⟨x25, hx25, hs17⟩ := bs hs17
 refine Q2 (PV.rp (((jd a0).cells.drop 0).drop ((x24 : Int).toNat * 1))) (zms (rep := U8) (a := a0.ji) (yo a0) Yu (e_ (PV.rp ((jd a0).cells.drop 0))) (e_ (U8 x24)) hx25) ?_
 refine Q2 (U8 x25) (jw Z2 (e_ (PV.rp (((jd a0).cells.drop 0).drop ((x24 : Int).toNat * 1)))) (zmh (yo a0) hx25)) ?_
 obtain ⟨x26, hx26, hs17⟩ := bs hs17
 refine Q2 (PV.rp (I x26).cells) (j3 (rep := I) (xs := x23) vq (e_ (slI x23)) (e_ (U8 x25)) hx26) ?_
 refine Q2 (I x26) (qo qw (e_ (PV.rp (I x26).cells))) ?_
 refine Q2 _ (jg (e_ (I x26))) ?_
 refine QF.nil ?_
 refine hK22 _ _ ?_
 refine A4 1 f1 2 f2 5 (e_ (I x26)) 6 f6 fun F f1 f2 f5 f6 => ?_
 refine PC.region ?_
 refine Q1 _ (jc f6) ?_
 refine Q1 _ (jj rfl (e_ (I x13)) (e_ (I 1)) j8) ?_
 refine Q1 _ (jg (e_ (I (w64 (x13 + 1))))) ?_
 refine PL.nil ?_
 have hs17 := pz hs17
 subst hs17
 exact ⟨m18, Nat.lt_succ_self _, (x26, (w64 (x13 + 1))), ho14, f1, f2, f5, (e_ (I (w64 (x13 + 1))))⟩
 refine PC.condFb f17 hb21 ?_
 refine PC.exit ?_
 have hs17 := pz hs17
 subst hs17
 try dsimp only at ho14
 subst ho14
 try dsimp only at h0
 refine hK8 _ _ ?_
 refine A1 5 f5 fun F f5 => ?_
 refine SR fun K27 hK27 => ?_
 refine Q1 _ (jc f5) ?_
 refine Q1 _ (jg (e_ (I x12))) ?_
 refine PL.nil (hK27 _ _ ?_)
 refine A1 4 (e_ (I x12)) fun F f4 => ?_
 refine PC.ret ?_
 have h0 := pz h0
 subst h0
 exact fin (.inr rfl) (qa Try.results10 f4) (.u _)
def Jv (a0 : je) (a1 : Int) : G Int :=
  G.bind (y7 a0) fun x4 => G.cond (((!x4) || (decide (a1 < 0))) || (decide ((a0.jk.length : Int) ≤ a1))) (G.pure (-1)) (G.bind (G.lift (idx a0.jk a1)) fun x8 => G.pure x8)
theorem zbk {nn : Nat} {a0 : je} {a1 : Int} {r : Int} (h0 : Jv a0 a1 nn = some r) : PCall Try.prog 9 [jd a0, I a1] (· = I r) := by
 unfold Jv at h0
 refine PCall.intro' Try.func9 rfl Try.ntmps9 (by simp) fun W => ?_
 refine A2 0 (e_ (jd a0)) 1 (e_ (I a1)) fun F f0 f1 => ?_
 generalize PHeap.empty = H
 refine SR fun K1 hK1 => ?_
 refine Q3 (PV.rp (jd a0).cells) (zl f0 (qp _ _)) ?_
 refine Q1 _ (jg (e_ (I 0))) ?_
 refine PL.nil (hK1 _ _ ?_)
 refine A2 1 f1 2 (e_ (PV.rp (jd a0).cells)) fun F f1 f2 => ?_
 refine PC.seq fun K2 hK2 => ?_
 refine SR fun K3 hK3 => ?_
 refine Q1 (jd a0) (v8 vp f2 (j6 _)) ?_
 obtain ⟨x4, hx4, h0⟩ := bs h0
 refine Q3 (B x4) (j0 (by kernel_rfl) (am (e_ (jd a0)) (am0)) (js (j2 _) (j5)) (Q5 hx4)) ?_
 refine Q1 (B (!x4)) (yj (e_ (B x4))) ?_
 refine Q1 _ (jc (e_ (B (!x4)))) ?_
 refine GF (I a1) rfl (e_ (B (!x4))) (fun hb => jc f1) ?_
 refine GF (B (decide (a1 < 0))) rfl (e_ (B (!x4))) (fun hb => jj rfl (gvp hb (e_ (gv (!(!x4)) (I a1)))) (e_ (I 0)) ju) ?_
 refine Q1 (B ((!x4) || (decide (a1 < 0)))) (yd (e_ (B (!x4))) rfl (e_ (gv (!(!x4)) (B (decide (a1 < 0)))))) ?_
 refine Q1 _ (jc (e_ (B ((!x4) || (decide (a1 < 0)))))) ?_
 refine GF (I a1) rfl (e_ (B ((!x4) || (decide (a1 < 0))))) (fun hb => jc f1) ?_
 refine GF (PV.rp ((jd a0).cells.drop 258)) rfl (e_ (B ((!x4) || (decide (a1 < 0))))) (fun hb => j7 y4 qh (by decide) f2) ?_
 refine GF (slI a0.jk) rfl (e_ (B ((!x4) || (decide (a1 < 0))))) (fun hb => jw qh (gvp hb (e_ (gv (!((!x4) || (decide (a1 < 0)))) (PV.rp ((jd a0).cells.drop 258))))) (vz a0)) ?_
 refine GF (I (a0.jk.length : Int)) rfl (e_ (B ((!x4) || (decide (a1 < 0))))) (fun hb => qe (rep := I) (xs := a0.jk) qm (gvp hb (e_ (gv (!((!x4) || (decide (a1 < 0)))) (slI a0.jk))))) ?_
 refine GF (B (decide ((a0.jk.length : Int) ≤ a1))) rfl (e_ (B ((!x4) || (decide (a1 < 0))))) (fun hb => jj rfl (gvp hb (e_ (gv (!((!x4) || (decide (a1 < 0)))) (I a1)))) (gvp hb (e_ (gv (!((!x4) || (decide (a1 < 0)))) (I (a0.jk.length : Int))))) vx) ?_
 refine Q1 (B (((!x4) || (decide (a1 < 0))) || (decide ((a0.jk.length : Int) ≤ a1)))) (yd (e_ (B ((!x4) || (decide (a1 < 0))))) rfl (e_ (gv (!((!x4) || (decide (a1 < 0)))) (B (decide ((a0.jk.length : Int) ≤ a1)))))) ?_
 refine PL.nil (hK3 _ _ ?_)
 refine A3 1 f1 2 f2 18 (e_ (B (((!x4) || (decide (a1 < 0))) || (decide ((a0.jk.length : Int) ≤ a1))))) fun F f1 f2 f18 => ?_
 rcases cz h0 with ⟨hb5, h0⟩ | ⟨hb5, h0⟩
 refine PC.condTb f18 hb5 ?_
 refine SR fun K6 hK6 => ?_
 refine Q1 _ (jg (e_ (I (-1)))) ?_
 refine PL.nil (hK6 _ _ ?_)
 refine A1 4 (e_ (I (-1))) fun F f4 => ?_
 refine PC.ret ?_
 have h0 := pz h0
 subst h0
 exact fin (.inr rfl) (qa Try.results9 f4) (.u _)
 refine PC.condFb f18 hb5 ?_
 refine PC.skip ?_
 refine hK2 _ _ ?_
 refine A2 1 f1 2 f2 fun F f1 f2 => ?_
 refine SR fun K7 hK7 => ?_
 refine Q1 (PV.rp ((jd a0).cells.drop 258)) (j7 y4 qh (by decide) f2) ?_
 refine Q1 (slI a0.jk) (jw qh (e_ (PV.rp ((jd a0).cells.drop 258))) (vz a0)) ?_
 refine Q1 _ (jc f1) ?_
 obtain ⟨x8, hx8, h0⟩ := bs h0
 refine Q1 (PV.rp (I x8).cells) (j3 (rep := I) (xs := a0.jk) vq (e_ (slI a0.jk)) (e_ (I a1)) hx8) ?_
 refine Q1 (I x8) (qo qw (e_ (PV.rp (I x8).cells))) ?_
 refine Q1 _ (jg (e_ (I x8))) ?_
 refine PL.nil (hK7 _ _ ?_)
 refine A1 4 (e_ (I x8)) fun F f4 => ?_
 refine PC.ret ?_
 have h0 := pz h0
 subst h0
 exact fin (.inr rfl) (qa Try.results9 f4) (.u _)
def Vj (a0 : je) (a1 : je) : G Bool :=
  G.bind (G.cond (!(((!(a0.ji.1 == a1.ji.1)) || (decide (¬ a0.jf = a1.jf))) || (decide (¬ (a0.ja.length : Int) = (a1.ja.length : Int))))) (zm a0.jk a1.jk) (G.pure false)) fun x4 => G.cond ((((!(a0.ji.1 == a1.ji.1)) || (decide (¬ a0.jf = a1.jf))) || (decide (¬ (a0.ja.length : Int) = (a1.ja.length : Int)))) || (!x4)) (G.pure false) (G.bind (G.loop (σ := Int) (α := Unit ⊕ Bool) (fun x10 => G.cond (decide (x10 < (a0.ja.length : Int))) (G.bind (G.lift (idx a0.ja x10)) fun x21 => G.bind (G.lift (idx a1.ja x10)) fun x22 => G.bind (zm x21 x22) fun x23 => G.cond (!x23) (G.pure (.inr (.inr false))) (G.pure (.inl (w64 (x10 + 1))))) (G.pure (.inr (.inl ())))) 0) fun o => match o with | .inl () => G.pure true | .inr r28 => G.pure r28)
theorem zho {nn : Nat} {a0 : je} {a1 : je} {r : Bool} (h0 : Vj a0 a1 nn = some r) : PCall Try.prog 13 [jd a0, jd a1] (· = B r) := by
 unfold Vj at h0
 refine PCall.intro' Try.func13 rfl Try.ntmps13 (by simp) fun W => ?_
 refine A2 0 (e_ (jd a0)) 1 (e_ (jd a1)) fun F f0 f1 => ?_
 generalize PHeap.empty = H
 refine SR fun K1 hK1 => ?_
 refine Q3 (PV.rp (jd a0).cells) (zl f0 (qp _ _)) ?_
 refine Q3 (PV.rp (jd a1).cells) (zl f1 (qp _ _)) ?_
 refine Q1 _ (jg (e_ (B false))) ?_
 refine PL.nil (hK1 _ _ ?_)
 refine A2 2 (e_ (PV.rp (jd a0).cells)) 3 (e_ (PV.rp (jd a1).cells)) fun F f2 f3 => ?_
 refine PC.seq fun K2 hK2 => ?_
 refine SR fun K3 hK3 => ?_
 refine Q1 (PV.rp ((jd a0).cells.drop 0)) (j7 J6 yu (by decide) f2) ?_
 refine Q1 ((arV (n := 256) U8) a0.ji) (jw yu (e_ (PV.rp ((jd a0).cells.drop 0))) (yo a0)) ?_
 refine Q1 (PV.rp ((jd a1).cells.drop 0)) (j7 J6 yu (by decide) f3) ?_
 refine Q1 ((arV (n := 256) U8) a1.ji) (jw yu (e_ (PV.rp ((jd a1).cells.drop 0))) (yo a1)) ?_
 refine Q3 (B (!(a0.ji.1 == a1.ji.1))) (znv (e := 5) (kd := .u8) (rep := U8) (fun _ => rfl) (by kernel_rfl) (by kernel_rfl) (fun _ => by kernel_rfl) (by kernel_rfl) a0.ji a1.ji (e_ ((arV (n := 256) U8) a0.ji)) (e_ ((arV (n := 256) U8) a1.ji))) ?_
 refine Q1 _ (jc (e_ (B (!(a0.ji.1 == a1.ji.1))))) ?_
 refine GF (PV.rp ((jd a0).cells.drop 256)) rfl (e_ (B (!(a0.ji.1 == a1.ji.1)))) (fun hb => j7 Jt qw (by decide) f2) ?_
 refine GF (I a0.jf) rfl (e_ (B (!(a0.ji.1 == a1.ji.1)))) (fun hb => jw qw (gvp hb (e_ (gv (!(!(a0.ji.1 == a1.ji.1))) (PV.rp ((jd a0).cells.drop 256))))) (yw a0)) ?_
 refine GF (PV.rp ((jd a1).cells.drop 256)) rfl (e_ (B (!(a0.ji.1 == a1.ji.1)))) (fun hb => j7 Jt qw (by decide) f3) ?_
 refine GF (I a1.jf) rfl (e_ (B (!(a0.ji.1 == a1.ji.1)))) (fun hb => jw qw (gvp hb (e_ (gv (!(!(a0.ji.1 == a1.ji.1))) (PV.rp ((jd a1).cells.drop 256))))) (yw a1)) ?_
 refine GF (B (decide (¬ a0.jf = a1.jf))) rfl (e_ (B (!(a0.ji.1 == a1.ji.1)))) (fun hb => jj rfl (gvp hb (e_ (gv (!(!(a0.ji.1 == a1.ji.1))) (I a0.jf)))) (gvp hb (e_ (gv (!(!(a0.ji.1 == a1.ji.1))) (I a1.jf)))) vt) ?_
 refine Q1 (B ((!(a0.ji.1 == a1.ji.1)) || (decide (¬ a0.jf = a1.jf)))) (yd (e_ (B (!(a0.ji.1 == a1.ji.1)))) rfl (e_ (gv (!(!(a0.ji.1 == a1.ji.1))) (B (decide (¬ a0.jf = a1.jf)))))) ?_
 refine Q1 _ (jc (e_ (B ((!(a0.ji.1 == a1.ji.1)) || (decide (¬ a0.jf = a1.jf)))))) ?_
 refine GF (PV.rp ((jd a0).cells.drop 257)) rfl (e_ (B ((!(a0.ji.1 == a1.ji.1)) || (decide (¬ a0.jf = a1.jf))))) (fun hb => j7 qz qb (by decide) f2) ?_
 refine GF (qi a0.ja) rfl (e_ (B ((!(a0.ji.1 == a1.ji.1)) || (decide (¬ a0.jf = a1.jf))))) (fun hb => jw qb (gvp hb (e_ (gv (!((!(a0.ji.1 == a1.ji.1)) || (decide (¬ a0.jf = a1.jf)))) (PV.rp ((jd a0).cells.drop 257))))) (qg a0)) ?_
 refine GF (I (a0.ja.length : Int)) rfl (e_ (B ((!(a0.ji.1 == a1.ji.1)) || (decide (¬ a0.jf = a1.jf))))) (fun hb => qe (rep := slI) (xs := a0.ja) qu (gvp hb (e_ (gv (!((!(a0.ji.1 == a1.ji.1)) || (decide (¬ a0.jf = a1.jf)))) (qi a0.ja))))) ?_
 refine GF (PV.rp ((jd a1).cells.drop 257)) rfl (e_ (B ((!(a0.ji.1 == a1.ji.1)) || (decide (¬ a0.jf = a1.jf))))) (fun hb => j7 qz qb (by decide) f3) ?_
 refine GF (qi a1.ja) rfl (e_ (B ((!(a0.ji.1 == a1.ji.1)) || (decide (¬ a0.jf = a1.jf))))) (fun hb => jw qb (gvp hb (e_ (gv (!((!(a0.ji.1 == a1.ji.1)) || (decide (¬ a0.jf = a1.jf)))) (PV.rp ((jd a1).cells.drop 257))))) (qg a1)) ?_
 refine GF (I (a1.ja.length : Int)) rfl (e_ (B ((!(a0.ji.1 == a1.ji.1)) || (decide (¬ a0.jf = a1.jf))))) (fun hb => qe (rep := slI) (xs := a1.ja) qu (gvp hb (e_ (gv (!((!(a0.ji.1 == a1.ji.1)) || (decide (¬ a0.jf = a1.jf)))) (qi a1.ja))))) ?_
 refine GF (B (decide (¬ (a0.ja.length : Int) = (a1.ja.length : Int)))) rfl (e_ (B ((!(a0.ji.1 == a1.ji.1)) || (decide (¬ a0.jf = a1.jf))))) (fun hb => jj rfl (gvp hb (e_ (gv (!((!(a0.ji.1 == a1.ji.1)) || (decide (¬ a0.jf = a1.jf)))) (I (a0.ja.length : Int))))) (gvp hb (e_ (gv (!((!(a0.ji.1 == a1.ji.1)) || (decide (¬ a0.jf = a1.jf)))) (I (a1.ja.length : Int))))) vt) ?_
 refine Q1 (B (((!(a0.ji.1 == a1.ji.1)) || (decide (¬ a0.jf = a1.jf))) || (decide (¬ (a0.ja.length : Int) = (a1.ja.length : Int))))) (yd (e_ (B ((!(a0.ji.1 == a1.ji.1)) || (decide (¬ a0.jf = a1.jf))))) rfl (e_ (gv (!((!(a0.ji.1 == a1.ji.1)) || (decide (¬ a0.jf = a1.jf)))) (B (decide (¬ (a0.ja.length : Int) = (a1.ja.length : Int))))))) ?_
 refine Q1 _ (jc (e_ (B (((!(a0.ji.1 == a1.ji.1)) || (decide (¬ a0.jf = a1.jf))) || (decide (¬ (a0.ja.length : Int) = (a1.ja.length : Int))))))) ?_
 refine GF (PV.rp ((jd a0).cells.drop 258)) rfl (e_ (B (((!(a0.ji.1 == a1.ji.1)) || (decide (¬ a0.jf = a1.jf))) || (decide (¬ (a0.ja.length : Int) = (a1.ja.length : Int)))))) (fun hb => j7 y4 qh (by decide) f2) ?_
 refine GF (slI a0.jk) rfl (e_ (B (((!(a0.ji.1 == a1.ji.1)) || (decide (¬ a0.jf = a1.jf))) || (decide (¬ (a0.ja.length : Int) = (a1.ja.length : Int)))))) (fun hb => jw qh (gvp hb (e_ (gv (!(((!(a0.ji.1 == a1.ji.1)) || (decide (¬ a0.jf = a1.jf))) || (decide (¬ (a0.ja.length : Int) = (a1.ja.length : Int))))) (PV.rp ((jd a0).cells.drop 258))))) (vz a0)) ?_
 refine GF (PV.rp ((jd a1).cells.drop 258)) rfl (e_ (B (((!(a0.ji.1 == a1.ji.1)) || (decide (¬ a0.jf = a1.jf))) || (decide (¬ (a0.ja.length : Int) = (a1.ja.length : Int)))))) (fun hb => j7 y4 qh (by decide) f3) ?_
 refine GF (slI a1.jk) rfl (e_ (B (((!(a0.ji.1 == a1.ji.1)) || (decide (¬ a0.jf = a1.jf))) || (decide (¬ (a0.ja.length : Int) = (a1.ja.length : Int)))))) (fun hb => jw qh (gvp hb (e_ (gv (!(((!(a0.ji.1 == a1.ji.1)) || (decide (¬ a0.jf = a1.jf))) || (decide (¬ (a0.ja.length : Int) = (a1.ja.length : Int))))) (PV.rp ((jd a1).cells.drop 258))))) (vz a1)) ?_
 obtain ⟨x4, hx4, h0⟩ := bs h0
 refine GFq (B x4) rfl (e_ (B (((!(a0.ji.1 == a1.ji.1)) || (decide (¬ a0.jf = a1.jf))) || (decide (¬ (a0.ja.length : Int) = (a1.ja.length : Int)))))) (fun hb => j0 (by kernel_rfl) (am (gvp hb (e_ (gv (!(((!(a0.ji.1 == a1.ji.1)) || (decide (¬ a0.jf = a1.jf))) || (decide (¬ (a0.ja.length : Int) = (a1.ja.length : Int))))) (slI a0.jk)))) (am (gvp hb (e_ (gv (!(((!(a0.ji.1 == a1.ji.1)) || (decide (¬ a0.jf = a1.jf))) || (decide (¬ (a0.ja.length : Int) = (a1.ja.length : Int))))) (slI a1.jk)))) (am0))) (js (v6 _) (js (v6 _) (j5))) (Vl (G.cond_pos hx4 hb))) ?_
 refine GF (B (!x4)) rfl (e_ (B (((!(a0.ji.1 == a1.ji.1)) || (decide (¬ a0.jf = a1.jf))) || (decide (¬ (a0.ja.length : Int) = (a1.ja.length : Int)))))) (fun hb => yj (gvp hb (e_ (gv (!(((!(a0.ji.1 == a1.ji.1)) || (decide (¬ a0.jf = a1.jf))) || (decide (¬ (a0.ja.length : Int) = (a1.ja.length : Int))))) (B x4))))) ?_
 refine Q1 (B ((((!(a0.ji.1 == a1.ji.1)) || (decide (¬ a0.jf = a1.jf))) || (decide (¬ (a0.ja.length : Int) = (a1.ja.length : Int)))) || (!x4))) (yd (e_ (B (((!(a0.ji.1 == a1.ji.1)) || (decide (¬ a0.jf = a1.jf))) || (decide (¬ (a0.ja.length : Int) = (a1.ja.length : Int)))))) rfl (e_ (gv (!(((!(a0.ji.1 == a1.ji.1)) || (decide (¬ a0.jf = a1.jf))) || (decide (¬ (a0.ja.length : Int) = (a1.ja.length : Int))))) (B (!x4))))) ?_
 refine PL.nil (hK3 _ _ ?_)
 refine A3 2 f2 3 f3 34 (e_ (B ((((!(a0.ji.1 == a1.ji.1)) || (decide (¬ a0.jf = a1.jf))) || (decide (¬ (a0.ja.length : Int) = (a1.ja.length : Int)))) || (!x4)))) fun F f2 f3 f34 => ?_
 rcases cz h0 with ⟨hb5, h0⟩ | ⟨hb5, h0⟩
 refine PC.condTb f34 hb5 ?_
 refine SR fun K6 hK6 => ?_
 refine Q1 _ (jg (e_ (B false))) ?_
 refine PL.nil (hK6 _ _ ?_)
 refine A1 4 (e_ (B false)) fun F f4 => ?_
 refine PC.ret ?_
 have h0 := pz h0
 subst h0
 exact fin (.inr rfl) (qa Try.results13 f4) (.u _)
 refine PC.condFb f34 hb5 ?_
 refine PC.skip ?_
 refine hK2 _ _ ?_
 refine A2 2 f2 3 f3 fun F f2 f3 => ?_
 refine PC.seq fun K7 hK7 => ?_
 refine SR fun K8 hK8 => ?_
 refine Q1 _ (jg (e_ (I 0))) ?_
 refine PL.nil (hK8 _ _ ?_)
 refine A3 2 f2 3 f3 5 (e_ (I 0)) fun F f2 f3 f5 => ?_
 refine PC.block ?_
 obtain ⟨o11, ho11, h0⟩ := bs h0
 obtain ⟨B12, hB12, ho11⟩ := G.loop_some ho11
 refine PC.loop (fun m15 F H => ∃ s29 : Int, qx B12 m15 s29 = some o11 ∧ F 2 = (PV.rp (jd a0).cells) ∧ F 3 = (PV.rp (jd a1).cells) ∧ F 5 = (I s29)) (m := nn) ⟨0, ho11, f2, f3, f5⟩ fun m15 F H hI => ?_
 obtain ⟨x10, ho11, f2, f3, f5⟩ := hI
 obtain ⟨m15, rfl, st13, hs14, ho11⟩ := jv ho11
 rw [hB12] at hs14
 try dsimp only at hs14
 refine PC.seq fun K16 hK16 => ?_
 refine SR fun K17 hK17 => ?_
 refine Q1 _ (jc f5) ?_
 refine Q1 (PV.rp ((jd a0).cells.drop 257)) (j7 qz qb (by decide) f2) ?_
 refine Q1 (qi a0.ja) (jw qb (e_ (PV.rp ((jd a0).cells.drop 257))) (qg a0)) ?_
 refine Q1 (I (a0.ja.length : Int)) (qe (rep := slI) (xs := a0.ja) qu (e_ (qi a0.ja))) ?_
 refine Q1 _ (jj rfl (e_ (I x10)) (e_ (I (a0.ja.length : Int))) ju) ?_
 refine PL.nil (hK17 _ _ ?_)
 refine A4 2 f2 3 f3 5 f5 39 (e_ (B (decide (x10 < (a0.ja.length : Int))))) fun F f2 f3 f5 f39 => ?_
 rcases cz hs14 with ⟨hb18, hs14⟩ | ⟨hb18, hs14⟩
 refine PC.condTb f39 hb18 ?_
 refine PC.skip ?_
 refine hK16 _ _ ?_
 refine A3 2 f2 3 f3 5 f5 fun F f2 f3 f5 => ?_
 refine PC.seq fun K19 hK19 => ?_
 refine PC.block ?_
 refine PC.seq fun K20 hK20 => ?_
 refine PC.regionQ mixed (by kernel_rfl) ?_
 refine Q2 (PV.rp ((jd a0).cells.drop 257)) (j7 qz qb (by decide) f2) ?_
 refine Q2 (qi a0.ja) (jw qb (e_ (PV.rp ((jd a0).cells.drop 257))) (qg a0)) ?_
 refine Q2 _ (jc f5) ?_
 obtain ⟨x21, hx21, hs14⟩ := bs hs14
 refine Q2 (PV.rp (slI x21).cells) (j3 (rep := slI) (xs := a0.ja) Jr (e_ (qi a0.ja)) (e_ (I x10)) hx21) ?_
 refine Q2 (slI x21) (qo qh (e_ (PV.rp (slI x21).cells))) ?_
 refine Q2 (PV.rp ((jd a1).cells.drop 257)) (j7 qz qb (by decide) f3) ?_
 refine Q2 (qi a1.ja) (jw qb (e_ (PV.rp ((jd a1).cells.drop 257))) (qg a1)) ?_
 refine Q2 _ (jc f5) ?_
 obtain ⟨x22, hx22, hs14⟩ := bs hs14
 refine Q2 (PV.rp (slI x22).cells) (j3 (rep := slI) (xs := a1.ja) Jr (e_ (qi a1.ja)) (e_ (I x10)) hx22) ?_
 refine Q2 (slI x22) (qo qh (e_ (PV.rp (slI x22).cells))) ?_
 obtain ⟨x23, hx23, hs14⟩ := bs hs14
 refine Q4 (B x23) (j0 (by kernel_rfl) (am (e_ (slI x21)) (am (e_ (slI x22)) (am0))) (js (v6 _) (js (v6 _) (j5))) (Vl hx23)) ?_
 refine Q2 (B (!x23)) (yj (e_ (B x23))) ?_
 refine QF.nil ?_
 refine hK20 _ _ ?_
 refine A4 2 f2 3 f3 5 f5 53 (e_ (B (!x23))) fun F f2 f3 f5 f53 => ?_
 rcases cz hs14 with ⟨hb24, hs14⟩ | ⟨hb24, hs14⟩
 refine PC.condTb f53 hb24 ?_
 refine SR fun K25 hK25 => ?_
 refine Q1 _ (jg (e_ (B false))) ?_
 refine PL.nil (hK25 _ _ ?_)
 refine A1 4 (e_ (B false)) fun F f4 => ?_
 have hs14 := pz hs14
 subst hs14
 try dsimp only at ho11
 subst ho11
 try dsimp only at h0
 refine PC.ret ?_
 have h0 := pz h0
 subst h0
 exact fin (.inr rfl) (qa Try.results13 f4) (.u _)
 refine PC.condFb f53 hb24 ?_
 refine PC.skip ?_
 refine hK19 _ _ ?_
 refine A3 2 f2 3 f3 5 f5 fun F f2 f3 f5 => ?_
 refine PC.region ?_
 refine Q1 _ (jc f5) ?_
 refine Q1 _ (jj rfl (e_ (I x10)) (e_ (I 1)) j8) ?_
 refine Q1 _ (jg (e_ (I (w64 (x10 + 1))))) ?_
 refine PL.nil ?_
 have hs14 := pz hs14
 subst hs14
 exact ⟨m15, Nat.lt_succ_self _, (w64 (x10 + 1)), ho11, f2, f3, (e_ (I (w64 (x10 + 1))))⟩
 refine PC.condFb f39 hb18 ?_
 refine PC.exit ?_
 have hs14 := pz hs14
 subst hs14
 try dsimp only at ho11
 subst ho11
 try dsimp only at h0
 refine hK7 _ _ ?_
 refine PC.absF (fun F => True) trivial ?_
 intro F hI
 clear hI
 refine SR fun K26 hK26 => ?_
 refine Q1 _ (jg (e_ (B true))) ?_
 refine PL.nil (hK26 _ _ ?_)
 refine A1 4 (e_ (B true)) fun F f4 => ?_
 refine PC.ret ?_
 have h0 := pz h0
 subst h0
 exact fin (.inr rfl) (qa Try.results13 f4) (.u _)
def g_law15_LiveSame (a0 : je) (a1 : ByteArray) : G Bool :=
  G.bind (Qx a0) fun x4 => G.cond (((!x4) || (decide (60 < (a0.ja.length : Int)))) || (decide (60 < (a1.size : Int)))) (G.bind (Jd) fun x7 => G.pure x7) (G.bind (Qc a0) fun x9 => G.bind (y7 a0) fun x15 => G.cond (!x15) (G.bind (G.cond (decide ((x9.ja.length : Int) = 0)) (Jd) (G.pure false)) fun x18 => G.pure ((decide ((x9.ja.length : Int) = 0)) && x18)) (G.bind (G.loop (σ := Int) (α := Unit ⊕ Bool) (fun x26 => G.cond (decide (x26 ≤ (a1.size : Int))) (G.bind (G.lift (zh8 a1 0 x26)) fun x37 => G.bind (Vb (⟨x9.ji, x9.jf, x9.ja, x9.jk⟩ : je) x37) fun x38 => G.bind (Jv (⟨x9.ji, x9.jf, x9.ja, x9.jk⟩ : je) x38) fun x39 => G.bind (G.lift (zh8 a1 0 x26)) fun x40 => G.bind (Vb a0 x40) fun x41 => G.bind (Jv a0 x41) fun x42 => G.cond (decide (¬ x39 = x42)) (G.pure (.inr (.inr false))) (G.pure (.inl (w64 (x26 + 1))))) (G.pure (.inr (.inl ())))) 0) fun o => match o with | .inl () => G.bind (zx (⟨x9.ji, x9.jf, x9.ja, x9.jk⟩ : je)) fun x87 => G.bind (Qj (⟨x9.ji, x9.jf, x9.ja, x9.jk⟩ : je)) fun x88 => G.cond ((decide (¬ (x87.length : Int) = (x9.ja.length : Int))) || (decide (¬ (x88.length : Int) = (x9.ja.length : Int)))) (G.pure false) (G.bind (G.loop (σ := Int) (α := Unit ⊕ Bool) (fun x100 => G.cond (decide (x100 < (x87.length : Int))) (G.bind (G.lift (idx x87 x100)) fun x111 => G.bind (G.cond (!(!x111)) (G.lift (idx x88 x100)) (G.pure false)) fun x112 => G.cond ((!x111) || (!x112)) (G.pure (.inr (.inr false))) (G.pure (.inl (w64 (x100 + 1))))) (G.pure (.inr (.inl ())))) 1) fun o => match o with | .inl () => G.bind (y7 (⟨x9.ji, x9.jf, x9.ja, x9.jk⟩ : je)) fun x121 => G.bind (G.cond x121 (Qc (⟨x9.ji, x9.jf, x9.ja, x9.jk⟩ : je)) (G.pure (⟨(arZ 256 0), 0, [], []⟩))) fun x122 => G.bind (G.cond x121 (Vj x122 (⟨x9.ji, x9.jf, x9.ja, x9.jk⟩ : je)) (G.pure false)) fun x123 => G.bind (G.cond (x121 && x123) (Jd) (G.pure false)) fun x124 => G.pure ((x121 && x123) && x124) | .inr r125 => G.pure r125) | .inr r127 => G.pure r127))
theorem g_law15_LiveSame_w {nn : Nat} {a0 : je} {a1 : ByteArray} {r : Bool} (h0 : g_law15_LiveSame a0 a1 nn = some r) : PCall Try.prog 3 [jd a0, S a1] (· = B r) := by
 unfold g_law15_LiveSame at h0
 refine PCall.intro' Try.func3 rfl Try.ntmps3 (by simp) fun W => ?_
 refine A2 0 (e_ (jd a0)) 1 (e_ (S a1)) fun F f0 f1 => ?_
 generalize PHeap.empty = H
 refine SR fun K1 hK1 => ?_
 refine Q3 (PV.rp (jd a0).cells) (zl f0 (qp _ _)) ?_
 refine Q1 _ (jg (e_ (B false))) ?_
 refine PL.nil (hK1 _ _ ?_)
 refine A2 1 f1 2 (e_ (PV.rp (jd a0).cells)) fun F f1 f2 => ?_
 refine PC.seq fun K2 hK2 => ?_
 refine SR fun K3 hK3 => ?_
 refine Q1 (jd a0) (v8 vp f2 (j6 _)) ?_
 obtain ⟨x4, hx4, h0⟩ := bs h0
 refine Q3 (B x4) (j0 (by kernel_rfl) (am (e_ (jd a0)) (am0)) (js (j2 _) (j5)) (zfw hx4)) ?_
 refine Q1 (B (!x4)) (yj (e_ (B x4))) ?_
 refine Q1 _ (jc (e_ (B (!x4)))) ?_
 refine GF (PV.rp ((jd a0).cells.drop 257)) rfl (e_ (B (!x4))) (fun hb => j7 qz qb (by decide) f2) ?_
 refine GF (qi a0.ja) rfl (e_ (B (!x4))) (fun hb => jw qb (gvp hb (e_ (gv (!(!x4)) (PV.rp ((jd a0).cells.drop 257))))) (qg a0)) ?_
 refine GF (I (a0.ja.length : Int)) rfl (e_ (B (!x4))) (fun hb => qe (rep := slI) (xs := a0.ja) qu (gvp hb (e_ (gv (!(!x4)) (qi a0.ja))))) ?_
 refine GF (B (decide (60 < (a0.ja.length : Int)))) rfl (e_ (B (!x4))) (fun hb => jj rfl (gvp hb (e_ (gv (!(!x4)) (I (a0.ja.length : Int))))) (e_ (I 60)) Qf) ?_
 refine Q1 (B ((!x4) || (decide (60 < (a0.ja.length : Int))))) (yd (e_ (B (!x4))) rfl (e_ (gv (!(!x4)) (B (decide (60 < (a0.ja.length : Int))))))) ?_
 refine Q1 _ (jc (e_ (B ((!x4) || (decide (60 < (a0.ja.length : Int))))))) ?_
 refine GF (S a1) rfl (e_ (B ((!x4) || (decide (60 < (a0.ja.length : Int)))))) (fun hb => jc f1) ?_
 refine GF (I (a1.size : Int)) rfl (e_ (B ((!x4) || (decide (60 < (a0.ja.length : Int)))))) (fun hb => yy qr (gvp hb (e_ (gv (!((!x4) || (decide (60 < (a0.ja.length : Int))))) (S a1))))) ?_
 refine GF (B (decide (60 < (a1.size : Int)))) rfl (e_ (B ((!x4) || (decide (60 < (a0.ja.length : Int)))))) (fun hb => jj rfl (gvp hb (e_ (gv (!((!x4) || (decide (60 < (a0.ja.length : Int))))) (I (a1.size : Int))))) (e_ (I 60)) Qf) ?_
 refine Q1 (B (((!x4) || (decide (60 < (a0.ja.length : Int)))) || (decide (60 < (a1.size : Int))))) (yd (e_ (B ((!x4) || (decide (60 < (a0.ja.length : Int)))))) rfl (e_ (gv (!((!x4) || (decide (60 < (a0.ja.length : Int))))) (B (decide (60 < (a1.size : Int))))))) ?_
 refine PL.nil (hK3 _ _ ?_)
 refine A3 1 f1 2 f2 23 (e_ (B (((!x4) || (decide (60 < (a0.ja.length : Int)))) || (decide (60 < (a1.size : Int)))))) fun F f1 f2 f23 => ?_
 rcases cz h0 with ⟨hb5, h0⟩ | ⟨hb5, h0⟩
 refine PC.condTb f23 hb5 ?_
 refine SR fun K6 hK6 => ?_
 obtain ⟨x7, hx7, h0⟩ := bs h0
 refine Q3 (B x7) (j0 (by kernel_rfl) (am0) (j5) (Yr hx7)) ?_
 refine Q1 _ (jg (e_ (B x7))) ?_
 refine PL.nil (hK6 _ _ ?_)
 refine A1 4 (e_ (B x7)) fun F f4 => ?_
 refine PC.ret ?_
 have h0 := pz h0
 subst h0
 exact fin (.inr rfl) (qa Try.results3 f4) (.u _)
 refine PC.condFb f23 hb5 ?_
 refine PC.skip ?_
 refine hK2 _ _ ?_
 refine A2 1 f1 2 f2 fun F f1 f2 => ?_
 refine SR fun K8 hK8 => ?_
 refine Q1 (jd a0) (v8 vp f2 (j6 _)) ?_
 obtain ⟨x9, hx9, h0⟩ := bs h0
 refine Q3 (jd x9) (j0 (by kernel_rfl) (am (e_ (jd a0)) (am0)) (js (j2 _) (j5)) (Z9 hx9)) ?_
 refine PL.allocA 205 (cs := (((arV (n := 256) U8) (arZ 256 0)).cells ++ [(I 0), (PV.u (.slice none 0 0)), (PV.u (.slice none 0 0))])) rfl rfl rfl (by decide) Yo (by kernel_rfl) (by kernel_rfl) fun v205 H b205 fz10 => ?_
 refine PL.recell (cs' := (((arV (n := 256) U8) (arZ 256 0)).cells ++ [(I 0), (qi []), (slI [])])) b205 (WeakL.app (WeakL.refl _) (WeakL.cons (Weak.refl _) (WeakL.cons (Weak.nil _) (WeakL.cons (Weak.nil _) (WeakL.nil))))) fun H b205 fz11 => ?_
 refine PL.storeA (ag := true) (cs' := (((arV (n := 256) U8) x9.ji).cells ++ [(I x9.jf), (qi x9.ja), (slI x9.jk)])) (ps := (((arV (n := 256) U8) x9.ji).cells ++ [(I x9.jf), (qi x9.ja), (slI x9.jk)])) rfl rfl (fun _ h => by cases h) (e_ (PV.pp 205 0 v205)) b205 vp (e_ (jd x9)) (qp _ _) rfl (j9 (jl _ _ (fun _ => rfl)) rfl) (by rw [(j9 (jl _ _ (fun _ => rfl)) rfl)]; exact Nat.le_of_ble_eq_true rfl) (vw (N := 256 + (3)) (j9 (jl _ _ (fun _ => rfl)) rfl) (j9 (jl _ _ (fun _ => rfl)) rfl)) fun H b205 fz12 => ?_
 refine PL.nil (hK8 _ _ ?_)
 refine A3 1 f1 2 f2 5 (e_ (PV.pp 205 0 v205)) fun F f1 f2 f5 => ?_
 refine PC.seq fun K13 hK13 => ?_
 refine SR fun K14 hK14 => ?_
 refine Q1 (jd a0) (v8 vp f2 (j6 _)) ?_
 obtain ⟨x15, hx15, h0⟩ := bs h0
 refine Q3 (B x15) (j0 (by kernel_rfl) (am (e_ (jd a0)) (am0)) (js (j2 _) (j5)) (Q5 hx15)) ?_
 refine Q1 (B (!x15)) (yj (e_ (B x15))) ?_
 refine PL.nil (hK14 _ _ ?_)
 refine A4 1 f1 2 f2 5 f5 29 (e_ (B (!x15))) fun F f1 f2 f5 f29 => ?_
 rcases cz h0 with ⟨hb16, h0⟩ | ⟨hb16, h0⟩
 refine PC.condTb f29 hb16 ?_
 refine SR fun K17 hK17 => ?_
 refine Q1 (PV.pp 205 257 v205) (yq qz qb (by decide) f5 b205) ?_
 refine Q1 (qi x9.ja) (qv qb (e_ (PV.pp 205 257 v205)) b205 (zey (m := 256) (i := 1) (jl _ _ (fun _ => rfl)) rfl)) ?_
 refine Q1 (I (x9.ja.length : Int)) (qe (rep := slI) (xs := x9.ja) qu (e_ (qi x9.ja))) ?_
 refine Q1 _ (jj rfl (e_ (I (x9.ja.length : Int))) (e_ (I 0)) qc) ?_
 refine Q1 _ (jc (e_ (B (decide ((x9.ja.length : Int) = 0))))) ?_
 obtain ⟨x18, hx18, h0⟩ := bs h0
 refine GTq (B x18) rfl (e_ (B (decide ((x9.ja.length : Int) = 0)))) (fun hb => j0 (by kernel_rfl) (am0) (j5) (Yr (G.cond_pos hx18 hb))) ?_
 refine Q1 (B ((decide ((x9.ja.length : Int) = 0)) && x18)) (vy (e_ (B (decide ((x9.ja.length : Int) = 0)))) (e_ (gv (decide ((x9.ja.length : Int) = 0)) (B x18))) rfl) ?_
 refine Q1 _ (jg (e_ (B ((decide ((x9.ja.length : Int) = 0)) && x18)))) ?_
 refine PL.nil (hK17 _ _ ?_)
 refine A1 4 (e_ (B ((decide ((x9.ja.length : Int) = 0)) && x18))) fun F f4 => ?_
 refine PC.ret ?_
 have h0 := pz h0
 subst h0
 exact fin (.inr rfl) (qa Try.results3 f4) (.u _)
 refine PC.condFb f29 hb16 ?_
 refine PC.skip ?_
 refine hK13 _ _ ?_
 refine A3 1 f1 2 f2 5 f5 fun F f1 f2 f5 => ?_
 refine PC.seq fun K19 hK19 => ?_
 refine SR fun K20 hK20 => ?_
 refine Q1 _ (jg (e_ (I 0))) ?_
 refine PL.nil (hK20 _ _ ?_)
 refine A4 1 f1 2 f2 5 f5 6 (e_ (I 0)) fun F f1 f2 f5 f6 => ?_
 refine PC.block ?_
 obtain ⟨o27, ho27, h0⟩ := bs h0
 obtain ⟨B28, hB28, ho27⟩ := G.loop_some ho27
 refine PC.loop (fun m31 F H => ∃ s128 : Int, qx B28 m31 s128 = some o27 ∧ F 1 = (S a1) ∧ F 2 = (PV.rp (jd a0).cells) ∧ F 5 = (PV.pp 205 0 v205) ∧ F 6 = (I s128) ∧ H 205 = ⟨v205, some (.box 26 (((arV (n := 256) U8) x9.ji).cells ++ [(I x9.jf), (qi x9.ja), (slI x9.jk)]))⟩) (m := nn) ⟨0, ho27, f1, f2, f5, f6, b205⟩ fun m31 F H hI => ?_
 obtain ⟨x26, ho27, f1, f2, f5, f6, b205⟩ := hI
 obtain ⟨m31, rfl, st29, hs30, ho27⟩ := jv ho27
 rw [hB28] at hs30
 try dsimp only at hs30
 refine PC.seq fun K32 hK32 => ?_
 refine SR fun K33 hK33 => ?_
 refine Q1 _ (jc f6) ?_
 refine Q1 _ (jc f1) ?_
 refine Q1 (I (a1.size : Int)) (yy qr (e_ (S a1))) ?_
 refine Q1 _ (jj rfl (e_ (I x26)) (e_ (I (a1.size : Int))) Qa) ?_
 refine PL.nil (hK33 _ _ ?_)
 refine A5 1 f1 2 f2 5 f5 6 f6 40 (e_ (B (decide (x26 ≤ (a1.size : Int))))) fun F f1 f2 f5 f6 f40 => ?_
 rcases cz hs30 with ⟨hb34, hs30⟩ | ⟨hb34, hs30⟩
 refine PC.condTb f40 hb34 ?_
 refine PC.skip ?_
 refine hK32 _ _ ?_
 refine A4 1 f1 2 f2 5 f5 6 f6 fun F f1 f2 f5 f6 => ?_
 refine PC.seq fun K35 hK35 => ?_
 refine PC.block ?_
 refine PC.seq fun K36 hK36 => ?_
 refine PC.regionQ mixed (by kernel_rfl) ?_
 refine Q2 (jd (⟨x9.ji, x9.jf, x9.ja, x9.jk⟩ : je)) (qv vp f5 b205 (yh (j6 (⟨x9.ji, x9.jf, x9.ja, x9.jk⟩ : je)))) ?_
 refine Q2 (jd (⟨x9.ji, x9.jf, x9.ja, x9.jk⟩ : je)) (qv vp f5 b205 (yh (j6 (⟨x9.ji, x9.jf, x9.ja, x9.jk⟩ : je)))) ?_
 refine Q2 _ (jc f1) ?_
 refine Q2 _ (jc f6) ?_
 obtain ⟨x37, hx37, hs30⟩ := bs hs30
 refine Q2 (S x37) (zk8 qr (e_ (S a1)) (e_ (I x26)) hx37) ?_
 obtain ⟨x38, hx38, hs30⟩ := bs hs30
 refine Q4 (I x38) (j0 (by kernel_rfl) (am (e_ (jd (⟨x9.ji, x9.jf, x9.ja, x9.jk⟩ : je))) (am (e_ (S x37)) (am0))) (js (j2 _) (js (.u _) (j5))) (zc8 hx38)) ?_
 obtain ⟨x39, hx39, hs30⟩ := bs hs30
 refine Q4 (I x39) (j0 (by kernel_rfl) (am (e_ (jd (⟨x9.ji, x9.jf, x9.ja, x9.jk⟩ : je))) (am (e_ (I x38)) (am0))) (js (j2 _) (js (.u _) (j5))) (zbk hx39)) ?_
 refine Q2 (jd a0) (v8 vp f2 (j6 _)) ?_
 refine Q2 (jd a0) (v8 vp f2 (j6 _)) ?_
 refine Q2 _ (jc f1) ?_
 refine Q2 _ (jc f6) ?_
 obtain ⟨x40, hx40, hs30⟩ := bs hs30
 refine Q2 (S x40) (zk8 qr (e_ (S a1)) (e_ (I x26)) hx40) ?_
 obtain ⟨x41, hx41, hs30⟩ := bs hs30
 refine Q4 (I x41) (j0 (by kernel_rfl) (am (e_ (jd a0)) (am (e_ (S x40)) (am0))) (js (j2 _) (js (.u _) (j5))) (zc8 hx41)) ?_
 obtain ⟨x42, hx42, hs30⟩ := bs hs30
 refine Q4 (I x42) (j0 (by kernel_rfl) (am (e_ (jd a0)) (am (e_ (I x41)) (am0))) (js (j2 _) (js (.u _) (j5))) (zbk hx42)) ?_
 refine Q2 _ (jj rfl (e_ (I x39)) (e_ (I x42)) vt) ?_
 refine QF.nil ?_
 refine hK36 _ _ ?_
 refine A5 1 f1 2 f2 5 f5 6 f6 57 (e_ (B (decide (¬ x39 = x42)))) fun F f1 f2 f5 f6 f57 => ?_
 rcases cz hs30 with ⟨hb43, hs30⟩ | ⟨hb43, hs30⟩
 refine PC.condTb f57 hb43 ?_
 refine SR fun K44 hK44 => ?_
 refine Q1 _ (jg (e_ (B false))) ?_
 refine PL.nil (hK44 _ _ ?_)
 refine A1 4 (e_ (B false)) fun F f4 => ?_
 have hs30 := pz hs30
 subst hs30
 try dsimp only at ho27
 subst ho27
 try dsimp only at h0
 refine PC.ret ?_
 have h0 := pz h0
 subst h0
 exact fin (.inr rfl) (qa Try.results3 f4) (.u _)
 refine PC.condFb f57 hb43 ?_
 refine PC.skip ?_
 refine hK35 _ _ ?_
 refine A4 1 f1 2 f2 5 f5 6 f6 fun F f1 f2 f5 f6 => ?_
 refine PC.region ?_
 refine Q1 _ (jc f6) ?_
 refine Q1 _ (jj rfl (e_ (I x26)) (e_ (I 1)) j8) ?_
 refine Q1 _ (jg (e_ (I (w64 (x26 + 1))))) ?_
 refine PL.nil ?_
 have hs30 := pz hs30
 subst hs30
 exact ⟨m31, Nat.lt_succ_self _, (w64 (x26 + 1)), ho27, f1, f2, f5, (e_ (I (w64 (x26 + 1)))), b205⟩
 refine PC.condFb f40 hb34 ?_
 refine PC.exit ?_
 have hs30 := pz hs30
 subst hs30
 try dsimp only at ho27
 subst ho27
 try dsimp only at h0
 refine hK19 _ _ ?_
 refine A1 5 f5 fun F f5 => ?_
 refine PC.seq fun K45 hK45 => ?_
 refine PC.regionQ mixed (by kernel_rfl) ?_
 refine Q2 (jd (⟨x9.ji, x9.jf, x9.ja, x9.jk⟩ : je)) (qv vp f5 b205 (yh (j6 (⟨x9.ji, x9.jf, x9.ja, x9.jk⟩ : je)))) ?_
 obtain ⟨x46, hx46, h0⟩ := bs h0
 refine Q4 (slB x46) (j0 (by kernel_rfl) (am (e_ (jd (⟨x9.ji, x9.jf, x9.ja, x9.jk⟩ : je))) (am0)) (js (j2 _) (j5)) (Vw hx46)) ?_
 refine Q2 (jd (⟨x9.ji, x9.jf, x9.ja, x9.jk⟩ : je)) (qv vp f5 b205 (yh (j6 (⟨x9.ji, x9.jf, x9.ja, x9.jk⟩ : je)))) ?_
 obtain ⟨x47, hx47, h0⟩ := bs h0
 refine Q4 (slB x47) (j0 (by kernel_rfl) (am (e_ (jd (⟨x9.ji, x9.jf, x9.ja, x9.jk⟩ : je))) (am0)) (js (j2 _) (j5)) (zca hx47)) ?_
 refine Q2 _ (jg (e_ (slB x46))) ?_
 refine Q2 _ (jg (e_ (slB x47))) ?_
 refine QF.nil ?_
 refine hK45 _ _ ?_
 refine A3 5 f5 7 (e_ (slB x46)) 8 (e_ (slB x47)) fun F f5 f7 f8 => ?_
 refine PC.seq fun K48 hK48 => ?_
 refine SR fun K49 hK49 => ?_
 refine Q1 _ (jc f7) ?_
 refine Q1 (I (x46.length : Int)) (qe (rep := B) (xs := x46) Zf (e_ (slB x46))) ?_
 refine Q1 (PV.pp 205 257 v205) (yq qz qb (by decide) f5 b205) ?_
 refine Q1 (qi x9.ja) (qv qb (e_ (PV.pp 205 257 v205)) b205 (zey (m := 256) (i := 1) (jl _ _ (fun _ => rfl)) rfl)) ?_
 refine Q1 (I (x9.ja.length : Int)) (qe (rep := slI) (xs := x9.ja) qu (e_ (qi x9.ja))) ?_
 refine Q1 _ (jj rfl (e_ (I (x46.length : Int))) (e_ (I (x9.ja.length : Int))) vt) ?_
 refine Q1 _ (jc (e_ (B (decide (¬ (x46.length : Int) = (x9.ja.length : Int)))))) ?_
 refine GF (slB x47) rfl (e_ (B (decide (¬ (x46.length : Int) = (x9.ja.length : Int))))) (fun hb => jc f8) ?_
 refine GF (I (x47.length : Int)) rfl (e_ (B (decide (¬ (x46.length : Int) = (x9.ja.length : Int))))) (fun hb => qe (rep := B) (xs := x47) Zf (gvp hb (e_ (gv (!(decide (¬ (x46.length : Int) = (x9.ja.length : Int)))) (slB x47))))) ?_
 refine GF (PV.pp 205 257 v205) rfl (e_ (B (decide (¬ (x46.length : Int) = (x9.ja.length : Int))))) (fun hb => yq qz qb (by decide) f5 b205) ?_
 refine GF (qi x9.ja) rfl (e_ (B (decide (¬ (x46.length : Int) = (x9.ja.length : Int))))) (fun hb => qv qb (gvp hb (e_ (gv (!(decide (¬ (x46.length : Int) = (x9.ja.length : Int)))) (PV.pp 205 257 v205)))) b205 (zey (m := 256) (i := 1) (jl _ _ (fun _ => rfl)) rfl)) ?_
 refine GF (I (x9.ja.length : Int)) rfl (e_ (B (decide (¬ (x46.length : Int) = (x9.ja.length : Int))))) (fun hb => qe (rep := slI) (xs := x9.ja) qu (gvp hb (e_ (gv (!(decide (¬ (x46.length : Int) = (x9.ja.length : Int)))) (qi x9.ja))))) ?_
 refine GF (B (decide (¬ (x47.length : Int) = (x9.ja.length : Int)))) rfl (e_ (B (decide (¬ (x46.length : Int) = (x9.ja.length : Int))))) (fun hb => jj rfl (gvp hb (e_ (gv (!(decide (¬ (x46.length : Int) = (x9.ja.length : Int)))) (I (x47.length : Int))))) (gvp hb (e_ (gv (!(decide (¬ (x46.length : Int) = (x9.ja.length : Int)))) (I (x9.ja.length : Int))))) vt) ?_
 refine Q1 (B ((decide (¬ (x46.length : Int) = (x9.ja.length : Int))) || (decide (¬ (x47.length : Int) = (x9.ja.length : Int))))) (yd (e_ (B (decide (¬ (x46.length : Int) = (x9.ja.length : Int))))) rfl (e_ (gv (!(decide (¬ (x46.length : Int) = (x9.ja.length : Int)))) (B (decide (¬ (x47.length : Int) = (x9.ja.length : Int))))))) ?_
 refine PL.nil (hK49 _ _ ?_)
 refine A4 5 f5 7 f7 8 f8 75 (e_ (B ((decide (¬ (x46.length : Int) = (x9.ja.length : Int))) || (decide (¬ (x47.length : Int) = (x9.ja.length : Int)))))) fun F f5 f7 f8 f75 => ?_
 rcases cz h0 with ⟨hb50, h0⟩ | ⟨hb50, h0⟩
 refine PC.condTb f75 hb50 ?_
 refine SR fun K51 hK51 => ?_
 refine Q1 _ (jg (e_ (B false))) ?_
 refine PL.nil (hK51 _ _ ?_)
 refine A1 4 (e_ (B false)) fun F f4 => ?_
 refine PC.ret ?_
 have h0 := pz h0
 subst h0
 exact fin (.inr rfl) (qa Try.results3 f4) (.u _)
 refine PC.condFb f75 hb50 ?_
 refine PC.skip ?_
 refine hK48 _ _ ?_
 refine A3 5 f5 7 f7 8 f8 fun F f5 f7 f8 => ?_
 refine PC.seq fun K52 hK52 => ?_
 refine SR fun K53 hK53 => ?_
 refine Q1 _ (jg (e_ (I 1))) ?_
 refine PL.nil (hK53 _ _ ?_)
 refine A4 5 f5 7 f7 8 f8 9 (e_ (I 1)) fun F f5 f7 f8 f9 => ?_
 refine PC.block ?_
 obtain ⟨o60, ho60, h0⟩ := bs h0
 obtain ⟨B61, hB61, ho60⟩ := G.loop_some ho60
 refine PC.loop (fun m64 F H => ∃ s85 : Int, qx B61 m64 s85 = some o60 ∧ F 5 = (PV.pp 205 0 v205) ∧ F 7 = (slB x46) ∧ F 8 = (slB x47) ∧ F 9 = (I s85) ∧ H 205 = ⟨v205, some (.box 26 (((arV (n := 256) U8) x9.ji).cells ++ [(I x9.jf), (qi x9.ja), (slI x9.jk)]))⟩) (m := nn) ⟨1, ho60, f5, f7, f8, f9, b205⟩ fun m64 F H hI => ?_
 obtain ⟨x59, ho60, f5, f7, f8, f9, b205⟩ := hI
 obtain ⟨m64, rfl, st62, hs63, ho60⟩ := jv ho60
 rw [hB61] at hs63
 try dsimp only at hs63
 refine PC.seq fun K65 hK65 => ?_
 refine SR fun K66 hK66 => ?_
 refine Q1 _ (jc f9) ?_
 refine Q1 _ (jc f7) ?_
 refine Q1 (I (x46.length : Int)) (qe (rep := B) (xs := x46) Zf (e_ (slB x46))) ?_
 refine Q1 _ (jj rfl (e_ (I x59)) (e_ (I (x46.length : Int))) ju) ?_
 refine PL.nil (hK66 _ _ ?_)
 refine A5 5 f5 7 f7 8 f8 9 f9 79 (e_ (B (decide (x59 < (x46.length : Int))))) fun F f5 f7 f8 f9 f79 => ?_
 rcases cz hs63 with ⟨hb67, hs63⟩ | ⟨hb67, hs63⟩
 refine PC.condTb f79 hb67 ?_
 refine PC.skip ?_
 refine hK65 _ _ ?_
 refine A4 5 f5 7 f7 8 f8 9 f9 fun F f5 f7 f8 f9 => ?_
 refine PC.seq fun K68 hK68 => ?_
 refine PC.block ?_
 refine SR fun K69 hK69 => ?_
 refine Q1 _ (jc f7) ?_
 refine Q1 _ (jc f9) ?_
 obtain ⟨x70, hx70, hs63⟩ := bs hs63
 refine Q1 (PV.rp (B x70).cells) (j3 (rep := B) (xs := x46) Yy (e_ (slB x46)) (e_ (I x59)) hx70) ?_
 refine Q1 (B x70) (qo zbe (e_ (PV.rp (B x70).cells))) ?_
 refine Q1 (B (!x70)) (yj (e_ (B x70))) ?_
 refine Q1 _ (jc (e_ (B (!x70)))) ?_
 refine GF (slB x47) rfl (e_ (B (!x70))) (fun hb => jc f8) ?_
 refine GF (I x59) rfl (e_ (B (!x70))) (fun hb => jc f9) ?_
 obtain ⟨x71, hx71, hs63⟩ := bs hs63
 refine GF (PV.rp (B x71).cells) rfl (e_ (B (!x70))) (fun hb => j3 (rep := B) (xs := x47) Yy (gvp hb (e_ (gv (!(!x70)) (slB x47)))) (gvp hb (e_ (gv (!(!x70)) (I x59)))) (G.cond_pos hx71 hb)) ?_
 refine GF (B x71) rfl (e_ (B (!x70))) (fun hb => qo zbe (gvp hb (e_ (gv (!(!x70)) (PV.rp (B x71).cells))))) ?_
 refine GF (B (!x71)) rfl (e_ (B (!x70))) (fun hb => yj (gvp hb (e_ (gv (!(!x70)) (B x71))))) ?_
 refine Q1 (B ((!x70) || (!x71))) (yd (e_ (B (!x70))) rfl (e_ (gv (!(!x70)) (B (!x71))))) ?_
 refine PL.nil (hK69 _ _ ?_)
 refine A5 5 f5 7 f7 8 f8 9 f9 93 (e_ (B ((!x70) || (!x71)))) fun F f5 f7 f8 f9 f93 => ?_
 rcases cz hs63 with ⟨hb72, hs63⟩ | ⟨hb72, hs63⟩
 refine PC.condTb f93 hb72 ?_
 refine SR fun K73 hK73 => ?_
 refine Q1 _ (jg (e_ (B false))) ?_
 refine PL.nil (hK73 _ _ ?_)
 refine A1 4 (e_ (B false)) fun F f4 => ?_
 have hs63 := pz hs63
 subst hs63
 try dsimp only at ho60
 subst ho60
 try dsimp only at h0
 refine PC.ret ?_
 have h0 := pz h0
 subst h0
 exact fin (.inr rfl) (qa Try.results3 f4) (.u _)
 refine PC.condFb f93 hb72 ?_
 refine PC.skip ?_
 refine hK68 _ _ ?_
 refine A4 5 f5 7 f7 8 f8 9 f9 fun F f5 f7 f8 f9 => ?_
 refine PC.region ?_
 refine Q1 _ (jc f9) ?_
 refine Q1 _ (jj rfl (e_ (I x59)) (e_ (I 1)) j8) ?_
 refine Q1 _ (jg (e_ (I (w64 (x59 + 1))))) ?_
 refine PL.nil ?_
 have hs63 := pz hs63
 subst hs63
 exact ⟨m64, Nat.lt_succ_self _, (w64 (x59 + 1)), ho60, f5, f7, f8, (e_ (I (w64 (x59 + 1)))), b205⟩
 refine PC.condFb f79 hb67 ?_
 refine PC.exit ?_
 have hs63 := pz hs63
 subst hs63
 try dsimp only at ho60
 subst ho60
 try dsimp only at h0
 refine hK52 _ _ ?_
 refine A1 5 f5 fun F f5 => ?_
 refine PC.seq fun K74 hK74 => ?_
 refine PC.regionQ mixed (by kernel_rfl) ?_
 refine Q2 (jd (⟨x9.ji, x9.jf, x9.ja, x9.jk⟩ : je)) (qv vp f5 b205 (yh (j6 (⟨x9.ji, x9.jf, x9.ja, x9.jk⟩ : je)))) ?_
 obtain ⟨x75, hx75, h0⟩ := bs h0
 refine Q4 (B x75) (j0 (by kernel_rfl) (am (e_ (jd (⟨x9.ji, x9.jf, x9.ja, x9.jk⟩ : je))) (am0)) (js (j2 _) (j5)) (Q5 hx75)) ?_
 refine Q2 _ (jc (e_ (B x75))) ?_
 refine HT (jd (⟨x9.ji, x9.jf, x9.ja, x9.jk⟩ : je)) rfl (e_ (B x75)) (fun hb => qv vp f5 b205 (yh (j6 (⟨x9.ji, x9.jf, x9.ja, x9.jk⟩ : je)))) ?_
 obtain ⟨x76, hx76, h0⟩ := bs h0
 refine HTq (jd x76) rfl (e_ (B x75)) (fun hb => j0 (by kernel_rfl) (am (gvp hb (e_ (gv x75 (jd (⟨x9.ji, x9.jf, x9.ja, x9.jk⟩ : je))))) (am0)) (js (j2 _) (j5)) (Z9 (G.cond_pos hx76 hb))) ?_
 refine HT (jd (⟨x9.ji, x9.jf, x9.ja, x9.jk⟩ : je)) rfl (e_ (B x75)) (fun hb => qv vp f5 b205 (yh (j6 (⟨x9.ji, x9.jf, x9.ja, x9.jk⟩ : je)))) ?_
 obtain ⟨x77, hx77, h0⟩ := bs h0
 refine HTq (B x77) rfl (e_ (B x75)) (fun hb => j0 (by kernel_rfl) (am (gvp hb (e_ (gv x75 (jd x76)))) (am (gvp hb (e_ (gv x75 (jd (⟨x9.ji, x9.jf, x9.ja, x9.jk⟩ : je))))) (am0))) (js (j2 _) (js (j2 _) (j5))) (zho (G.cond_pos hx77 hb))) ?_
 refine Q2 (B (x75 && x77)) (vy (e_ (B x75)) (e_ (gv x75 (B x77))) rfl) ?_
 refine Q2 _ (jc (e_ (B (x75 && x77)))) ?_
 obtain ⟨x78, hx78, h0⟩ := bs h0
 refine HTq (B x78) rfl (e_ (B (x75 && x77))) (fun hb => j0 (by kernel_rfl) (am0) (j5) (Yr (G.cond_pos hx78 hb))) ?_
 refine Q2 (B ((x75 && x77) && x78)) (vy (e_ (B (x75 && x77))) (e_ (gv (x75 && x77) (B x78))) rfl) ?_
 refine Q2 _ (jg (e_ (B ((x75 && x77) && x78)))) ?_
 refine QF.nil ?_
 refine hK74 _ _ ?_
 refine A1 4 (e_ (B ((x75 && x77) && x78))) fun F f4 => ?_
 refine PC.ret ?_
 have h0 := pz h0
 subst h0
 exact fin (.inr rfl) (qa Try.results3 f4) (.u _)
end Go.Proofs.Ytpohfkgjghiofaa

namespace Go.Proofs.Ytpohfkgjghiofaa
open Go Go.RowKit L
set_option linter.unusedVariables false
set_option linter.unusedSimpArgs false
def zjc (l : List Int) : Prop := ∀ x ∈ l, 0 ≤ x ∧ x < 256
theorem zc0 {x : Int} (h0 : -9223372036854775808 ≤ x) (h1 : x ≤ 9223372036854775807) : w64 x = x := zke h0 h1
theorem zgl (a : Arr 256 Int) (ha : zjc a.1) : Tot (Qp a) (· = Q8 0 a.1) := by
  unfold Qp
  refine Tot.bind ?_
  refine Tot.forC (fun s => s.2) 256 (fun k s => s.2 = (k : Int) ∧ 0 ≤ s.1 ∧ s.1 ≤ (k : Int) ∧ Q8 0 a.1 = Q8 s.1 (a.1.drop k)) (fun k s h => h.1) ?_ ?_ ⟨rfl, by decide, by decide, by simp⟩
  · rintro k ⟨n, i⟩ hk ⟨h1, h2, h3, h4⟩
    simp only at h1 h2 h3 h4 ⊢
    subst h1
    have hkl : k < a.1.length := by rw [a.2]; exact hk
    have hb := ha _ (List.getElem_mem hkl)
    have hd : a.1.drop k = a.1[k] :: a.1.drop (k + 1) := List.drop_eq_getElem_cons hkl
    have hix : idx a.1 (k : Int) = some a.1[k] := zav (List.getElem?_eq_getElem hkl)
    have hw : w64 a.1[k] = a.1[k] := zc0 (by omega) (by omega)
    have hwn : w64 (n + 1) = n + 1 := zc0 (by omega) (by omega)
    have hwk : w64 ((k : Int) + 1) = ((k + 1 : Nat) : Int) := yi (by omega)
    rw [hd] at h4
    simp only [Q8] at h4
    have hdec : decide ((k : Int) < 256) = true := by simp; omega
    rw [hdec, G.ct]
    refine Tot.bindE (a := if n < a.1[k] then Sum.inr false else Sum.inl (if a.1[k] = n then n + 1 else n)) ?_ ?_
    · refine Tot.bind (Tot.lift hix ?_)
      rw [hw]
      refine Tot.cond (fun hb1 => Tot.pure ?_) fun hb1 => ?_
      · simp only [decide_eq_true_eq] at hb1; rw [if_pos hb1]
      · simp only [decide_eq_false_iff_not] at hb1
        rw [if_neg hb1]
        refine Tot.bind (Tot.lift hix ?_)
        rw [hw]
        refine Tot.cond (fun hb2 => Tot.pure ?_) fun hb2 => Tot.pure ?_
        · simp only [decide_eq_true_eq] at hb2; rw [if_pos hb2, hwn]
        · simp only [decide_eq_false_iff_not] at hb2; rw [if_neg hb2]
    · by_cases hlt : n < a.1[k]
      · rw [if_pos hlt] at h4 ⊢
        exact Tot.pure (Tot.pure h4.symm)
      · rw [if_neg hlt] at h4 ⊢
        refine Tot.pure ⟨hwk, ?_, ?_, h4⟩
        · split <;> omega
        · split <;> omega
  · rintro ⟨n, i⟩ ⟨h1, h2, h3, h4⟩
    simp only at h1 h2 h3 h4 ⊢
    subst h1
    refine Tot.pure (Tot.pure ?_)
    rw [h4, List.drop_of_length_le (by rw [a.2]; exact Nat.le_refl _)]; rfl
end Go.Proofs.Ytpohfkgjghiofaa

namespace Go.Proofs.Ytpohfkgjghiofaa
open Go Go.RowKit L
set_option linter.unusedVariables false
set_option linter.unusedSimpArgs false
theorem zph : ((List.range 256).all fun b => Zn (arZ 4 0) (b : Int) 0 == some false) = true := by kernel_rfl
theorem zni {b : Nat} (hb : b < 256) : Tot (Zn (arZ 4 0) (b : Int)) (· = false) := ⟨false, 0, fun n _ => by
  have := List.all_eq_true.1 zph b (List.mem_range.2 hb)
  exact beq_iff_eq.1 this, rfl⟩
def Yq (x : Int) : List Int → Option Nat
  | [] => none
  | y :: ys => if y = x then some 0 else (Yq x ys).map (· + 1)
def zcp (m : List Int) : List Int → List Int
  | [] => []
  | x :: xs => match Yq x m with
    | some j => (j : Int) :: zcp m xs
    | none => (m.length : Int) :: zcp (m ++ [x]) xs
def Y0 : Nat → List Int → List (jm × Int)
  | _, [] => []
  | j, c :: cs => (⟨c, false⟩, (j : Int)) :: Y0 (j + 1) cs
theorem zd3 : ∀ (j : Nat) (m : List Int), (Y0 j m).length = m.length
  | _, [] => rfl
  | j, c :: cs => by simp [Y0, zd3 (j + 1) cs]
theorem zes : ∀ (j : Nat) (m : List Int) (c : Int), Y0 j (m ++ [c]) = Y0 j m ++ [(⟨c, false⟩, ((j + m.length : Nat) : Int))]
  | _, [], _ => rfl
  | j, d :: cs, c => by
    simp only [List.cons_append, Y0, zes (j + 1) cs c, List.length_cons]
    rw [show j + 1 + cs.length = j + (cs.length + 1) by omega]
theorem zdt (x : Int) : ∀ (j i : Nat) (m : List Int), Zy (fun a b => (j1 a b).all id) (⟨x, false⟩ : jm) (Y0 j m) i = (Yq x m).map fun p => (i + p, ((j + p : Nat) : Int))
  | _, _, [] => rfl
  | j, i, c :: cs => by
    simp only [Y0, Zy, Yq]
    have e : ((j1 ⟨x, false⟩ ⟨c, false⟩).all id) = decide (x = c) := by
      simp [j1, BEq.beq]
    rw [e]
    by_cases h : c = x
    · subst h; simp
    · have h2 : ¬ x = c := fun e => h e.symm
      simp only [h, h2, decide_false, if_false, zdt x (j + 1) (i + 1) cs]
      cases Yq x cs with
      | none => rfl
      | some p => simp; omega
theorem zfa {x : Int} : ∀ {m : List Int}, Yq x m = none → Yq x (m ++ [x]) = some m.length
  | [], _ => by simp [Yq]
  | c :: cs, h => by
    simp only [Yq] at h
    split at h
    · cases h
    · rename_i hc
      have h2 : Yq x cs = none := by cases hp : Yq x cs <;> simp [hp] at h ⊢
      simp only [List.cons_append, Yq, if_neg hc, zfa h2, Option.map_some, List.length_cons]
theorem zex (x : Int) (m : List Int) : Qo (fun a b => (j1 a b).all id) (Y0 0 m) (⟨x, false⟩ : jm) = (Yq x m).map fun p => (p : Int) := by
  unfold Qo
  rw [zdt x 0 0 m]
  cases Yq x m with
  | none => rfl
  | some p => simp
theorem zm3 (a : Arr 256 Int) : Tot (Vn a (arZ 4 0)) (fun r => r.1 = zcp [] a.1) := by
  unfold Vn
  refine Tot.bind ?_
  refine Tot.forC (fun s => s.1) 256 (fun k s => s.1 = (k : Int) ∧ ∃ m done, s.2.2 = Y0 0 m ∧ m.length ≤ k ∧ s.2.1.1 = done ++ a.1.drop k ∧ done.length = k ∧ done ++ zcp m (a.1.drop k) = zcp [] a.1) (fun k s h => h.1) ?_ ?_ ⟨rfl, [], [], rfl, Nat.le_refl _, by simp, rfl, by simp⟩
  · rintro k ⟨i, b, mp⟩ hk ⟨h1, m, done, h2, h3, h4, h5, h6⟩
    simp only at h1 h2 h4 ⊢
    subst h1; subst h2
    have hkl : k < a.1.length := by rw [a.2]; exact hk
    have hd : a.1.drop k = a.1[k] :: a.1.drop (k + 1) := List.drop_eq_getElem_cons hkl
    rw [hd] at h4 h6
    have hix : idx b.1 (k : Int) = some a.1[k] := zav (by rw [h4, List.getElem?_append_right (by omega)]; simp [h5])
    have hwk : w64 ((k : Int) + 1) = ((k + 1 : Nat) : Int) := yi (by omega)
    have hu : IntKind.u8.wrap (k : Int) = (k : Int) := by
      unfold IntKind.wrap; simp [IntKind.signed, IntKind.bits]; omega
    have hdec : decide ((k : Int) < 256) = true := by simp; omega
    rw [hdec, G.ct]
    refine Tot.bind (Tot.lift hix ?_)
    rw [hu]
    refine Tot.bindE (zni hk) ?_
    have hset : ∀ v : Int, (arS b (k : Int) v).1 = (done ++ [v]) ++ a.1.drop (k + 1) := fun v => by
      show b.1.set (k : Int).toNat v = _
      rw [h4, Int.toNat_natCast, List.set_append_right _ _ (by omega), h5, Nat.sub_self, List.append_assoc]
      rfl
    rw [zex]
    cases hp : Yq a.1[k] m with
    | some p =>
      simp only [zcp, hp] at h6
      refine Tot.bind (Tot.pure ?_)
      refine Tot.bind (Tot.lift hix ?_)
      refine Tot.pure ⟨hwk, m, done ++ [(p : Int)], rfl, by omega, ?_, by simp [h5], by simpa using h6⟩
      show (arS b (k : Int) _).1 = _
      rw [hset, zex, hp]; rfl
    | none =>
      simp only [zcp, hp] at h6
      refine Tot.bind (Tot.pure ?_)
      refine Tot.bind (Tot.lift hix ?_)
      have hl : IntKind.u8.wrap ((Y0 0 m).length : Int) = (m.length : Int) := by
        rw [zd3]
        unfold IntKind.wrap; simp [IntKind.signed, IntKind.bits]; omega
      have hput : zin (fun a b => (j1 a b).all id) (Y0 0 m) (⟨a.1[k], false⟩ : jm) (IntKind.u8.wrap ((Y0 0 m).length : Int)) = Y0 0 (m ++ [a.1[k]]) := by
        unfold zin
        rw [zdt, hp, hl, zes]
        simp
      refine Tot.pure ⟨hwk, m ++ [a.1[k]], done ++ [(m.length : Int)], hput, by simp; omega, ?_, by simp [h5], by simpa using h6⟩
      show (arS b (k : Int) _).1 = _
      rw [hset]
      have : Qo (fun a b => (j1 a b).all id) (zin (fun a b => (j1 a b).all id) (Y0 0 m) (⟨a.1[k], false⟩ : jm) (IntKind.u8.wrap ((Y0 0 m).length : Int))) (⟨a.1[k], false⟩ : jm) = some (m.length : Int) := by
        rw [hput, zex, zfa hp]; rfl
      rw [this]; rfl
  · rintro ⟨i, b, mp⟩ ⟨h1, m, done, h2, h3, h4, h5, h6⟩
    simp only at h1 h2 h4 ⊢
    subst h1
    have hd : a.1.drop 256 = [] := List.drop_of_length_le (by rw [a.2]; exact Nat.le_refl _)
    rw [hd] at h4 h6
    refine Tot.pure (Tot.pure ?_)
    rw [h4, ← h6]; simp [zcp]
def zj4 (n : Nat) : List Int := (List.range n).map fun (i : Nat) => (i : Int)
theorem ziu (n : Nat) : zj4 (n + 1) = zj4 n ++ [(n : Int)] := by simp [zj4, List.range_succ]
theorem ziz (x : Int) (hx : 0 ≤ x) : ∀ n : Nat, Yq x (zj4 n) = if x < n then some x.toNat else none
  | 0 => by
    have : ¬ x < ((0 : Nat) : Int) := by omega
    rw [if_neg this]; rfl
  | n + 1 => by
    rw [ziu]
    have ih := ziz x hx n
    by_cases h : x < (n : Int)
    · rw [if_pos h] at ih
      rw [if_pos (by omega)]
      have key : ∀ (m : List Int) (p : Nat) (c : Int), Yq x m = some p → Yq x (m ++ [c]) = some p := by
        intro m
        induction m with
        | nil => intro p c h; cases h
        | cons d m ihm =>
          intro p c h
          simp only [Yq, List.cons_append] at h ⊢
          split at h
          · rename_i hd; rw [if_pos hd]; exact h
          · rename_i hd
            rw [if_neg hd]
            obtain ⟨q, hq, rfl⟩ := Option.map_eq_some_iff.1 h
            rw [ihm q c hq]; rfl
      exact key _ _ _ ih
    · rw [if_neg h] at ih
      by_cases h2 : x = (n : Int)
      · subst h2
        rw [zfa ih, if_pos (by omega)]
        simp [zj4]
      · have h3 : ¬ x < ((n + 1 : Nat) : Int) := by omega
        rw [if_neg h3]
        have key : ∀ (m : List Int) (c : Int), Yq x m = none → ¬ c = x → Yq x (m ++ [c]) = none := by
          intro m
          induction m with
          | nil => intro c _ hc; simp [Yq, hc]
          | cons d m ihm =>
            intro c h hc
            simp only [Yq, List.cons_append] at h ⊢
            split at h
            · cases h
            · rename_i hd
              rw [if_neg hd]
              have : Yq x m = none := by cases hq : Yq x m <;> simp [hq] at h ⊢
              rw [ihm c this hc]; rfl
        exact key _ _ ih (fun e => h2 e.symm)
theorem zcd : ∀ (l : List Int) (n : Nat), (∀ x ∈ l, 0 ≤ x) → (zcp (zj4 n) l = l ↔ Q8 n l = true)
  | [], n, _ => by simp [zcp, Q8]
  | x :: xs, n, h => by
    have hx := h x (by simp)
    have hxs : ∀ y ∈ xs, 0 ≤ y := fun y hy => h y (by simp [hy])
    simp only [zcp, Q8, ziz x hx n]
    by_cases h1 : x < (n : Int)
    · rw [if_pos h1, if_neg (by omega), if_neg (by omega)]
      have ih := zcd xs n hxs
      simp only [List.cons.injEq]
      have : ((x.toNat : Nat) : Int) = x := by omega
      rw [ih]; simp [this]
    · rw [if_neg h1]
      have hlen : (zj4 n).length = n := by simp [zj4]
      simp only [List.cons.injEq, hlen]
      by_cases h2 : x = (n : Int)
      · subst h2
        have ih := zcd xs (n + 1) hxs
        rw [ziu] at ih
        rw [if_neg (by omega), if_pos rfl, ih]
        simp
      · rw [if_pos (by omega)]
        constructor
        · rintro ⟨e, _⟩; exact absurd e.symm h2
        · intro e; cases e
theorem zib (a : Arr 256 Int) (ha : zjc a.1) : Tot (Vh a) (· = Q8 0 a.1) := by
  unfold Vh
  refine Tot.bind ((zm3 a).mono fun r hr => Tot.pure ?_)
  have h := zcd a.1 0 (fun x hx => (ha x hx).1)
  rw [show zj4 0 = [] from rfl, ← hr] at h
  rw [Bool.eq_iff_iff, beq_iff_eq]
  exact h
end Go.Proofs.Ytpohfkgjghiofaa

namespace Go.Proofs.Ytpohfkgjghiofaa
open Go Go.RowKit L
set_option linter.unusedVariables false
set_option linter.unusedSimpArgs false
def Ze (l : List Int) : Int := l.foldl (fun n c => max n (c + 1)) 0
theorem zll (a : Arr 256 Int) : Vr a = Jx a := rfl
theorem zi9 (a : Arr 256 Int) (ha : zjc a.1) : Tot (Jx a) (· = Ze a.1) := by
  unfold Jx
  refine Tot.bind ?_
  refine Tot.forC (fun s => s.2) 256 (fun k s => s.2 = (k : Int) ∧ 0 ≤ s.1 ∧ s.1 ≤ 256 ∧ (a.1.drop k).foldl (fun n c => max n (c + 1)) s.1 = Ze a.1) (fun k s h => h.1) ?_ ?_ ⟨rfl, by decide, by decide, by simp [Ze]⟩
  · rintro k ⟨n, i⟩ hk ⟨h1, h2, h3, h4⟩
    simp only at h1 h2 h3 h4 ⊢
    subst h1
    have hkl : k < a.1.length := by rw [a.2]; exact hk
    have hb := ha _ (List.getElem_mem hkl)
    have hd : a.1.drop k = a.1[k] :: a.1.drop (k + 1) := List.drop_eq_getElem_cons hkl
    have hix : idx a.1 (k : Int) = some a.1[k] := zav (List.getElem?_eq_getElem hkl)
    have hw : w64 a.1[k] = a.1[k] := zc0 (by omega) (by omega)
    have hw1 : w64 (a.1[k] + 1) = a.1[k] + 1 := zc0 (by omega) (by omega)
    have hwk : w64 ((k : Int) + 1) = ((k + 1 : Nat) : Int) := yi (by omega)
    rw [hd, List.foldl_cons] at h4
    have hdec : decide ((k : Int) < 256) = true := by simp; omega
    rw [hdec, G.ct]
    refine Tot.bind (Tot.lift hix (Tot.pure ?_))
    rw [hw, hw1]
    exact ⟨hwk, by omega, by omega, h4⟩
  · rintro ⟨n, i⟩ ⟨h1, h2, h3, h4⟩
    simp only at h1 h2 h3 h4 ⊢
    subst h1
    refine Tot.pure (Tot.pure ?_)
    rw [← h4, List.drop_of_length_le (by rw [a.2]; exact Nat.le_refl _)]; rfl
theorem zio (a : Arr 256 Int) (ha : zjc a.1) : Tot (Vr a) (· = Ze a.1) := zll a ▸ zi9 a ha
end Go.Proofs.Ytpohfkgjghiofaa

namespace Go.Proofs.Ytpohfkgjghiofaa
open Go Go.RowKit L
set_option linter.unusedVariables false
set_option linter.unusedSimpArgs false
def zid (n : Int) (row : List Int) : Bool := row.all fun c => !(decide (c < -1) || decide (n ≤ c))
theorem zl5 (row : List Int) (n : Int) (b0 : Bool) (hl : row.length ≤ 9223372036854775807) :
    Tot (G.loop (σ := (Bool × Int)) (α := Bool ⊕ Bool) (fun (x39, x40) => G.cond (decide (x40 < (row.length : Int))) (G.bind (G.lift (idx row x40)) fun x51 => G.cond ((decide (x51 < (-1))) || (decide (n ≤ x51))) (G.pure (.inr (.inl false))) (G.pure (.inl (x39, (w64 (x40 + 1)))))) (G.pure (.inr (.inr x39)))) (b0, 0)) (· = if zid n row then .inr b0 else .inl false) := by
  refine Tot.forC (fun s => s.2) row.length (fun k s => s.2 = (k : Int) ∧ s.1 = b0 ∧ zid n row = zid n (row.drop k)) (fun k s h => h.1) ?_ ?_ ⟨rfl, rfl, by simp⟩
  · rintro k ⟨b, i⟩ hk ⟨h1, h2, h3⟩
    simp only at h1 h2 h3 ⊢
    subst h1; subst h2
    have hd : row.drop k = row[k] :: row.drop (k + 1) := List.drop_eq_getElem_cons hk
    have hix : idx row (k : Int) = some row[k] := zav (List.getElem?_eq_getElem hk)
    have hwk : w64 ((k : Int) + 1) = ((k + 1 : Nat) : Int) := yi (by omega)
    have hdec : decide ((k : Int) < (row.length : Int)) = true := by simp; omega
    rw [hd] at h3
    have h4 : zid n (row[k] :: row.drop (k + 1)) = (!(decide (row[k] < -1) || decide (n ≤ row[k])) && zid n (row.drop (k + 1))) := rfl
    rw [h4] at h3
    rw [hdec, G.ct]
    refine Tot.bind (Tot.lift hix ?_)
    refine Tot.cond (fun hb => Tot.pure ?_) fun hb => Tot.pure ?_
    · rw [hb] at h3
      simp only [Bool.not_true, Bool.false_and] at h3
      rw [h3]; rfl
    · rw [hb] at h3
      exact ⟨hwk, rfl, by simpa using h3⟩
  · rintro ⟨b, i⟩ ⟨h1, h2, h3⟩
    simp only at h1 h2 h3 ⊢
    subst h1; subst h2
    have hdec : decide ((row.length : Int) < (row.length : Int)) = false := by simp
    rw [hdec]
    have h5 : zid n row = true := by rw [h3, List.drop_length]; rfl
    refine Tot.pure ?_
    rw [h5]; rfl
end Go.Proofs.Ytpohfkgjghiofaa

namespace Go.Proofs.Ytpohfkgjghiofaa
open Go Go.RowKit L
set_option linter.unusedVariables false
set_option linter.unusedSimpArgs false
def zdj (n w : Int) : List (List Int) → List Int → Bool
  | [], _ => true
  | r :: rs, t :: ts => !(decide (¬ (r.length : Int) = w) || decide (t < -1)) && zid n r && zdj n w rs ts
  | _ :: _, [] => false
def zk (d : je) : Bool := !(decide ((d.ja.length : Int) = 0) || decide (¬ (d.jk.length : Int) = (d.ja.length : Int))) && Q8 0 d.ji.1 && decide (Ze d.ji.1 = d.jf) && zdj d.ja.length d.jf d.ja d.jk
structure DOk (d : je) : Prop where
  cls : zjc d.ji.1
  next : d.ja.length ≤ 9223372036854775807
  rows : ∀ r ∈ d.ja, r.length ≤ 9223372036854775807
theorem zbd (d : je) (hd : DOk d) : Tot (Jo d) (· = zk d) := by
  unfold Jo
  by_cases hA : ((decide ((d.ja.length : Int) = 0)) || (decide (¬ (d.jk.length : Int) = (d.ja.length : Int)))) = true
  · have hR : zk d = false := by unfold zk; rw [hA]; rfl
    rw [hA, hR]
    exact Tot.pure rfl
  · simp only [Bool.not_eq_true] at hA
    have hlen : d.jk.length = d.ja.length := by
      rw [Bool.or_eq_false_iff] at hA
      have := hA.2
      simp at this
      omega
    rw [hA]
    refine Tot.bindE (zib d.ji hd.cls) ?_
    by_cases hB : Q8 0 d.ji.1 = true
    · rw [hB]
      refine Tot.bindE (zio d.ji hd.cls) ?_
      by_cases hC : Ze d.ji.1 = d.jf
      · have hR : zk d = zdj d.ja.length d.jf d.ja d.jk := by unfold zk; rw [hA, hB, hC]; simp
        rw [hR, hC]
        refine Tot.cond (fun h => by simp at h) fun _ => ?_
        refine Tot.bind (Tot.bind ?_)
        refine Tot.forC (fun s => s.2) d.ja.length (fun k s => s.2 = (k : Int) ∧ s.1 = true ∧ zdj d.ja.length d.jf d.ja d.jk = zdj d.ja.length d.jf (d.ja.drop k) (d.jk.drop k)) (fun k s h => h.1) ?_ ?_ ⟨rfl, rfl, by simp⟩
        · rintro k ⟨b, i⟩ hk ⟨h1, h2, h3⟩
          simp only at h1 h2 h3 ⊢
          subst h1; subst h2
          have hkl : k < d.jk.length := by omega
          have e1 : d.ja.drop k = d.ja[k] :: d.ja.drop (k + 1) := List.drop_eq_getElem_cons hk
          have e2 : d.jk.drop k = d.jk[k] :: d.jk.drop (k + 1) := List.drop_eq_getElem_cons hkl
          have hix : idx d.ja (k : Int) = some d.ja[k] := zav (List.getElem?_eq_getElem hk)
          have hil : idx d.jk (k : Int) = some d.jk[k] := zav (List.getElem?_eq_getElem hkl)
          have hwk : w64 ((k : Int) + 1) = ((k + 1 : Nat) : Int) := yi (by have := hd.next; omega)
          have hdec : decide ((k : Int) < (d.ja.length : Int)) = true := by simp; omega
          rw [e1, e2] at h3
          simp only [zdj] at h3
          rw [hdec, G.ct]
          refine Tot.bind (Tot.lift hix ?_)
          by_cases hw : ((d.ja[k]).length : Int) = d.jf
          · have hw2 : decide (¬ ((d.ja[k]).length : Int) = d.jf) = false := by simp [hw]
            simp only [hw2, Bool.not_false, Bool.false_or] at h3 ⊢
            refine Tot.bind (Tot.lift hil ?_)
            refine Tot.cond (fun hb => Tot.pure (Tot.pure (Tot.pure ?_))) fun hb => ?_
            · rw [hb] at h3; rw [h3]; rfl
            · rw [hb] at h3
              refine Tot.bindE (zl5 d.ja[k] d.ja.length true (hd.rows _ (List.getElem_mem hk))) ?_
              by_cases hr : zid d.ja.length d.ja[k] = true
              · rw [hr] at h3 ⊢
                exact Tot.pure ⟨hwk, rfl, by simpa using h3⟩
              · simp only [Bool.not_eq_true] at hr
                rw [hr] at h3 ⊢
                refine Tot.pure (Tot.pure (Tot.pure ?_))
                rw [h3]; rfl
          · have hw2 : decide (¬ ((d.ja[k]).length : Int) = d.jf) = true := by simp [hw]
            simp only [hw2, Bool.not_true, Bool.true_or] at h3 ⊢
            refine Tot.bind (Tot.pure (Tot.pure (Tot.pure (Tot.pure ?_))))
            rw [h3]; rfl
        · rintro ⟨b, i⟩ ⟨h1, h2, h3⟩
          simp only at h1 h2 h3 ⊢
          subst h1; subst h2
          have hdec : decide ((d.ja.length : Int) < (d.ja.length : Int)) = false := by simp
          rw [hdec]
          refine Tot.pure (Tot.pure (Tot.pure ?_))
          rw [h3, List.drop_length]; rfl
      · have hR : zk d = false := by unfold zk; simp [hC]
        rw [hR]
        refine Tot.cond (fun _ => Tot.pure rfl) fun h => ?_
        simp [hC] at h
    · simp only [Bool.not_eq_true] at hB
      have hR : zk d = false := by unfold zk; rw [hB]; simp
      rw [hB, hR]
      exact Tot.pure rfl
end Go.Proofs.Ytpohfkgjghiofaa

namespace Go.Proofs.Ytpohfkgjghiofaa
open Go Go.RowKit L
set_option linter.unusedVariables false
set_option linter.unusedSimpArgs false
inductive Rch (E : Nat → Nat → Prop) (S : Nat → Prop) : Nat → Prop
  | base {i : Nat} : S i → Rch E S i
  | step {i j : Nat} : Rch E S i → E i j → Rch E S j
def onB (l : List Bool) (i : Nat) : Prop := l[i]? = some true
theorem onB_lt {l : List Bool} {i : Nat} (h : onB l i) : i < l.length := (List.getElem?_eq_some_iff.1 h).1
theorem zmi {l : List Bool} {i j : Nat} (hi : i < l.length) : onB (l.set i true) j ↔ i = j ∨ onB l j := by
  unfold onB
  by_cases h : i = j
  · subst h; simp [List.getElem?_set_self hi]
  · rw [List.getElem?_set_ne h]; simp [h]
theorem zo3 {n i : Nat} : ¬ onB (List.replicate n false) i := by
  unfold onB
  intro h
  obtain ⟨h1, h2⟩ := List.getElem?_eq_some_iff.1 h
  simp at h2
def zbs (l : List Bool) : Nat := l.count false
theorem zmc (l : List Bool) : zbs l ≤ l.length := List.count_le_length
theorem zi8 (b : Bool) (l : List Bool) : zbs (b :: l) = zbs l + (if b then 0 else 1) := by
  unfold zbs; cases b <;> simp
theorem zj9 : ∀ {l : List Bool} {i : Nat}, l[i]? = some false → zbs (l.set i true) + 1 = zbs l
  | [], i, h => by simp at h
  | b :: l, 0, h => by
    simp at h; subst h
    simp [zi8]
  | b :: l, i + 1, h => by
    simp only [List.getElem?_cons_succ] at h
    have := zj9 h
    simp only [List.set_cons_succ, zi8]; omega
def LeB (a b : List Bool) : Prop := a.length = b.length ∧ ∀ i, onB a i → onB b i
theorem LeB.refl (a : List Bool) : LeB a a := ⟨rfl, fun _ h => h⟩
theorem LeB.trans {a b c : List Bool} (h : LeB a b) (h2 : LeB b c) : LeB a c := ⟨h.1.trans h2.1, fun i hi => h2.2 i (h.2 i hi)⟩
theorem LeB.set {a : List Bool} {i : Nat} (hi : i < a.length) : LeB a (a.set i true) := ⟨by simp, fun j hj => (zmi hi).2 (.inr hj)⟩
theorem ext_on {a b : List Bool} (hl : a.length = b.length) (h : ∀ i, onB a i ↔ onB b i) : a = b := by
  refine List.ext_getElem hl fun i h1 h2 => ?_
  have := h i
  unfold onB at this
  rw [List.getElem?_eq_getElem h1, List.getElem?_eq_getElem h2] at this
  cases e1 : a[i] <;> cases e2 : b[i] <;> simp [e1, e2] at this <;> rfl
noncomputable def zhc (n : Nat) (E : Nat → Nat → Prop) (S : Nat → Prop) : List Bool := by
  classical exact (List.range n).map fun i => decide (Rch E S i)
theorem zg6 (n : Nat) (E : Nat → Nat → Prop) (S : Nat → Prop) : (zhc n E S).length = n := by unfold zhc; simp
theorem zgf {n : Nat} {E : Nat → Nat → Prop} {S : Nat → Prop} {i : Nat} : onB (zhc n E S) i ↔ i < n ∧ Rch E S i := by
  classical
  unfold onB zhc
  by_cases h : i < n
  · simp [h]
  · simp [h]
theorem zoy {n : Nat} {E : Nat → Nat → Prop} {S : Nat → Prop} {l : List Bool} (hl : l.length = n) (hs : ∀ i, onB l i → Rch E S i) (h1 : ∀ i, S i → onB l i) (h2 : ∀ i j, onB l i → E i j → onB l j) : l = zhc n E S := by
  refine ext_on (by rw [hl, zg6]) fun i => ⟨fun h => zgf.2 ⟨hl ▸ onB_lt h, hs i h⟩, fun h => ?_⟩
  have := (zgf.1 h).2
  clear h
  induction this with
  | base h => exact h1 _ h
  | step _ h ih => exact h2 _ _ ih h
end Go.Proofs.Ytpohfkgjghiofaa

namespace Go.Proofs.Ytpohfkgjghiofaa
open Go Go.RowKit L
set_option linter.unusedVariables false
set_option linter.unusedSimpArgs false
def at' {α : Type} [Inhabited α] (l : List α) (z : Int) : α := l.getD z.toNat default
theorem zd {α : Type} [Inhabited α] {l : List α} {k : Nat} (h : k < l.length) : at' l (k : Int) = l[k] := by
  unfold at'; simp [h]
theorem at_get {α : Type} [Inhabited α] {l : List α} {k : Nat} {x : α} (h : l[k]? = some x) : at' l (k : Int) = x := by
  unfold at'; simp [h]
theorem idx_at {α : Type} [Inhabited α] {l : List α} {z : Int} (h0 : 0 ≤ z) (h1 : z < l.length) : idx l z = some (at' l z) := by
  obtain ⟨k, rfl⟩ := Int.eq_ofNat_of_zero_le h0
  have hk : k < l.length := by omega
  rw [zd hk]; exact zav (List.getElem?_eq_getElem hk)
theorem zb3 {α : Type} [Inhabited α] {l : List α} {z : Int} (h0 : 0 ≤ z) (h1 : z < l.length) : at' l z ∈ l := by
  obtain ⟨k, rfl⟩ := Int.eq_ofNat_of_zero_le h0
  have hk : k < l.length := by omega
  rw [zd hk]; exact List.getElem_mem hk
theorem zpd {α : Type} [Inhabited α] {l : List α} {z : Int} {v : α} (h0 : 0 ≤ z) (h1 : z < l.length) : at' (l.set z.toNat v) z = v := by
  unfold at'; simp [show z.toNat < l.length by omega]
theorem at_ne {α : Type} [Inhabited α] {l : List α} {z y : Int} {v : α} (h0 : 0 ≤ z) (hy : 0 ≤ y) (h : z ≠ y) : at' (l.set z.toNat v) y = at' l y := by
  unfold at'; simp only [List.getD_eq_getElem?_getD]; rw [List.getElem?_set_ne (by omega)]
theorem zji {l : List Bool} {k : Nat} : at' l (k : Int) = true ↔ onB l k := by
  unfold at' onB
  simp only [Int.toNat_natCast, List.getD_eq_getElem?_getD]
  cases h : l[k]? with
  | none => simp
  | some b => simp
theorem zoc {l : List Bool} {z : Int} (h0 : 0 ≤ z) : at' l z = true ↔ onB l z.toNat := by
  obtain ⟨k, rfl⟩ := Int.eq_ofNat_of_zero_le h0
  exact zji
theorem jy {p : Prop} [Decidable p] (h : p) : decide p = true := decide_eq_true h
theorem jx {p : Prop} [Decidable p] (h : ¬p) : decide p = false := decide_eq_false h
section
variable {α β γ : Type} {Q : γ → Prop}
theorem Tot.idx [Inhabited α] {l : List α} {z : Int} {f : α → G γ} (h0 : 0 ≤ z) (h1 : z < l.length) (h : Tot (f (at' l z)) Q) : Tot (G.bind (G.lift (L.idx l z)) f) Q := .bind (.lift (idx_at h0 h1) h)
theorem Tot.someB {o : Option α} {a : α} {f : α → G γ} (h : o = some a) (h2 : Tot (f a) Q) : Tot (G.bind (G.lift o) f) Q := .bind (.lift h h2)
theorem Tot.apnd {b : Nat} {xs ys : List α} {f : List α → G γ} (h1 : (xs.length + ys.length) * b ≤ 140737488355328) (h2 : xs.length + ys.length ≤ 140737488355328) (h : Tot (f (xs ++ ys)) Q) : Tot (G.bind (G.lift (app b xs ys)) f) Q := Tot.someB (app_of h1 h2) h
theorem Tot.mk {b : Nat} {z : α} {n : Int} {f : List α → G γ} (h0 : 0 ≤ n) (h1 : b * n.toNat ≤ 281474976710656) (h2 : n.toNat ≤ 281474976710656) (h : Tot (f (List.replicate n.toNat z)) Q) : Tot (G.bind (G.lift (mkS b z n)) f) Q := by
  obtain ⟨k, rfl⟩ := Int.eq_ofNat_of_zero_le h0
  exact Tot.someB (mkS_of (by simpa using h1) (by simpa using h2)) h
theorem Tot.bp {a : α} {f : α → G γ} (h : Tot (f a) Q) : Tot (G.bind (G.pure a) f) Q := h
theorem G.bb {m : G α} {f : α → G β} {g : β → G γ} : G.bind (G.bind m f) g = G.bind m fun a => G.bind (f a) g := by
  funext n
  unfold G.bind
  cases m n <;> rfl
theorem Tot.bb {m : G α} {f : α → G β} {g : β → G γ} (h : Tot (G.bind m fun a => G.bind (f a) g) Q) : Tot (G.bind (G.bind m f) g) Q := by rw [G.bb]; exact h
theorem Tot.bc {b : Bool} {x y : G α} {f : α → G γ} (h : Tot (G.cond b (G.bind x f) (G.bind y f)) Q) : Tot (G.bind (G.cond b x y) f) Q := by
  cases b <;> exact h
theorem Tot.ct {b : Bool} {x y : G γ} (hb : b = true) (h : Tot x Q) : Tot (G.cond b x y) Q := by subst hb; exact h
theorem Tot.cf {b : Bool} {x y : G γ} (hb : b = false) (h : Tot y Q) : Tot (G.cond b x y) Q := by subst hb; exact h
theorem Tot.rdx [Inhabited α] {l : List α} {z : Int} {f : α → G γ} (h : 0 ≤ z ∧ z < l.length) (h2 : Tot (f (at' l z)) Q) : Tot (G.bind (G.lift (L.idx l z)) f) Q := Tot.idx h.1 h.2 h2
theorem Tot.apx {b : Nat} {xs ys : List α} {f : List α → G γ} (h : (xs.length + ys.length) * b ≤ 140737488355328 ∧ xs.length + ys.length ≤ 140737488355328) (h2 : Tot (f (xs ++ ys)) Q) : Tot (G.bind (G.lift (app b xs ys)) f) Q := Tot.apnd h.1 h.2 h2
theorem Tot.mkx {b : Nat} {z : α} {n : Int} {f : List α → G γ} (h : 0 ≤ n ∧ b * n.toNat ≤ 281474976710656 ∧ n.toNat ≤ 281474976710656) (h2 : Tot (f (List.replicate n.toNat z)) Q) : Tot (G.bind (G.lift (mkS b z n)) f) Q := Tot.mk h.1 h.2.1 h.2.2 h2
theorem bl_ : ((!true) = false) ∧ ((!false) = true) ∧ (∀ b, (true && b) = b) ∧ (∀ b, (b && true) = b) ∧ (∀ b, (false && b) = false) ∧ (∀ b, (b && false) = false) ∧ (∀ b, (true || b) = true) ∧ (∀ b, (b || true) = true) ∧ (∀ b, (false || b) = b) ∧ (∀ b, (b || false) = b) ∧ (∀ (α : Type) (a : α) (l : List α), (a :: l).length = l.length + 1) ∧ (∀ (α : Type) (l m : List α), (l ++ m).length = l.length + m.length) ∧ (∀ (α : Type) (l : List α) (i : Nat) (a : α), (l.set i a).length = l.length) ∧ (∀ (α : Type), ([] : List α).length = 0) ∧ (∀ (α : Type) (n : Nat) (a : α), (List.replicate n a).length = n) ∧ (∀ (α β : Type) (f : α → β) (l : List α), (l.map f).length = l.length) ∧ (∀ n : Nat, (n : Int).toNat = n) := by
  refine ⟨rfl, rfl, ?_, ?_, ?_, ?_, ?_, ?_, ?_, ?_, ?_, ?_, ?_, ?_, ?_, ?_, ?_⟩ <;> intros <;> simp
theorem Tot.part {m : G α} {f : α → G γ} (R : α → Prop) (hm : Tot m R) (h : ∀ a, R a → Tot (f a) Q) : Tot (G.bind m f) Q := .bind (hm.mono h)
end
theorem zm6 {α : Type} {x : α} {l : List α} : zik (x :: l) 1 ((x :: l).length : Int) = some l := by
  unfold zik
  rw [if_pos ⟨by omega, by omega, by simp, by simp⟩]
  simp
theorem zn1 {α : Type} {xs ys : List α} (h : xs.length ≤ 10000000) : za9 xs ys = some ys := if_pos h
end Go.Proofs.Ytpohfkgjghiofaa

namespace Go.Proofs.Ytpohfkgjghiofaa
open Go Go.RowKit L
set_option linter.unusedVariables false
set_option linter.unusedSimpArgs false
structure MOk (d : je) : Prop where
  n0 : 0 < d.ja.length
  lab : d.jk.length = d.ja.length
  cls : Q8 0 d.ji.1 = true
  wid : Ze d.ji.1 = d.jf
  row : ∀ i : Int, 0 ≤ i → i < d.ja.length → ((at' d.ja i).length : Int) = d.jf
  lb : ∀ i : Int, 0 ≤ i → i < d.ja.length → -1 ≤ at' d.jk i
  nx : ∀ i c : Int, 0 ≤ i → i < d.ja.length → 0 ≤ c → c < d.jf → -1 ≤ at' (at' d.ja i) c ∧ at' (at' d.ja i) c < d.ja.length
theorem zir : ∀ (l : List Int) (n : Int), (∀ x ∈ l, 0 ≤ x ∧ x < 256) → 0 ≤ n → n ≤ 256 → n ≤ l.foldl (fun n c => max n (c + 1)) n ∧ l.foldl (fun n c => max n (c + 1)) n ≤ 256 ∧ ∀ x ∈ l, x < l.foldl (fun n c => max n (c + 1)) n
  | [], n, _, h0, h1 => ⟨Int.le_refl _, h1, fun x h => by cases h⟩
  | c :: cs, n, h, h0, h1 => by
    have hc := h c (by simp)
    obtain ⟨a, b, e⟩ := zir cs (max n (c + 1)) (fun x hx => h x (by simp [hx])) (by omega) (by omega)
    simp only [List.foldl_cons]
    refine ⟨by omega, b, fun x hx => ?_⟩
    rcases List.mem_cons.1 hx with rfl | hx
    · omega
    · exact e x hx
theorem zc1 {l : List Int} (h : zjc l) : 0 ≤ Ze l ∧ Ze l ≤ 256 ∧ ∀ x ∈ l, x < Ze l := by
  have := zir l 0 h (by decide) (by decide)
  exact this
theorem ze1 (n w : Int) : ∀ (rs : List (List Int)) (ts : List Int), ts.length = rs.length → (zdj n w rs ts = true ↔ ∀ k : Nat, k < rs.length → ((at' rs k).length : Int) = w ∧ -1 ≤ at' ts k ∧ ∀ c : Nat, c < (at' rs k).length → -1 ≤ at' (at' rs k) c ∧ at' (at' rs k) c < n)
  | [], _, _ => by simp [zdj]
  | r :: rs, [], h => by simp at h
  | r :: rs, t :: ts, h => by
    have ih := ze1 n w rs ts (by simpa using h)
    have e1 : ∀ k : Nat, at' (r :: rs) ((k + 1 : Nat) : Int) = at' rs (k : Int) := fun k => by unfold at'; simp
    have e2 : ∀ k : Nat, at' (t :: ts) ((k + 1 : Nat) : Int) = at' ts (k : Int) := fun k => by unfold at'; simp
    have e3 : at' (r :: rs) ((0 : Nat) : Int) = r := rfl
    have e4 : at' (t :: ts) ((0 : Nat) : Int) = t := rfl
    have hr : zid n r = true ↔ ∀ c : Nat, c < r.length → -1 ≤ at' r c ∧ at' r c < n := by
      unfold zid
      rw [List.all_eq_true]
      constructor
      · intro h c hc
        have := h _ (List.getElem_mem hc)
        rw [zd hc]
        simp at this; omega
      · intro h x hx
        obtain ⟨c, hc, rfl⟩ := List.getElem_of_mem hx
        have := h c hc
        rw [zd hc] at this
        simp; omega
    simp only [zdj, Bool.and_eq_true, ih, hr]
    constructor
    · rintro ⟨⟨ha, hb⟩, hc⟩ k hk
      cases k with
      | zero => rw [e3, e4]; simp at ha; exact ⟨by omega, by omega, hb⟩
      | succ k => rw [e1, e2]; exact hc k (by simpa using hk)
    · intro hall
      have h0 := hall 0 (by simp)
      rw [e3, e4] at h0
      refine ⟨⟨by simp; omega, h0.2.2⟩, fun k hk => ?_⟩
      have := hall (k + 1) (by simpa using hk)
      rwa [e1, e2] at this
theorem zt (d : je) : zk d = true ↔ MOk d := by
  unfold zk
  constructor
  · intro h
    simp only [Bool.and_eq_true, Bool.not_eq_true', Bool.or_eq_false_iff, decide_eq_false_iff_not, decide_eq_true_eq, Decidable.not_not] at h
    obtain ⟨⟨⟨⟨h1, h2⟩, h3⟩, h4⟩, h5⟩ := h
    have h6 := (ze1 _ _ _ _ (by omega)).1 h5
    refine ⟨by omega, by omega, h3, h4, ?_, ?_, ?_⟩
    · intro i h0 hi
      obtain ⟨k, rfl⟩ := Int.eq_ofNat_of_zero_le h0
      exact (h6 k (by omega)).1
    · intro i h0 hi
      obtain ⟨k, rfl⟩ := Int.eq_ofNat_of_zero_le h0
      exact (h6 k (by omega)).2.1
    · intro i c h0 hi hc0 hc
      obtain ⟨k, rfl⟩ := Int.eq_ofNat_of_zero_le h0
      obtain ⟨c, rfl⟩ := Int.eq_ofNat_of_zero_le hc0
      have := h6 k (by omega)
      exact this.2.2 c (by omega)
  · intro h
    have h5 : zdj d.ja.length d.jf d.ja d.jk = true := by
      refine (ze1 _ _ _ _ h.lab).2 fun k hk => ?_
      have h1 := h.row k (by omega) (by omega)
      have h2 := h.lb k (by omega) (by omega)
      exact ⟨h1, h2, fun c hc => h.nx k c (by omega) (by omega) (by omega) (by omega)⟩
    have := h.n0
    have := h.lab
    simp only [h5, h.cls, h.wid, Bool.and_true, decide_true, Bool.not_eq_true', Bool.or_eq_false_iff, decide_eq_false_iff_not, Decidable.not_not]
    omega
theorem Vf (d : je) (hd : DOk d) : Tot (y7 d) (· = zk d) := by
  have key : Tot (y7 d) (fun b => b = true ↔ MOk d) := by
    unfold y7
    refine Tot.bindE (zgl d.ji hd.cls) ?_
    cases hB : Q8 0 d.ji.1
    · repeat (first | with_reducible (refine Tot.bp ?_) | with_reducible (refine Tot.bb ?_) | (refine Tot.ct ?_ ?_; focus (first | with_reducible rfl | (simp (disch := omega) only [jy, jx, bl_]; done))) | (refine Tot.cf ?_ ?_; focus (first | with_reducible rfl | (simp (disch := omega) only [jy, jx, bl_]; done))) | with_reducible (refine Tot.bc ?_) | ((first | refine Tot.rdx ?_ ?_ | refine Tot.apx ?_ ?_ | refine Tot.mkx ?_ ?_); focus (first | omega | (simp; done) | (simp; omega))))
      refine Tot.pure ?_
      simp; intro h; rw [h.cls] at hB; cases hB
    repeat (first | with_reducible (refine Tot.bp ?_) | with_reducible (refine Tot.bb ?_) | (refine Tot.ct ?_ ?_; focus (first | with_reducible rfl | (simp (disch := omega) only [jy, jx, bl_]; done))) | (refine Tot.cf ?_ ?_; focus (first | with_reducible rfl | (simp (disch := omega) only [jy, jx, bl_]; done))) | with_reducible (refine Tot.bc ?_) | ((first | refine Tot.rdx ?_ ?_ | refine Tot.apx ?_ ?_ | refine Tot.mkx ?_ ?_); focus (first | omega | (simp; done) | (simp; omega))))
    refine Tot.bindE (zi9 d.ji hd.cls) ?_
    refine Tot.cond (fun hb => Tot.pure ?_) fun hb => ?_
    · simp
      intro h
      have h1 := h.n0
      have h2 := h.lab
      have h3 := h.wid
      simp only [Bool.not_true, Bool.false_or, Bool.or_eq_true, decide_eq_true_eq] at hb
      omega
    simp only [Bool.not_true, Bool.false_or, Bool.or_eq_false_iff, decide_eq_false_iff_not, Decidable.not_not] at hb
    obtain ⟨⟨b1, b2⟩, b3⟩ := hb
    obtain ⟨w0, w1, _⟩ := zc1 hd.cls
    have hn := hd.next
    refine Tot.bind ?_
    refine Tot.forC (fun s => s) d.ja.length (fun k s => s = (k : Int) ∧ ∀ i : Int, 0 ≤ i → i < k → ((at' d.ja i).length : Int) = d.jf ∧ -1 ≤ at' d.jk i ∧ ∀ c : Int, 0 ≤ c → c < d.jf → -1 ≤ at' (at' d.ja i) c ∧ at' (at' d.ja i) c < d.ja.length) (fun k s h => h.1) ?_ ?_ ⟨rfl, fun i h0 h1 => by omega⟩
    · rintro k _ hk ⟨rfl, hI⟩
      repeat (first | with_reducible (refine Tot.bp ?_) | with_reducible (refine Tot.bb ?_) | (refine Tot.ct ?_ ?_; focus (first | with_reducible rfl | (simp (disch := omega) only [jy, jx, bl_]; done))) | (refine Tot.cf ?_ ?_; focus (first | with_reducible rfl | (simp (disch := omega) only [jy, jx, bl_]; done))) | with_reducible (refine Tot.bc ?_) | ((first | refine Tot.rdx ?_ ?_ | refine Tot.apx ?_ ?_ | refine Tot.mkx ?_ ?_); focus (first | omega | (simp; done) | (simp; omega))))
      refine Tot.cond (fun hw => ?_) fun hw => ?_
      · simp only [Bool.not_eq_true', decide_eq_false_iff_not, Decidable.not_not] at hw
        repeat (first | with_reducible (refine Tot.bp ?_) | with_reducible (refine Tot.bb ?_) | (refine Tot.ct ?_ ?_; focus (first | with_reducible rfl | (simp (disch := omega) only [jy, jx, bl_]; done))) | (refine Tot.cf ?_ ?_; focus (first | with_reducible rfl | (simp (disch := omega) only [jy, jx, bl_]; done))) | with_reducible (refine Tot.bc ?_) | ((first | refine Tot.rdx ?_ ?_ | refine Tot.apx ?_ ?_ | refine Tot.mkx ?_ ?_); focus (first | omega | (simp; done) | (simp; omega))))
        refine Tot.cond (fun hl => Tot.pure (Tot.pure ?_)) fun hl => ?_
        · simp
          intro h
          have := h.lb k (by omega) (by omega)
          simp only [Bool.or_eq_true, decide_eq_true_eq] at hl
          omega
        simp only [Bool.or_eq_false_iff, decide_eq_false_iff_not, Decidable.not_not] at hl
        refine Tot.bind ?_
        refine Tot.forC (fun s => s) d.jf.toNat (fun c s => s = (c : Int) ∧ ∀ i : Int, 0 ≤ i → i < c → -1 ≤ at' (at' d.ja k) i ∧ at' (at' d.ja k) i < d.ja.length) (fun k s h => h.1) ?_ ?_ ⟨rfl, fun i h0 h1 => by omega⟩
        · rintro c _ hc ⟨rfl, hJ⟩
          have bad : ¬ (-1 ≤ at' (at' d.ja k) c ∧ at' (at' d.ja k) c < d.ja.length) → ¬ MOk d := fun hx h => hx (h.nx k c (by omega) (by omega) (by omega) (by omega))
          repeat (first | with_reducible (refine Tot.bp ?_) | with_reducible (refine Tot.bb ?_) | (refine Tot.ct ?_ ?_; focus (first | with_reducible rfl | (simp (disch := omega) only [jy, jx, bl_]; done))) | (refine Tot.cf ?_ ?_; focus (first | with_reducible rfl | (simp (disch := omega) only [jy, jx, bl_]; done))) | with_reducible (refine Tot.bc ?_) | ((first | refine Tot.rdx ?_ ?_ | refine Tot.apx ?_ ?_ | refine Tot.mkx ?_ ?_); focus (first | omega | (simp; done) | (simp; omega))))
          refine Tot.cond (fun h1 => ?_) fun h1 => ?_
          · simp only [Bool.not_eq_true', decide_eq_false_iff_not] at h1
            repeat (first | with_reducible (refine Tot.bp ?_) | with_reducible (refine Tot.bb ?_) | (refine Tot.ct ?_ ?_; focus (first | with_reducible rfl | (simp (disch := omega) only [jy, jx, bl_]; done))) | (refine Tot.cf ?_ ?_; focus (first | with_reducible rfl | (simp (disch := omega) only [jy, jx, bl_]; done))) | with_reducible (refine Tot.bc ?_) | ((first | refine Tot.rdx ?_ ?_ | refine Tot.apx ?_ ?_ | refine Tot.mkx ?_ ?_); focus (first | omega | (simp; done) | (simp; omega))))
            refine Tot.cond (fun h2 => Tot.pure (Tot.pure (Tot.pure ?_))) fun h2 => Tot.pure ?_
            · simp
              simp only [Bool.or_eq_true, decide_eq_true_eq] at h2
              exact bad (by omega)
            · simp only [Bool.or_eq_false_iff, decide_eq_false_iff_not] at h2
              refine ⟨yi (by omega), fun i h0 h3 => ?_⟩
              by_cases hi : i = c
              · subst hi; omega
              · exact hJ i h0 (by omega)
          · simp only [Bool.not_eq_false', decide_eq_true_eq] at h1
            repeat (first | with_reducible (refine Tot.bp ?_) | with_reducible (refine Tot.bb ?_) | (refine Tot.ct ?_ ?_; focus (first | with_reducible rfl | (simp (disch := omega) only [jy, jx, bl_]; done))) | (refine Tot.cf ?_ ?_; focus (first | with_reducible rfl | (simp (disch := omega) only [jy, jx, bl_]; done))) | with_reducible (refine Tot.bc ?_) | ((first | refine Tot.rdx ?_ ?_ | refine Tot.apx ?_ ?_ | refine Tot.mkx ?_ ?_); focus (first | omega | (simp; done) | (simp; omega))))
            refine Tot.pure (Tot.pure (Tot.pure ?_))
            simp
            exact bad (by omega)
        · rintro _ ⟨rfl, hJ⟩
          repeat (first | with_reducible (refine Tot.bp ?_) | with_reducible (refine Tot.bb ?_) | (refine Tot.ct ?_ ?_; focus (first | with_reducible rfl | (simp (disch := omega) only [jy, jx, bl_]; done))) | (refine Tot.cf ?_ ?_; focus (first | with_reducible rfl | (simp (disch := omega) only [jy, jx, bl_]; done))) | with_reducible (refine Tot.bc ?_) | ((first | refine Tot.rdx ?_ ?_ | refine Tot.apx ?_ ?_ | refine Tot.mkx ?_ ?_); focus (first | omega | (simp; done) | (simp; omega))))
          refine Tot.pure (Tot.pure ⟨yi (by omega), fun i h0 h3 => ?_⟩)
          by_cases hi : i = k
          · subst hi
            exact ⟨hw, by omega, fun c hc hc2 => hJ c hc (by omega)⟩
          · exact hI i h0 (by omega)
      · simp only [Bool.not_eq_false', decide_eq_true_eq] at hw
        repeat (first | with_reducible (refine Tot.bp ?_) | with_reducible (refine Tot.bb ?_) | (refine Tot.ct ?_ ?_; focus (first | with_reducible rfl | (simp (disch := omega) only [jy, jx, bl_]; done))) | (refine Tot.cf ?_ ?_; focus (first | with_reducible rfl | (simp (disch := omega) only [jy, jx, bl_]; done))) | with_reducible (refine Tot.bc ?_) | ((first | refine Tot.rdx ?_ ?_ | refine Tot.apx ?_ ?_ | refine Tot.mkx ?_ ?_); focus (first | omega | (simp; done) | (simp; omega))))
        refine Tot.pure (Tot.pure ?_)
        simp
        intro h
        exact hw (h.row k (by omega) (by omega))
    · rintro _ ⟨rfl, hI⟩
      repeat (first | with_reducible (refine Tot.bp ?_) | with_reducible (refine Tot.bb ?_) | (refine Tot.ct ?_ ?_; focus (first | with_reducible rfl | (simp (disch := omega) only [jy, jx, bl_]; done))) | (refine Tot.cf ?_ ?_; focus (first | with_reducible rfl | (simp (disch := omega) only [jy, jx, bl_]; done))) | with_reducible (refine Tot.bc ?_) | ((first | refine Tot.rdx ?_ ?_ | refine Tot.apx ?_ ?_ | refine Tot.mkx ?_ ?_); focus (first | omega | (simp; done) | (simp; omega))))
      refine Tot.pure (Tot.pure ?_)
      simp
      exact ⟨by omega, by omega, hB, b1.symm, fun i h0 h1 => (hI i h0 h1).1, fun i h0 h1 => (hI i h0 h1).2.1, fun i c h0 h1 => (hI i h0 h1).2.2 c⟩
  refine key.mono fun b hb => ?_
  rw [Bool.eq_iff_iff, hb, zt]
end Go.Proofs.Ytpohfkgjghiofaa

namespace Go.Proofs.Ytpohfkgjghiofaa
open Go Go.RowKit L
set_option linter.unusedVariables false
set_option linter.unusedSimpArgs false
theorem Qs {α : Type} [Inhabited α] {l : List α} {k : Nat} (h : k < l.length) (x : α) : x ∈ l.take (k + 1) ↔ x ∈ l.take k ∨ x = at' l (k : Int) := by
  rw [List.take_succ_eq_append_getElem h, zd h, List.mem_append]; simp
theorem zao {l : List Bool} {z : Int} {j : Nat} (h0 : 0 ≤ z) (h1 : z < l.length) : onB (l.set z.toNat true) j ↔ (j : Int) = z ∨ onB l j := by
  rw [zmi (by omega)]
  constructor
  · rintro (rfl | h)
    · left; omega
    · exact .inr h
  · rintro (h | h)
    · left; omega
    · exact .inr h
theorem zm8 {l : List Bool} {z : Int} (h0 : 0 ≤ z) (h1 : z < l.length) (h : at' l z = false) : zbs (l.set z.toNat true) + 1 = zbs l := by
  refine zj9 ?_
  obtain ⟨k, rfl⟩ := Int.eq_ofNat_of_zero_le h0
  have hk : k < l.length := by omega
  rw [zd hk] at h
  simp [hk, h]
theorem zgt (n : Nat) (beg : List Int) (to : Int → G (List Int)) (E : Nat → Nat → Prop) (hn : n ≤ 100000) (hbl : beg.length ≤ 100000) (hb : ∀ x ∈ beg, 0 ≤ x ∧ x < n)
    (hto : ∀ i : Nat, i < n → Tot (to i) (fun l => l.length ≤ 1000000000 ∧ (∀ x ∈ l, 0 ≤ x ∧ x < n) ∧ ∀ j : Nat, (j : Int) ∈ l ↔ E i j)) : Tot (Jy n beg to) (· = zhc n E fun i => (i : Int) ∈ beg) := by
  unfold Jy
  repeat (first | with_reducible (refine Tot.bp ?_) | with_reducible (refine Tot.bb ?_) | (refine Tot.ct ?_ ?_; focus (first | with_reducible rfl | (simp (disch := omega) only [jy, jx, bl_]; done))) | (refine Tot.cf ?_ ?_; focus (first | with_reducible rfl | (simp (disch := omega) only [jy, jx, bl_]; done))) | with_reducible (refine Tot.bc ?_) | ((first | refine Tot.rdx ?_ ?_ | refine Tot.apx ?_ ?_ | refine Tot.mkx ?_ ?_); focus (first | omega | (simp; done) | (simp; omega))))
  refine Tot.someB (zn1 (by omega)) ?_
  refine Tot.part (fun r => r.length = n ∧ ∀ i : Nat, onB r i ↔ (i : Int) ∈ beg) ?_ ?_
  · refine Tot.forC (fun s => s.1) beg.length (fun k s => s.1 = (k : Int) ∧ s.2.length = n ∧ ∀ i : Nat, onB s.2 i ↔ (i : Int) ∈ beg.take k) (fun k s h => h.1) ?_ ?_ ⟨rfl, by simp, fun i => by simp [zo3]⟩
    · rintro k ⟨_, l⟩ hk ⟨rfl, h1, h2⟩
      simp only at h1 h2
      have hx := hb _ (zb3 (l := beg) (z := (k : Int)) (by omega) (by omega))
      repeat (first | with_reducible (refine Tot.bp ?_) | with_reducible (refine Tot.bb ?_) | (refine Tot.ct ?_ ?_; focus (first | with_reducible rfl | (simp (disch := omega) only [jy, jx, bl_]; done))) | (refine Tot.cf ?_ ?_; focus (first | with_reducible rfl | (simp (disch := omega) only [jy, jx, bl_]; done))) | with_reducible (refine Tot.bc ?_) | ((first | refine Tot.rdx ?_ ?_ | refine Tot.apx ?_ ?_ | refine Tot.mkx ?_ ?_); focus (first | omega | (simp; done) | (simp; omega))))
      refine Tot.pure ⟨yi (by omega), by simp [h1], fun i => ?_⟩
      simp only
      rw [zao hx.1 (by omega), h2, Qs hk]
      constructor <;> (rintro (h | h) <;> simp [h])
    · rintro ⟨_, l⟩ ⟨rfl, h1, h2⟩
      simp only at h1 h2
      repeat (first | with_reducible (refine Tot.bp ?_) | with_reducible (refine Tot.bb ?_) | (refine Tot.ct ?_ ?_; focus (first | with_reducible rfl | (simp (disch := omega) only [jy, jx, bl_]; done))) | (refine Tot.cf ?_ ?_; focus (first | with_reducible rfl | (simp (disch := omega) only [jy, jx, bl_]; done))) | with_reducible (refine Tot.bc ?_) | ((first | refine Tot.rdx ?_ ?_ | refine Tot.apx ?_ ?_ | refine Tot.mkx ?_ ?_); focus (first | omega | (simp; done) | (simp; omega))))
      refine Tot.pure ⟨h1, fun i => ?_⟩
      rw [h2, List.take_length]
  · rintro m ⟨m1, m2⟩
    refine Tot.part (· = zhc n E fun i => (i : Int) ∈ beg) ?_ (fun a ha => Tot.pure ha)
    refine Tot.loop (fun s : List Bool × List Int => s.1.length = n ∧ (∀ x ∈ s.2, 0 ≤ x ∧ x < n ∧ onB s.1 x.toNat) ∧ (∀ i, onB s.1 i → Rch E (fun i => (i : Int) ∈ beg) i) ∧ (∀ i : Nat, (i : Int) ∈ beg → onB s.1 i) ∧ (∀ i j, onB s.1 i → E i j → onB s.1 j ∨ (i : Int) ∈ s.2) ∧ zbs s.1 + s.2.length ≤ n + beg.length) (fun s : List Bool × List Int => 2 * zbs s.1 + s.2.length) ?_ ⟨m1, ?_, fun i hi => .base ((m2 i).1 hi), fun i hi => (m2 i).2 hi, fun i j hi _ => .inr ((m2 i).1 hi), ?_⟩
    · rintro ⟨l, wait⟩ ⟨h1, h2, h3, h4, h5, h6⟩
      simp only at h1 h2 h3 h4 h5 h6
      cases wait with
      | nil =>
        repeat (first | with_reducible (refine Tot.bp ?_) | with_reducible (refine Tot.bb ?_) | (refine Tot.ct ?_ ?_; focus (first | with_reducible rfl | (simp (disch := omega) only [jy, jx, bl_]; done))) | (refine Tot.cf ?_ ?_; focus (first | with_reducible rfl | (simp (disch := omega) only [jy, jx, bl_]; done))) | with_reducible (refine Tot.bc ?_) | ((first | refine Tot.rdx ?_ ?_ | refine Tot.apx ?_ ?_ | refine Tot.mkx ?_ ?_); focus (first | omega | (simp; done) | (simp; omega))))
        refine Tot.pure (zoy h1 h3 h4 fun i j hi he => ?_)
        rcases h5 i j hi he with h | h
        · exact h
        · simp at h
      | cons x rest =>
        have hx := h2 x (by simp)
        obtain ⟨q, rfl⟩ := Int.eq_ofNat_of_zero_le hx.1
        simp only [List.length_cons] at h6
        repeat (first | with_reducible (refine Tot.bp ?_) | with_reducible (refine Tot.bb ?_) | (refine Tot.ct ?_ ?_; focus (first | with_reducible rfl | (simp (disch := omega) only [jy, jx, bl_]; done))) | (refine Tot.cf ?_ ?_; focus (first | with_reducible rfl | (simp (disch := omega) only [jy, jx, bl_]; done))) | with_reducible (refine Tot.bc ?_) | ((first | refine Tot.rdx ?_ ?_ | refine Tot.apx ?_ ?_ | refine Tot.mkx ?_ ?_); focus (first | omega | (simp; done) | (simp; omega))))
        refine Tot.someB zm6 ?_
        refine Tot.bind ((hto q (by omega)).mono fun nx hnx => ?_)
        obtain ⟨n0, n1, n2⟩ := hnx
        refine Tot.part (fun (r : List Bool × List Int) => r.1.length = n ∧ LeB l r.1 ∧ (∀ y ∈ r.2, 0 ≤ y ∧ y < n ∧ onB r.1 y.toNat) ∧ (∀ i, onB r.1 i → Rch E (fun i => (i : Int) ∈ beg) i) ∧ (∀ y ∈ nx, onB r.1 y.toNat) ∧ (∀ i, onB r.1 i → onB l i ∨ (i : Int) ∈ r.2) ∧ (∀ y ∈ rest, y ∈ r.2) ∧ zbs r.1 + r.2.length = zbs l + rest.length ∧ zbs r.1 ≤ zbs l) ?_ ?_
        · refine Tot.forC (fun s => s.1) nx.length (fun k (s : Int × List Bool × List Int) => s.1 = (k : Int) ∧ s.2.1.length = n ∧ LeB l s.2.1 ∧ (∀ y ∈ s.2.2, 0 ≤ y ∧ y < n ∧ onB s.2.1 y.toNat) ∧ (∀ i, onB s.2.1 i → Rch E (fun i => (i : Int) ∈ beg) i) ∧ (∀ y ∈ nx.take k, onB s.2.1 y.toNat) ∧ (∀ i, onB s.2.1 i → onB l i ∨ (i : Int) ∈ s.2.2) ∧ (∀ y ∈ rest, y ∈ s.2.2) ∧ zbs s.2.1 + s.2.2.length = zbs l + rest.length ∧ zbs s.2.1 ≤ zbs l) (fun k s h => h.1) ?_ ?_ ⟨rfl, h1, LeB.refl _, fun y hy => h2 y (by simp [hy]), h3, by simp, fun i hi => .inl hi, fun y hy => hy, rfl, Nat.le_refl _⟩
          · rintro k ⟨_, a, w⟩ hk ⟨rfl, k1, k2, k3, k4, k5, k6, k7, k8, k9⟩
            simp only at k1 k2 k3 k4 k5 k6 k7 k8 k9
            have hmem := zb3 (l := nx) (z := (k : Int)) (by omega) (by omega)
            have hy := n1 _ hmem
            have ho := zmc l
            repeat (first | with_reducible (refine Tot.bp ?_) | with_reducible (refine Tot.bb ?_) | (refine Tot.ct ?_ ?_; focus (first | with_reducible rfl | (simp (disch := omega) only [jy, jx, bl_]; done))) | (refine Tot.cf ?_ ?_; focus (first | with_reducible rfl | (simp (disch := omega) only [jy, jx, bl_]; done))) | with_reducible (refine Tot.bc ?_) | ((first | refine Tot.rdx ?_ ?_ | refine Tot.apx ?_ ?_ | refine Tot.mkx ?_ ?_); focus (first | omega | (simp; done) | (simp; omega))))
            refine Tot.cond (fun hb => ?_) fun hb => ?_
            · simp only [Bool.not_eq_true'] at hb
              repeat (first | with_reducible (refine Tot.bp ?_) | with_reducible (refine Tot.bb ?_) | (refine Tot.ct ?_ ?_; focus (first | with_reducible rfl | (simp (disch := omega) only [jy, jx, bl_]; done))) | (refine Tot.cf ?_ ?_; focus (first | with_reducible rfl | (simp (disch := omega) only [jy, jx, bl_]; done))) | with_reducible (refine Tot.bc ?_) | ((first | refine Tot.rdx ?_ ?_ | refine Tot.apx ?_ ?_ | refine Tot.mkx ?_ ?_); focus (first | omega | (simp; done) | (simp; omega))))
              have hof := zm8 hy.1 (by omega) hb
              obtain ⟨j, hj⟩ := Int.eq_ofNat_of_zero_le hy.1
              refine Tot.pure ⟨yi (by omega), by simp [k1], k2.trans (LeB.set (by omega)), ?_, ?_, ?_, ?_, ?_, ?_, ?_⟩
              all_goals simp only
              · intro y hy2
                rcases List.mem_append.1 hy2 with h | h
                · have := k3 y h
                  exact ⟨this.1, this.2.1, (zao hy.1 (by omega)).2 (.inr this.2.2)⟩
                · simp at h; subst h
                  exact ⟨hy.1, hy.2, (zao hy.1 (by omega)).2 (.inl (by omega))⟩
              · intro i hi
                rcases (zao hy.1 (by omega)).1 hi with h | h
                · exact .step (h3 q (by simpa using hx.2.2)) ((n2 i).1 (h ▸ hmem))
                · exact k4 i h
              · intro y hy2
                refine (zao hy.1 (by omega)).2 ?_
                rcases (Qs hk y).1 hy2 with h | h
                · exact .inr (k5 y h)
                · left; subst h; omega
              · intro i hi
                rcases (zao hy.1 (by omega)).1 hi with h | h
                · right; simp [h]
                · rcases k6 i h with h | h
                  · exact .inl h
                  · right; simp [h]
              · intro y hy2; simp [k7 y hy2]
              · simp; omega
              · omega
            · simp only [Bool.not_eq_false'] at hb
              refine Tot.pure ⟨yi (by omega), k1, k2, k3, k4, ?_, k6, k7, k8, k9⟩
              intro y hy2
              rcases (Qs hk y).1 hy2 with h | h
              · exact k5 y h
              · subst h; exact (zoc hy.1).1 hb
          · rintro ⟨_, a, w⟩ ⟨rfl, k1, k2, k3, k4, k5, k6, k7, k8, k9⟩
            repeat (first | with_reducible (refine Tot.bp ?_) | with_reducible (refine Tot.bb ?_) | (refine Tot.ct ?_ ?_; focus (first | with_reducible rfl | (simp (disch := omega) only [jy, jx, bl_]; done))) | (refine Tot.cf ?_ ?_; focus (first | with_reducible rfl | (simp (disch := omega) only [jy, jx, bl_]; done))) | with_reducible (refine Tot.bc ?_) | ((first | refine Tot.rdx ?_ ?_ | refine Tot.apx ?_ ?_ | refine Tot.mkx ?_ ?_); focus (first | omega | (simp; done) | (simp; omega))))
            rw [List.take_length] at k5
            exact Tot.pure ⟨k1, k2, k3, k4, k5, k6, k7, k8, k9⟩
        · rintro ⟨a, w⟩ ⟨k1, k2, k3, k4, k5, k6, k7, k8, k9⟩
          simp only at k1 k2 k3 k4 k5 k6 k7 k8 k9
          refine Tot.pure ⟨⟨k1, k3, k4, fun i hi => k2.2 i (h4 i hi), ?_, ?_⟩, ?_⟩
          · intro i j hi he
            simp only at hi ⊢
            rcases k6 i hi with h | h
            · rcases h5 i j h he with h | h
              · exact .inl (k2.2 j h)
              · rcases List.mem_cons.1 h with h | h
                · left
                  have : i = q := by omega
                  subst this
                  have := k5 _ ((n2 j).2 he)
                  simpa using this
                · exact .inr (k7 _ h)
            · exact .inr h
          · simp only; omega
          · simp only [List.length_cons]; omega
    · intro x hx
      have := hb x hx
      obtain ⟨q, rfl⟩ := Int.eq_ofNat_of_zero_le this.1
      exact ⟨this.1, this.2, by simpa using (m2 q).2 hx⟩
    · have := zmc m
      simp only; omega
end Go.Proofs.Ytpohfkgjghiofaa

namespace Go.Proofs.Ytpohfkgjghiofaa
open Go Go.RowKit L
set_option linter.unusedVariables false
set_option linter.unusedSimpArgs false
def nxt (d : je) (i : Nat) (c : Int) : Int := at' (at' d.ja i) c
def dE (d : je) (i j : Nat) : Prop := i < d.ja.length ∧ ∃ c : Int, 0 ≤ c ∧ c < d.jf ∧ nxt d i c = j
def zac (d : je) (i : Nat) : Int := at' d.jk i
noncomputable def Vo (d : je) : List Bool := if zk d then zhc d.ja.length (dE d) (fun i => i = 0) else []
noncomputable def za0 (d : je) : List Bool := if zk d then zhc d.ja.length (fun i j => dE d j i) (fun i => i < d.ja.length ∧ 0 ≤ zac d i) else []
theorem zc4 {d : je} (hd : DOk d) (hm : MOk d) : 0 ≤ d.jf ∧ d.jf ≤ 256 := by
  have := zc1 hd.cls
  rw [← hm.wid]; exact ⟨this.1, this.2.1⟩
theorem zev {α : Type} [Inhabited α] {l : List α} {k : Nat} (h : k < l.length) (p : α → Bool) : (l.take (k + 1)).filter p = if p (at' l (k : Int)) then (l.take k).filter p ++ [at' l (k : Int)] else (l.take k).filter p := by
  rw [List.take_succ_eq_append_getElem h, zd h, List.filter_append]
  by_cases hp : p l[k] <;> simp [hp]
theorem zor (d : je) (hd : DOk d) (hm : MOk d) (i : Nat) (hi : i < d.ja.length) : Tot (Vu d i) (· = (at' d.ja i).filter fun x => decide (0 ≤ x)) := by
  unfold Vu
  have hw := zc4 hd hm
  have hr := hm.row i (by omega) (by omega)
  repeat (first | with_reducible (refine Tot.bp ?_) | with_reducible (refine Tot.bb ?_) | (refine Tot.ct ?_ ?_; focus (first | with_reducible rfl | (simp (disch := omega) only [jy, jx, bl_]; done))) | (refine Tot.cf ?_ ?_; focus (first | with_reducible rfl | (simp (disch := omega) only [jy, jx, bl_]; done))) | with_reducible (refine Tot.bc ?_) | ((first | refine Tot.rdx ?_ ?_ | refine Tot.apx ?_ ?_ | refine Tot.mkx ?_ ?_); focus (first | omega | (simp; done) | (simp; omega))))
  refine Tot.part (· = (at' d.ja i).filter fun x => decide (0 ≤ x)) ?_ fun a ha => Tot.pure ha
  refine Tot.forC (fun s => s.1) (at' d.ja i).length (fun k (s : Int × List Int) => s.1 = (k : Int) ∧ s.2 = ((at' d.ja i).take k).filter fun x => decide (0 ≤ x)) (fun k s h => h.1) ?_ ?_ ⟨rfl, by simp⟩
  · rintro k ⟨_, l⟩ hk ⟨rfl, h⟩
    simp only at h
    have hl : l.length ≤ k := by rw [h]; exact Nat.le_trans (List.length_filter_le ..) (by simp; omega)
    have hs := zev hk (fun x => decide (0 ≤ x))
    rw [← h] at hs
    repeat (first | with_reducible (refine Tot.bp ?_) | with_reducible (refine Tot.bb ?_) | (refine Tot.ct ?_ ?_; focus (first | with_reducible rfl | (simp (disch := omega) only [jy, jx, bl_]; done))) | (refine Tot.cf ?_ ?_; focus (first | with_reducible rfl | (simp (disch := omega) only [jy, jx, bl_]; done))) | with_reducible (refine Tot.bc ?_) | ((first | refine Tot.rdx ?_ ?_ | refine Tot.apx ?_ ?_ | refine Tot.mkx ?_ ?_); focus (first | omega | (simp; done) | (simp; omega))))
    refine Tot.cond (fun hb => ?_) fun hb => ?_
    · repeat (first | with_reducible (refine Tot.bp ?_) | with_reducible (refine Tot.bb ?_) | (refine Tot.ct ?_ ?_; focus (first | with_reducible rfl | (simp (disch := omega) only [jy, jx, bl_]; done))) | (refine Tot.cf ?_ ?_; focus (first | with_reducible rfl | (simp (disch := omega) only [jy, jx, bl_]; done))) | with_reducible (refine Tot.bc ?_) | ((first | refine Tot.rdx ?_ ?_ | refine Tot.apx ?_ ?_ | refine Tot.mkx ?_ ?_); focus (first | omega | (simp; done) | (simp; omega))))
      rw [hb, if_pos rfl] at hs
      exact Tot.pure ⟨yi (by omega), hs.symm⟩
    · rw [hb] at hs
      exact Tot.pure ⟨yi (by omega), hs.symm⟩
  · rintro ⟨_, l⟩ ⟨rfl, h⟩
    repeat (first | with_reducible (refine Tot.bp ?_) | with_reducible (refine Tot.bb ?_) | (refine Tot.ct ?_ ?_; focus (first | with_reducible rfl | (simp (disch := omega) only [jy, jx, bl_]; done))) | (refine Tot.cf ?_ ?_; focus (first | with_reducible rfl | (simp (disch := omega) only [jy, jx, bl_]; done))) | with_reducible (refine Tot.bc ?_) | ((first | refine Tot.rdx ?_ ?_ | refine Tot.apx ?_ ?_ | refine Tot.mkx ?_ ?_); focus (first | omega | (simp; done) | (simp; omega))))
    rw [List.take_length] at h
    exact Tot.pure h
theorem zmn {d : je} (hm : MOk d) {i : Nat} (hi : i < d.ja.length) {x : Int} : x ∈ at' d.ja i ↔ ∃ c : Int, 0 ≤ c ∧ c < d.jf ∧ nxt d i c = x := by
  have hr := hm.row i (by omega) (by omega)
  constructor
  · intro h
    obtain ⟨c, hc, rfl⟩ := List.getElem_of_mem h
    exact ⟨c, by omega, by omega, by unfold nxt; rw [zd hc]⟩
  · rintro ⟨c, h0, h1, rfl⟩
    exact zb3 h0 (by omega)
theorem zku (d : je) (hd : DOk d) (hm : MOk d) (i : Nat) (hi : i < d.ja.length) : ((at' d.ja i).filter fun x => decide (0 ≤ x)).length ≤ 256 ∧ (∀ x ∈ (at' d.ja i).filter fun x => decide (0 ≤ x), 0 ≤ x ∧ x < d.ja.length) ∧ ∀ j : Nat, (j : Int) ∈ ((at' d.ja i).filter fun x => decide (0 ≤ x)) ↔ dE d i j := by
  have hw := zc4 hd hm
  have hr := hm.row i (by omega) (by omega)
  refine ⟨Nat.le_trans (List.length_filter_le ..) (by omega), fun x hx => ?_, fun j => ?_⟩
  · obtain ⟨h1, h2⟩ := List.mem_filter.1 hx
    obtain ⟨c, h3, h4, rfl⟩ := (zmn hm hi).1 h1
    have := hm.nx i c (by omega) (by omega) h3 h4
    simp at h2
    exact ⟨h2, this.2⟩
  · rw [List.mem_filter, zmn hm hi]
    unfold dE
    simp [hi]
theorem zbj (d : je) (hd : DOk d) (hn : d.ja.length ≤ 300) : Tot (zx d) (· = Vo d) := by
  unfold zx Vo
  refine Tot.bindE (zbd d hd) ?_
  cases hR : zk d
  · repeat (first | with_reducible (refine Tot.bp ?_) | with_reducible (refine Tot.bb ?_) | (refine Tot.ct ?_ ?_; focus (first | with_reducible rfl | (simp (disch := omega) only [jy, jx, bl_]; done))) | (refine Tot.cf ?_ ?_; focus (first | with_reducible rfl | (simp (disch := omega) only [jy, jx, bl_]; done))) | with_reducible (refine Tot.bc ?_) | ((first | refine Tot.rdx ?_ ?_ | refine Tot.apx ?_ ?_ | refine Tot.mkx ?_ ?_); focus (first | omega | (simp; done) | (simp; omega))))
    exact Tot.pure rfl
  have hm := (zt d).1 hR
  have := hm.n0
  repeat (first | with_reducible (refine Tot.bp ?_) | with_reducible (refine Tot.bb ?_) | (refine Tot.ct ?_ ?_; focus (first | with_reducible rfl | (simp (disch := omega) only [jy, jx, bl_]; done))) | (refine Tot.cf ?_ ?_; focus (first | with_reducible rfl | (simp (disch := omega) only [jy, jx, bl_]; done))) | with_reducible (refine Tot.bc ?_) | ((first | refine Tot.rdx ?_ ?_ | refine Tot.apx ?_ ?_ | refine Tot.mkx ?_ ?_); focus (first | omega | (simp; done) | (simp; omega))))
  refine Tot.part (· = zhc d.ja.length (dE d) (fun i => i = 0)) ?_ (fun a ha => Tot.pure ha)
  have h := zgt d.ja.length [0] (fun y => Jj y d) (dE d) (by omega) (by simp) (fun x hx => by simp at hx; subst hx; omega) (fun i hi => by
    unfold Jj
    refine Tot.bindE (zor d hd hm i hi) (Tot.pure ?_)
    obtain ⟨h1, h2, h3⟩ := zku d hd hm i hi
    exact ⟨by omega, h2, h3⟩)
  refine h.mono fun a ha => ?_
  rw [ha]
  congr 1
  funext i
  simp
end Go.Proofs.Ytpohfkgjghiofaa

namespace Go.Proofs.Ytpohfkgjghiofaa
open Go Go.RowKit L
set_option linter.unusedVariables false
set_option linter.unusedSimpArgs false
theorem zge {α : Type} [Inhabited α] {l : List α} {z : Int} {j : Nat} {v : α} (h0 : 0 ≤ z) (h1 : z < l.length) : at' (l.set z.toNat v) (j : Int) = if (j : Int) = z then v else at' l (j : Int) := by
  by_cases h : (j : Int) = z
  · rw [if_pos h, h]; exact zpd h0 h1
  · rw [if_neg h]; exact at_ne h0 (by omega) (fun e => h e.symm)
theorem at_rep {α : Type} [Inhabited α] {n j : Nat} {v : α} (h : j < n) : at' (List.replicate n v) (j : Int) = v := by
  rw [zd (by simpa using h)]; simp
theorem zdd (d : je) (hd : DOk d) (hn : d.ja.length ≤ 300) : Tot (Qj d) (· = za0 d) := by
  unfold Qj za0
  refine Tot.bindE (zbd d hd) ?_
  cases hR : zk d
  · repeat (first | with_reducible (refine Tot.bp ?_) | with_reducible (refine Tot.bb ?_) | (refine Tot.ct ?_ ?_; focus (first | with_reducible rfl | (simp (disch := omega) only [jy, jx, bl_]; done))) | (refine Tot.cf ?_ ?_; focus (first | with_reducible rfl | (simp (disch := omega) only [jy, jx, bl_]; done))) | with_reducible (refine Tot.bc ?_) | ((first | refine Tot.rdx ?_ ?_ | refine Tot.apx ?_ ?_ | refine Tot.mkx ?_ ?_); focus (first | omega | (simp; done) | (simp; omega))))
    exact Tot.pure rfl
  have hm := (zt d).1 hR
  have hn0 := hm.n0
  have hlab := hm.lab
  have hw := zc4 hd hm
  repeat (first | with_reducible (refine Tot.bp ?_) | with_reducible (refine Tot.bb ?_) | (refine Tot.ct ?_ ?_; focus (first | with_reducible rfl | (simp (disch := omega) only [jy, jx, bl_]; done))) | (refine Tot.cf ?_ ?_; focus (first | with_reducible rfl | (simp (disch := omega) only [jy, jx, bl_]; done))) | with_reducible (refine Tot.bc ?_) | ((first | refine Tot.rdx ?_ ?_ | refine Tot.apx ?_ ?_ | refine Tot.mkx ?_ ?_); focus (first | omega | (simp; done) | (simp; omega))))
  generalize hA : List.replicate (d.ja.length : Int).toNat ([] : List Int) = A
  have hA1 : A.length = d.ja.length := by rw [← hA]; simp
  have hA2 : ∀ j : Nat, j < d.ja.length → at' A (j : Int) = [] := fun j hj => by rw [← hA]; exact at_rep (by simpa using hj)
  refine Tot.part (fun (r : List Int × List (List Int)) => r.1.length ≤ d.ja.length ∧ (∀ x ∈ r.1, 0 ≤ x) ∧ (∀ i : Nat, (i : Int) ∈ r.1 ↔ i < d.ja.length ∧ 0 ≤ zac d i) ∧ r.2.length = d.ja.length ∧ ∀ j : Nat, j < d.ja.length → (at' r.2 j).length ≤ d.ja.length * 256 ∧ (∀ x ∈ at' r.2 j, 0 ≤ x) ∧ ∀ i : Nat, (i : Int) ∈ at' r.2 j ↔ dE d i j) ?_ ?_
  · refine Tot.forC (fun s => s.1) d.ja.length (fun k (s : Int × List Int × List (List Int)) => s.1 = (k : Int) ∧ s.2.1.length ≤ k ∧ (∀ x ∈ s.2.1, 0 ≤ x) ∧ (∀ i : Nat, (i : Int) ∈ s.2.1 ↔ i < k ∧ 0 ≤ zac d i) ∧ s.2.2.length = d.ja.length ∧ ∀ j : Nat, j < d.ja.length → (at' s.2.2 j).length ≤ k * 256 ∧ (∀ x ∈ at' s.2.2 j, 0 ≤ x) ∧ ∀ i : Nat, (i : Int) ∈ at' s.2.2 j ↔ i < k ∧ dE d i j) (fun k s h => h.1) ?_ ?_ ⟨rfl, by simp, by simp, by simp, hA1, fun j hj => by rw [hA2 j hj]; simp⟩
    · rintro k ⟨_, lab, back⟩ hk ⟨rfl, h1, h2, h3, h4, h5⟩
      simp only at h1 h2 h3 h4 h5
      obtain ⟨o1, o2, o3⟩ := zku d hd hm k hk
      repeat (first | with_reducible (refine Tot.bp ?_) | with_reducible (refine Tot.bb ?_) | (refine Tot.ct ?_ ?_; focus (first | with_reducible rfl | (simp (disch := omega) only [jy, jx, bl_]; done))) | (refine Tot.cf ?_ ?_; focus (first | with_reducible rfl | (simp (disch := omega) only [jy, jx, bl_]; done))) | with_reducible (refine Tot.bc ?_) | ((first | refine Tot.rdx ?_ ?_ | refine Tot.apx ?_ ?_ | refine Tot.mkx ?_ ?_); focus (first | omega | (simp; done) | (simp; omega))))
      refine Tot.bindE (zor d hd hm k hk) ?_
      generalize (at' d.ja k).filter (fun x => decide (0 ≤ x)) = on at o1 o2 o3 ⊢
      refine Tot.bb ?_
      refine Tot.part (fun (b : List (List Int)) => b.length = d.ja.length ∧ ∀ j : Nat, j < d.ja.length → (at' b j).length ≤ (k + 1) * 256 ∧ (∀ x ∈ at' b j, 0 ≤ x) ∧ ∀ i : Nat, (i : Int) ∈ at' b j ↔ i < k + 1 ∧ dE d i j) ?_ ?_
      · refine Tot.forC (fun s => s.1) on.length (fun c (s : Int × List (List Int)) => s.1 = (c : Int) ∧ s.2.length = d.ja.length ∧ ∀ j : Nat, j < d.ja.length → (at' s.2 j).length ≤ k * 256 + c ∧ (∀ x ∈ at' s.2 j, 0 ≤ x) ∧ ∀ i : Nat, (i : Int) ∈ at' s.2 j ↔ (i < k ∧ dE d i j) ∨ (i = k ∧ (j : Int) ∈ on.take c)) (fun k s h => h.1) ?_ ?_ ⟨rfl, h4, fun j hj => by simpa using h5 j hj⟩
        · rintro c ⟨_, b⟩ hc ⟨rfl, g1, g2⟩
          simp only at g1 g2
          have hmem := zb3 (l := on) (z := (c : Int)) (by omega) (by omega)
          have hy := o2 _ hmem
          obtain ⟨q, hq⟩ := Int.eq_ofNat_of_zero_le hy.1
          have g3 := g2 q (by omega)
          repeat (first | with_reducible (refine Tot.bp ?_) | with_reducible (refine Tot.bb ?_) | (refine Tot.ct ?_ ?_; focus (first | with_reducible rfl | (simp (disch := omega) only [jy, jx, bl_]; done))) | (refine Tot.cf ?_ ?_; focus (first | with_reducible rfl | (simp (disch := omega) only [jy, jx, bl_]; done))) | with_reducible (refine Tot.bc ?_) | ((first | refine Tot.rdx ?_ ?_ | refine Tot.apx ?_ ?_ | refine Tot.mkx ?_ ?_); focus (first | omega | (simp; done) | (simp; omega))))
          rw [hq] at hy ⊢
          repeat (first | with_reducible (refine Tot.bp ?_) | with_reducible (refine Tot.bb ?_) | (refine Tot.ct ?_ ?_; focus (first | with_reducible rfl | (simp (disch := omega) only [jy, jx, bl_]; done))) | (refine Tot.cf ?_ ?_; focus (first | with_reducible rfl | (simp (disch := omega) only [jy, jx, bl_]; done))) | with_reducible (refine Tot.bc ?_) | ((first | refine Tot.rdx ?_ ?_ | refine Tot.apx ?_ ?_ | refine Tot.mkx ?_ ?_); focus (first | omega | (simp; done) | (simp; omega))))
          refine Tot.pure ⟨yi (by omega), by simp [g1], fun j hj => ?_⟩
          simp only
          rw [zge hy.1 (by omega)]
          by_cases hjq : (j : Int) = q
          · rw [if_pos hjq]
            have hjq2 : j = q := by omega
            subst hjq2
            refine ⟨by simp; omega, fun x hx => ?_, fun i => ?_⟩
            · rcases List.mem_append.1 hx with h | h
              · exact g3.2.1 x h
              · simp at h; omega
            · rw [List.mem_append, g3.2.2 i, Qs hc, hq]
              simp only [List.mem_singleton]
              constructor
              · rintro ((h | h) | h)
                · exact .inl h
                · exact .inr ⟨h.1, .inl h.2⟩
                · exact .inr ⟨by omega, .inr trivial⟩
              · rintro (h | ⟨h, h2 | h2⟩)
                · exact .inl (.inl h)
                · exact .inl (.inr ⟨h, h2⟩)
                · exact .inr (by omega)
          · rw [if_neg hjq]
            have g4 := g2 j hj
            refine ⟨by omega, g4.2.1, fun i => ?_⟩
            rw [g4.2.2 i, Qs hc, hq]
            constructor
            · rintro (h | h)
              · exact .inl h
              · exact .inr ⟨h.1, .inl h.2⟩
            · rintro (h | ⟨h, h2 | h2⟩)
              · exact .inl h
              · exact .inr ⟨h, h2⟩
              · omega
        · rintro ⟨_, b⟩ ⟨rfl, g1, g2⟩
          simp only at g1 g2
          repeat (first | with_reducible (refine Tot.bp ?_) | with_reducible (refine Tot.bb ?_) | (refine Tot.ct ?_ ?_; focus (first | with_reducible rfl | (simp (disch := omega) only [jy, jx, bl_]; done))) | (refine Tot.cf ?_ ?_; focus (first | with_reducible rfl | (simp (disch := omega) only [jy, jx, bl_]; done))) | with_reducible (refine Tot.bc ?_) | ((first | refine Tot.rdx ?_ ?_ | refine Tot.apx ?_ ?_ | refine Tot.mkx ?_ ?_); focus (first | omega | (simp; done) | (simp; omega))))
          refine Tot.pure ⟨g1, fun j hj => ?_⟩
          have g3 := g2 j hj
          refine ⟨by omega, g3.2.1, fun i => ?_⟩
          rw [g3.2.2 i, List.take_length, o3 j]
          constructor
          · rintro (h | h)
            · exact ⟨by omega, h.2⟩
            · exact ⟨by omega, h.1 ▸ h.2⟩
          · rintro ⟨h, h2⟩
            by_cases hik : i = k
            · subst hik; exact .inr ⟨rfl, h2⟩
            · exact .inl ⟨by omega, h2⟩
      · rintro b ⟨g1, g2⟩
        refine Tot.bc ?_
        refine Tot.cond (fun hb => ?_) fun hb => ?_
        · simp only [decide_eq_true_eq] at hb
          repeat (first | with_reducible (refine Tot.bp ?_) | with_reducible (refine Tot.bb ?_) | (refine Tot.ct ?_ ?_; focus (first | with_reducible rfl | (simp (disch := omega) only [jy, jx, bl_]; done))) | (refine Tot.cf ?_ ?_; focus (first | with_reducible rfl | (simp (disch := omega) only [jy, jx, bl_]; done))) | with_reducible (refine Tot.bc ?_) | ((first | refine Tot.rdx ?_ ?_ | refine Tot.apx ?_ ?_ | refine Tot.mkx ?_ ?_); focus (first | omega | (simp; done) | (simp; omega))))
          refine Tot.pure ⟨yi (by omega), by simp; omega, ?_, ?_, g1, g2⟩
          · intro x hx
            rcases List.mem_append.1 hx with h | h
            · exact h2 x h
            · simp at h; omega
          · intro i
            simp only
            rw [List.mem_append, h3 i, List.mem_singleton]
            constructor
            · rintro (h | h)
              · exact ⟨by omega, h.2⟩
              · have : i = k := by omega
                subst this; exact ⟨by omega, hb⟩
            · rintro ⟨h, h2⟩
              by_cases hik : i = k
              · right; omega
              · exact .inl ⟨by omega, h2⟩
        · simp only [decide_eq_false_iff_not] at hb
          refine Tot.pure ⟨yi (by omega), by simp only; omega, h2, ?_, g1, g2⟩
          intro i
          simp only
          rw [h3 i]
          constructor
          · rintro ⟨h, h2⟩; exact ⟨by omega, h2⟩
          · rintro ⟨h, h2⟩
            by_cases hik : i = k
            · subst hik; exact absurd h2 hb
            · exact ⟨by omega, h2⟩
    · rintro ⟨_, lab, back⟩ ⟨rfl, h1, h2, h3, h4, h5⟩
      simp only at h1 h2 h3 h4 h5
      repeat (first | with_reducible (refine Tot.bp ?_) | with_reducible (refine Tot.bb ?_) | (refine Tot.ct ?_ ?_; focus (first | with_reducible rfl | (simp (disch := omega) only [jy, jx, bl_]; done))) | (refine Tot.cf ?_ ?_; focus (first | with_reducible rfl | (simp (disch := omega) only [jy, jx, bl_]; done))) | with_reducible (refine Tot.bc ?_) | ((first | refine Tot.rdx ?_ ?_ | refine Tot.apx ?_ ?_ | refine Tot.mkx ?_ ?_); focus (first | omega | (simp; done) | (simp; omega))))
      refine Tot.pure ⟨h1, h2, h3, h4, fun j hj => ?_⟩
      have := h5 j hj
      refine ⟨this.1, this.2.1, fun i => ?_⟩
      simp only
      rw [this.2.2 i]
      exact ⟨fun h => h.2, fun h => ⟨h.1, h⟩⟩
  · rintro ⟨lab, back⟩ ⟨h1, h2, h3, h4, h5⟩
    simp only at h1 h2 h3 h4 h5
    refine Tot.part (· = zhc d.ja.length (fun i j => dE d j i) (fun i => i < d.ja.length ∧ 0 ≤ zac d i)) ?_ (fun a ha => Tot.pure ha)
    have h := zgt d.ja.length lab (fun y => J7 y back) (fun i j => dE d j i) (by omega) (by omega) (fun x hx => by
      have := h2 x hx
      obtain ⟨q, rfl⟩ := Int.eq_ofNat_of_zero_le this
      exact ⟨this, by have := ((h3 q).1 hx).1; omega⟩) (fun i hi => by
      unfold J7
      repeat (first | with_reducible (refine Tot.bp ?_) | with_reducible (refine Tot.bb ?_) | (refine Tot.ct ?_ ?_; focus (first | with_reducible rfl | (simp (disch := omega) only [jy, jx, bl_]; done))) | (refine Tot.cf ?_ ?_; focus (first | with_reducible rfl | (simp (disch := omega) only [jy, jx, bl_]; done))) | with_reducible (refine Tot.bc ?_) | ((first | refine Tot.rdx ?_ ?_ | refine Tot.apx ?_ ?_ | refine Tot.mkx ?_ ?_); focus (first | omega | (simp; done) | (simp; omega))))
      obtain ⟨k1, k2, k3⟩ := h5 i hi
      refine Tot.pure ⟨by omega, fun x hx => ⟨k2 x hx, ?_⟩, fun j => k3 j⟩
      obtain ⟨q, rfl⟩ := Int.eq_ofNat_of_zero_le (k2 x hx)
      have := ((k3 q).1 hx).1
      omega)
    refine h.mono fun a ha => ?_
    rw [ha]
    congr 1
    funext i
    rw [h3 i]
end Go.Proofs.Ytpohfkgjghiofaa

namespace Go.Proofs.Ytpohfkgjghiofaa
open Go Go.RowKit L
set_option linter.unusedVariables false
set_option linter.unusedSimpArgs false
def zr (r a : List Bool) (i : Nat) : Bool := decide (i = 0) || (at' r (i : Int) && at' a (i : Int))
def yr (r a : List Bool) (k : Nat) : List Nat := (List.range k).filter (zr r a)
def za5 (r a : List Bool) (i : Nat) : Int := if zr r a i then ((yr r a i).length : Int) else -1
def zaw (r a : List Bool) (x : Int) : Int := if 0 ≤ x then za5 r a x.toNat else x
def zgj (d : je) (r a : List Bool) (i : Nat) : List Int := (at' d.ja (i : Int)).map (zaw r a)
def zem (d : je) (r a : List Bool) : je := ⟨d.ji, d.jf, (yr r a d.ja.length).map (zgj d r a), (yr r a d.ja.length).map (zac d)⟩
noncomputable def zfo (d : je) : je := if zk d then zem d (Vo d) (za0 d) else ⟨arZ 256 0, 0, [], []⟩
theorem zgs (r a : List Bool) (k : Nat) : yr r a (k + 1) = if zr r a k then yr r a k ++ [k] else yr r a k := by
  unfold yr
  rw [List.range_succ, List.filter_append]
  by_cases h : zr r a k <;> simp [h]
theorem zct (r a : List Bool) (k : Nat) : (yr r a k).length ≤ k := by
  unfold yr
  exact Nat.le_trans (List.length_filter_le ..) (by simp)
theorem zc3 {r a : List Bool} {k i : Nat} : i ∈ yr r a k ↔ i < k ∧ zr r a i = true := by
  unfold yr; simp [List.mem_filter]
theorem zd9 {d : je} (h : zk d = true) : (Vo d).length = d.ja.length := by
  unfold Vo; rw [h, if_pos rfl, zg6]
theorem zhh {d : je} (h : zk d = true) : (za0 d).length = d.ja.length := by
  unfold za0; rw [h, if_pos rfl, zg6]
theorem zlv {d : je} (hd : DOk d) (hm : MOk d) : 1 ≤ d.jf := by
  have h := zc1 hd.cls
  have hl : 0 < d.ji.1.length := by rw [d.ji.2]; decide
  have h1 := h.2.2 _ (List.getElem_mem hl)
  have h2 := hd.cls _ (List.getElem_mem hl)
  rw [← hm.wid]; omega
theorem Z7 {α β : Type} [Inhabited α] (f : α → β) {l : List α} {k : Nat} (h : k < l.length) : (l.take (k + 1)).map f = (l.take k).map f ++ [f (at' l (k : Int))] := by
  rw [List.take_succ_eq_append_getElem h, zd h, List.map_append]; rfl
theorem zeg (d : je) (hd : DOk d) (hn : d.ja.length ≤ 300) : Tot (Qc d) (· = zfo d) := by
  unfold Qc zfo
  refine Tot.bindE (zbd d hd) ?_
  cases hR : zk d
  · repeat (first | with_reducible (refine Tot.bp ?_) | with_reducible (refine Tot.bb ?_) | (refine Tot.ct ?_ ?_; focus (first | with_reducible rfl | (simp (disch := omega) only [jy, jx, bl_]; done))) | (refine Tot.cf ?_ ?_; focus (first | with_reducible rfl | (simp (disch := omega) only [jy, jx, bl_]; done))) | with_reducible (refine Tot.bc ?_) | ((first | refine Tot.rdx ?_ ?_ | refine Tot.apx ?_ ?_ | refine Tot.mkx ?_ ?_); focus (first | omega | (simp; done) | (simp; omega))))
    exact Tot.pure rfl
  have hm := (zt d).1 hR
  have hn0 := hm.n0
  have hlab := hm.lab
  have hw := zc4 hd hm
  have hw1 := zlv hd hm
  have hr := zd9 hR
  have ha := zhh hR
  repeat (first | with_reducible (refine Tot.bp ?_) | with_reducible (refine Tot.bb ?_) | (refine Tot.ct ?_ ?_; focus (first | with_reducible rfl | (simp (disch := omega) only [jy, jx, bl_]; done))) | (refine Tot.cf ?_ ?_; focus (first | with_reducible rfl | (simp (disch := omega) only [jy, jx, bl_]; done))) | with_reducible (refine Tot.bc ?_) | ((first | refine Tot.rdx ?_ ?_ | refine Tot.apx ?_ ?_ | refine Tot.mkx ?_ ?_); focus (first | omega | (simp; done) | (simp; omega))))
  refine Tot.bindE (zbj d hd hn) ?_
  refine Tot.bindE (zdd d hd hn) ?_
  generalize Vo d = r at hr ⊢
  generalize za0 d = a at ha ⊢
  repeat (first | with_reducible (refine Tot.bp ?_) | with_reducible (refine Tot.bb ?_) | (refine Tot.ct ?_ ?_; focus (first | with_reducible rfl | (simp (disch := omega) only [jy, jx, bl_]; done))) | (refine Tot.cf ?_ ?_; focus (first | with_reducible rfl | (simp (disch := omega) only [jy, jx, bl_]; done))) | with_reducible (refine Tot.bc ?_) | ((first | refine Tot.rdx ?_ ?_ | refine Tot.apx ?_ ?_ | refine Tot.mkx ?_ ?_); focus (first | omega | (simp; done) | (simp; omega))))
  refine Tot.part (fun (s : List Int × List Int) => s.1.length = d.ja.length ∧ (∀ i : Nat, i < d.ja.length → at' s.1 (i : Int) = za5 r a i) ∧ s.2 = (yr r a d.ja.length).map fun (i : Nat) => (i : Int)) ?_ ?_
  · refine Tot.forC (fun s => s.1) d.ja.length (fun k (s : Int × List Int × List Int) => s.1 = (k : Int) ∧ s.2.1.length = d.ja.length ∧ (∀ i : Nat, i < k → at' s.2.1 (i : Int) = za5 r a i) ∧ s.2.2 = (yr r a k).map fun (i : Nat) => (i : Int)) (fun k s h => h.1) ?_ ?_ ⟨rfl, by simp, fun i hi => by omega, by simp [yr]⟩
    · rintro k ⟨_, num, kept⟩ hk ⟨rfl, h1, h2, h3⟩
      simp only at h1 h2 h3
      have hkl := zct r a k
      have hks := zgs r a k
      have hlen : kept.length = (yr r a k).length := by rw [h3]; simp
      have hset : ∀ v : Int, v = za5 r a k → ∀ i : Nat, i < k + 1 → at' ((num.set (k : Int).toNat (-1)).set (k : Int).toNat v) (i : Int) = za5 r a i := fun v hv i hi => by
        rw [zge (by omega) (by simp; omega)]
        by_cases hik : (i : Int) = k
        · rw [if_pos hik, hv, show i = k by omega]
        · rw [if_neg hik, zge (by omega) (by omega), if_neg hik]; exact h2 i (by omega)
      have hset1 : -1 = za5 r a k → ∀ i : Nat, i < k + 1 → at' (num.set (k : Int).toNat (-1)) (i : Int) = za5 r a i := fun hv i hi => by
        rw [zge (by omega) (by omega)]
        by_cases hik : (i : Int) = k
        · rw [if_pos hik, hv, show i = k by omega]
        · rw [if_neg hik]; exact h2 i (by omega)
      have yes : zr r a k = true → kept ++ [(k : Int)] = (yr r a (k + 1)).map fun (i : Nat) => (i : Int) := fun h => by rw [hks, h, if_pos rfl, h3]; simp
      have no : zr r a k = false → kept = (yr r a (k + 1)).map fun (i : Nat) => (i : Int) := fun h => by rw [hks, h, h3]; rfl
      have ny : zr r a k = true → ((kept.length : Nat) : Int) = za5 r a k := fun h => by unfold za5; rw [h, if_pos rfl, hlen]
      have nn : zr r a k = false → (-1 : Int) = za5 r a k := fun h => by unfold za5; rw [h]; rfl
      by_cases h0 : k = 0
      · subst h0
        repeat (first | with_reducible (refine Tot.bp ?_) | with_reducible (refine Tot.bb ?_) | (refine Tot.ct ?_ ?_; focus (first | with_reducible rfl | (simp (disch := omega) only [jy, jx, bl_]; done))) | (refine Tot.cf ?_ ?_; focus (first | with_reducible rfl | (simp (disch := omega) only [jy, jx, bl_]; done))) | with_reducible (refine Tot.bc ?_) | ((first | refine Tot.rdx ?_ ?_ | refine Tot.apx ?_ ?_ | refine Tot.mkx ?_ ?_); focus (first | omega | (simp; done) | (simp; omega))))
        have hk : zr r a 0 = true := by simp [zr]
        refine Tot.pure ?_; exact ⟨yi (k := 0) (by omega), by simp [h1], hset _ (ny hk), yes hk⟩
      · repeat (first | with_reducible (refine Tot.bp ?_) | with_reducible (refine Tot.bb ?_) | (refine Tot.ct ?_ ?_; focus (first | with_reducible rfl | (simp (disch := omega) only [jy, jx, bl_]; done))) | (refine Tot.cf ?_ ?_; focus (first | with_reducible rfl | (simp (disch := omega) only [jy, jx, bl_]; done))) | with_reducible (refine Tot.bc ?_) | ((first | refine Tot.rdx ?_ ?_ | refine Tot.apx ?_ ?_ | refine Tot.mkx ?_ ?_); focus (first | omega | (simp; done) | (simp; omega))))
        cases e1 : at' r (k : Int)
        · repeat (first | with_reducible (refine Tot.bp ?_) | with_reducible (refine Tot.bb ?_) | (refine Tot.ct ?_ ?_; focus (first | with_reducible rfl | (simp (disch := omega) only [jy, jx, bl_]; done))) | (refine Tot.cf ?_ ?_; focus (first | with_reducible rfl | (simp (disch := omega) only [jy, jx, bl_]; done))) | with_reducible (refine Tot.bc ?_) | ((first | refine Tot.rdx ?_ ?_ | refine Tot.apx ?_ ?_ | refine Tot.mkx ?_ ?_); focus (first | omega | (simp; done) | (simp; omega))))
          have hk : zr r a k = false := by simp [zr, h0, e1]
          refine Tot.pure ?_; exact ⟨yi (by omega), by simp [h1], hset1 (nn hk), no hk⟩
        · repeat (first | with_reducible (refine Tot.bp ?_) | with_reducible (refine Tot.bb ?_) | (refine Tot.ct ?_ ?_; focus (first | with_reducible rfl | (simp (disch := omega) only [jy, jx, bl_]; done))) | (refine Tot.cf ?_ ?_; focus (first | with_reducible rfl | (simp (disch := omega) only [jy, jx, bl_]; done))) | with_reducible (refine Tot.bc ?_) | ((first | refine Tot.rdx ?_ ?_ | refine Tot.apx ?_ ?_ | refine Tot.mkx ?_ ?_); focus (first | omega | (simp; done) | (simp; omega))))
          cases e2 : at' a (k : Int)
          · repeat (first | with_reducible (refine Tot.bp ?_) | with_reducible (refine Tot.bb ?_) | (refine Tot.ct ?_ ?_; focus (first | with_reducible rfl | (simp (disch := omega) only [jy, jx, bl_]; done))) | (refine Tot.cf ?_ ?_; focus (first | with_reducible rfl | (simp (disch := omega) only [jy, jx, bl_]; done))) | with_reducible (refine Tot.bc ?_) | ((first | refine Tot.rdx ?_ ?_ | refine Tot.apx ?_ ?_ | refine Tot.mkx ?_ ?_); focus (first | omega | (simp; done) | (simp; omega))))
            have hk : zr r a k = false := by simp [zr, h0, e2]
            refine Tot.pure ?_; exact ⟨yi (by omega), by simp [h1], hset1 (nn hk), no hk⟩
          · repeat (first | with_reducible (refine Tot.bp ?_) | with_reducible (refine Tot.bb ?_) | (refine Tot.ct ?_ ?_; focus (first | with_reducible rfl | (simp (disch := omega) only [jy, jx, bl_]; done))) | (refine Tot.cf ?_ ?_; focus (first | with_reducible rfl | (simp (disch := omega) only [jy, jx, bl_]; done))) | with_reducible (refine Tot.bc ?_) | ((first | refine Tot.rdx ?_ ?_ | refine Tot.apx ?_ ?_ | refine Tot.mkx ?_ ?_); focus (first | omega | (simp; done) | (simp; omega))))
            have hk : zr r a k = true := by simp [zr, e1, e2]
            refine Tot.pure ?_; exact ⟨yi (by omega), by simp [h1], hset _ (ny hk), yes hk⟩
    · rintro ⟨_, num, kept⟩ ⟨rfl, h1, h2, h3⟩
      repeat (first | with_reducible (refine Tot.bp ?_) | with_reducible (refine Tot.bb ?_) | (refine Tot.ct ?_ ?_; focus (first | with_reducible rfl | (simp (disch := omega) only [jy, jx, bl_]; done))) | (refine Tot.cf ?_ ?_; focus (first | with_reducible rfl | (simp (disch := omega) only [jy, jx, bl_]; done))) | with_reducible (refine Tot.bc ?_) | ((first | refine Tot.rdx ?_ ?_ | refine Tot.apx ?_ ?_ | refine Tot.mkx ?_ ?_); focus (first | omega | (simp; done) | (simp; omega))))
      refine Tot.pure ?_; exact ⟨h1, h2, h3⟩
  · rintro ⟨num, kept⟩ ⟨h1, h2, h3⟩
    simp only at h1 h2 h3
    have hkl := zct r a d.ja.length
    have hkm : ∀ i ∈ yr r a d.ja.length, i < d.ja.length := fun i hi => (zc3.1 hi).1
    have hlen : kept.length = (yr r a d.ja.length).length := by rw [h3]; simp
    refine Tot.part (fun (s : List (List Int) × List Int) => s.1 = (yr r a d.ja.length).map (zgj d r a) ∧ s.2 = (yr r a d.ja.length).map (zac d)) ?_ ?_
    · refine Tot.forC (fun s => s.1) (yr r a d.ja.length).length (fun k (s : Int × List (List Int) × List Int) => s.1 = (k : Int) ∧ s.2.1 = ((yr r a d.ja.length).take k).map (zgj d r a) ∧ s.2.2 = ((yr r a d.ja.length).take k).map (zac d)) (fun k s h => h.1) ?_ ?_ ⟨rfl, by simp, by simp⟩
      · rintro k ⟨_, rows, labs⟩ hk ⟨rfl, g1, g2⟩
        simp only at g1 g2
        have l1 : rows.length = k := by rw [g1]; simp; omega
        have l2 : labs.length = k := by rw [g2]; simp; omega
        have hq : at' kept (k : Int) = ((at' (yr r a d.ja.length) (k : Int) : Nat) : Int) := by
          rw [zd (by omega), zd hk]; simp [h3]
        have hqn := hkm _ (zb3 (l := yr r a d.ja.length) (z := (k : Int)) (by omega) (by omega))
        have t1 := Z7 (zgj d r a) hk
        have t2 := Z7 (zac d) hk
        rw [← g1] at t1
        rw [← g2] at t2
        generalize at' (yr r a d.ja.length) (k : Int) = q at hq hqn t1 t2
        have hrow := hm.row q (by omega) (by omega)
        repeat (first | with_reducible (refine Tot.bp ?_) | with_reducible (refine Tot.bb ?_) | (refine Tot.ct ?_ ?_; focus (first | with_reducible rfl | (simp (disch := omega) only [jy, jx, bl_]; done))) | (refine Tot.cf ?_ ?_; focus (first | with_reducible rfl | (simp (disch := omega) only [jy, jx, bl_]; done))) | with_reducible (refine Tot.bc ?_) | ((first | refine Tot.rdx ?_ ?_ | refine Tot.apx ?_ ?_ | refine Tot.mkx ?_ ?_); focus (first | omega | (simp; done) | (simp; omega))))
        rw [hq]
        repeat (first | with_reducible (refine Tot.bp ?_) | with_reducible (refine Tot.bb ?_) | (refine Tot.ct ?_ ?_; focus (first | with_reducible rfl | (simp (disch := omega) only [jy, jx, bl_]; done))) | (refine Tot.cf ?_ ?_; focus (first | with_reducible rfl | (simp (disch := omega) only [jy, jx, bl_]; done))) | with_reducible (refine Tot.bc ?_) | ((first | refine Tot.rdx ?_ ?_ | refine Tot.apx ?_ ?_ | refine Tot.mkx ?_ ?_); focus (first | omega | (simp; done) | (simp; omega))))
        refine Tot.someB (a := (((d.jf.toNat : Nat) : Int), at' d.ja (q : Int))) ?_ ?_
        · unfold cpy
          have e1 : List.replicate d.jf.toNat (0 : Int) ≠ [] := fun e => by
            have := congrArg List.length e
            simp at this; omega
          have e2 : at' d.ja (q : Int) ≠ [] := fun e => by
            rw [e] at hrow
            simp at hrow; omega
          rw [if_pos ⟨e1, e2⟩]
          have : (at' d.ja (q : Int)).length = d.jf.toNat := by omega
          rw [List.length_replicate, this, List.take_of_length_le (by omega), List.drop_of_length_le (by simp), List.append_nil, Nat.min_self]
        · repeat (first | with_reducible (refine Tot.bp ?_) | with_reducible (refine Tot.bb ?_) | (refine Tot.ct ?_ ?_; focus (first | with_reducible rfl | (simp (disch := omega) only [jy, jx, bl_]; done))) | (refine Tot.cf ?_ ?_; focus (first | with_reducible rfl | (simp (disch := omega) only [jy, jx, bl_]; done))) | with_reducible (refine Tot.bc ?_) | ((first | refine Tot.rdx ?_ ?_ | refine Tot.apx ?_ ?_ | refine Tot.mkx ?_ ?_); focus (first | omega | (simp; done) | (simp; omega))))
          refine Tot.part (· = zgj d r a q) ?_ ?_
          · refine Tot.forC (fun s => s.1) d.jf.toNat (fun c (s : Int × List Int) => s.1 = (c : Int) ∧ s.2 = ((at' d.ja (q : Int)).take c).map (zaw r a) ++ (at' d.ja (q : Int)).drop c) (fun k s h => h.1) ?_ ?_ ⟨rfl, by simp⟩
            · rintro c ⟨_, l⟩ hc ⟨rfl, f1⟩
              simp only at f1
              have hnx := hm.nx q c (by omega) (by omega) (by omega) (by omega)
              have hl : l.length = (at' d.ja (q : Int)).length := by rw [f1]; simp; omega
              have hcl : c < (at' d.ja (q : Int)).length := by omega
              have e1 : at' l (c : Int) = at' (at' d.ja (q : Int)) (c : Int) := by
                refine at_get ?_
                rw [f1, List.getElem?_append_right (by simp; omega), zd hcl]
                simp [show min c (at' d.ja (q : Int)).length = c by omega]
              have e2 : ∀ v, v = zaw r a (at' (at' d.ja (q : Int)) (c : Int)) → l.set (c : Int).toNat v = ((at' d.ja (q : Int)).take (c + 1)).map (zaw r a) ++ (at' d.ja (q : Int)).drop (c + 1) := fun v hv => by
                rw [f1, Z7 _ hcl, Int.toNat_natCast, List.set_append_right _ _ (by simp; omega), List.drop_eq_getElem_cons hcl]
                have : c - (((at' d.ja (q : Int)).take c).map (zaw r a)).length = 0 := by simp; omega
                rw [this, List.set_cons_zero, hv, List.append_assoc]
                rfl
              repeat (first | with_reducible (refine Tot.bp ?_) | with_reducible (refine Tot.bb ?_) | (refine Tot.ct ?_ ?_; focus (first | with_reducible rfl | (simp (disch := omega) only [jy, jx, bl_]; done))) | (refine Tot.cf ?_ ?_; focus (first | with_reducible rfl | (simp (disch := omega) only [jy, jx, bl_]; done))) | with_reducible (refine Tot.bc ?_) | ((first | refine Tot.rdx ?_ ?_ | refine Tot.apx ?_ ?_ | refine Tot.mkx ?_ ?_); focus (first | omega | (simp; done) | (simp; omega))))
              refine Tot.cond (fun hb => ?_) fun hb => ?_
              · simp only [decide_eq_true_eq] at hb
                repeat (first | with_reducible (refine Tot.bp ?_) | with_reducible (refine Tot.bb ?_) | (refine Tot.ct ?_ ?_; focus (first | with_reducible rfl | (simp (disch := omega) only [jy, jx, bl_]; done))) | (refine Tot.cf ?_ ?_; focus (first | with_reducible rfl | (simp (disch := omega) only [jy, jx, bl_]; done))) | with_reducible (refine Tot.bc ?_) | ((first | refine Tot.rdx ?_ ?_ | refine Tot.apx ?_ ?_ | refine Tot.mkx ?_ ?_); focus (first | omega | (simp; done) | (simp; omega))))
                refine Tot.pure ⟨yi (by omega), e2 _ ?_⟩
                obtain ⟨z, hz⟩ := Int.eq_ofNat_of_zero_le hb
                rw [e1] at hz
                rw [e1, hz, h2 z (by omega)]
                simp [zaw]
              · simp only [decide_eq_false_iff_not] at hb
                refine Tot.pure ⟨yi (by omega), ?_⟩
                simp only
                have := e2 (at' (at' d.ja (q : Int)) (c : Int)) (by rw [e1] at hb; unfold zaw; rw [if_neg hb])
                rw [← this, ← e1, zd (by omega)]
                simp
            · rintro ⟨_, l⟩ ⟨rfl, f1⟩
              repeat (first | with_reducible (refine Tot.bp ?_) | with_reducible (refine Tot.bb ?_) | (refine Tot.ct ?_ ?_; focus (first | with_reducible rfl | (simp (disch := omega) only [jy, jx, bl_]; done))) | (refine Tot.cf ?_ ?_; focus (first | with_reducible rfl | (simp (disch := omega) only [jy, jx, bl_]; done))) | with_reducible (refine Tot.bc ?_) | ((first | refine Tot.rdx ?_ ?_ | refine Tot.apx ?_ ?_ | refine Tot.mkx ?_ ?_); focus (first | omega | (simp; done) | (simp; omega))))
              refine Tot.pure ?_
              simp only at f1
              rw [f1, List.take_of_length_le (by omega), List.drop_of_length_le (by omega), List.append_nil]
              rfl
          · rintro row rfl
            repeat (first | with_reducible (refine Tot.bp ?_) | with_reducible (refine Tot.bb ?_) | (refine Tot.ct ?_ ?_; focus (first | with_reducible rfl | (simp (disch := omega) only [jy, jx, bl_]; done))) | (refine Tot.cf ?_ ?_; focus (first | with_reducible rfl | (simp (disch := omega) only [jy, jx, bl_]; done))) | with_reducible (refine Tot.bc ?_) | ((first | refine Tot.rdx ?_ ?_ | refine Tot.apx ?_ ?_ | refine Tot.mkx ?_ ?_); focus (first | omega | (simp; done) | (simp; omega))))
            refine Tot.pure ?_; exact ⟨yi (by omega), t1.symm, t2.symm⟩
      · rintro ⟨_, rows, labs⟩ ⟨rfl, g1, g2⟩
        simp only at g1 g2
        repeat (first | with_reducible (refine Tot.bp ?_) | with_reducible (refine Tot.bb ?_) | (refine Tot.ct ?_ ?_; focus (first | with_reducible rfl | (simp (disch := omega) only [jy, jx, bl_]; done))) | (refine Tot.cf ?_ ?_; focus (first | with_reducible rfl | (simp (disch := omega) only [jy, jx, bl_]; done))) | with_reducible (refine Tot.bc ?_) | ((first | refine Tot.rdx ?_ ?_ | refine Tot.apx ?_ ?_ | refine Tot.mkx ?_ ?_); focus (first | omega | (simp; done) | (simp; omega))))
        rw [List.take_length] at g1 g2
        refine Tot.pure ?_; exact ⟨g1, g2⟩
    · rintro ⟨rows, labs⟩ ⟨g1, g2⟩
      simp only at g1 g2
      refine Tot.pure ?_
      simp only [g1, g2]
      rfl
end Go.Proofs.Ytpohfkgjghiofaa

namespace Go.Proofs.Ytpohfkgjghiofaa
open Go Go.RowKit L
set_option linter.unusedVariables false
set_option linter.unusedSimpArgs false
abbrev bl (a b : List UInt8) : Bool := Op.bytesLess a b
def Yx (d : je) (b : UInt8) : Int := at' d.ji.1 (b.toNat : Int)
def stp (d : je) (at_ : Int) (b : UInt8) : Int := if at_ < 0 then at_ else nxt d at_.toNat (Yx d b)
def zy (d : je) (w : List UInt8) : Int := w.foldl (stp d) 0
theorem Qh (d : je) (w : List UInt8) (b : UInt8) : zy d (w ++ [b]) = stp d (zy d w) b := by simp [zy]
theorem zn7 (d : je) (w v : List UInt8) : zy d (w ++ v) = v.foldl (stp d) (zy d w) := by simp [zy]
theorem zgr {P : List UInt8 → Prop} (h0 : P []) (h1 : ∀ w b, P w → P (w ++ [b])) (w : List UInt8) : P w := by
  have key : ∀ n (w : List UInt8), w.length = n → P w := by
    intro n
    induction n with
    | zero => intro w hw; have := List.length_eq_zero_iff.1 hw; subst this; exact h0
    | succ n ih =>
      intro w hw
      have hne : w ≠ [] := fun e => by subst e; simp at hw
      rw [← List.dropLast_concat_getLast hne]
      exact h1 _ _ (ih _ (by simp [hw]))
  exact key _ w rfl
section
variable {d : je} (hd : DOk d) (hm : MOk d)
include hd hm
theorem zgg (b : UInt8) : 0 ≤ Yx d b ∧ Yx d b < d.jf := by
  have hl : (b.toNat : Int) < d.ji.1.length := by rw [d.ji.2]; have := b.toNat_lt; omega
  have h := zb3 (l := d.ji.1) (z := (b.toNat : Int)) (by omega) hl
  have h1 := zc1 hd.cls
  have h2 := hd.cls _ h
  have h3 := h1.2.2 _ h
  rw [hm.wid] at h3
  exact ⟨h2.1, h3⟩
theorem stp_ok {a : Int} (h : a < d.ja.length) (b : UInt8) : stp d a b < d.ja.length := by
  unfold stp
  split
  · exact h
  · have hc := zgg hd hm b
    exact (hm.nx a.toNat _ (by omega) (by omega) hc.1 hc.2).2
theorem zcz (w : List UInt8) : zy d w < d.ja.length := by
  refine zgr (P := fun w => zy d w < d.ja.length) ?_ (fun w b h => ?_) w
  · have := hm.n0; simp [zy]; omega
  · rw [Qh]; exact stp_ok hd hm h b
omit hd hm in
theorem zmm {a : Int} (h : a < 0) (b : UInt8) : stp d a b = a := if_pos h
omit hd hm in
theorem zkp {w : List UInt8} {b : UInt8} (h : 0 ≤ zy d (w ++ [b])) : 0 ≤ zy d w ∧ zy d (w ++ [b]) = nxt d (zy d w).toNat (Yx d b) := by
  rw [Qh] at h ⊢
  unfold stp at h ⊢
  split at h
  · omega
  · rename_i h1; rw [if_neg h1]; exact ⟨by omega, rfl⟩
end
theorem zdu : ∀ (l : List Int) (n c : Int), Q8 n l = true → n ≤ c → c < l.foldl (fun n c => max n (c + 1)) n → c ∈ l
  | [], n, c, _, h1, h2 => by simp at h2; omega
  | x :: xs, n, c, h, h1, h2 => by
    simp only [Q8] at h
    by_cases hx : n < x
    · rw [if_pos hx] at h; cases h
    · rw [if_neg hx] at h
      simp only [List.foldl_cons] at h2
      by_cases he : x = n
      · rw [if_pos he] at h
        rw [show max n (x + 1) = n + 1 by omega] at h2
        by_cases hc : c = n
        · rw [hc, he]; simp
        · exact List.mem_cons_of_mem _ (zdu xs (n + 1) c h (by omega) h2)
      · rw [if_neg he] at h
        rw [show max n (x + 1) = n by omega] at h2
        exact List.mem_cons_of_mem _ (zdu xs n c h h1 h2)
def ze8 (d : je) (c : Int) : Nat := ((List.range 256).find? fun (b : Nat) => decide (at' d.ji.1 (b : Int) = c)).getD 0
theorem zix {d : je} (hd : DOk d) (hm : MOk d) {c : Int} (h0 : 0 ≤ c) (h1 : c < d.jf) : ze8 d c < 256 ∧ at' d.ji.1 (ze8 d c : Int) = c ∧ ∀ b : Nat, b < 256 → at' d.ji.1 (b : Int) = c → ze8 d c ≤ b := by
  have hmem := zdu d.ji.1 0 c hm.cls h0 (by have := hm.wid; unfold Ze at this; rw [this]; exact h1)
  obtain ⟨k, hk, hkc⟩ := List.getElem_of_mem hmem
  have hl := d.ji.2
  unfold ze8
  cases hf : (List.range 256).find? fun (b : Nat) => decide (at' d.ji.1 (b : Int) = c) with
  | none =>
    have := List.find?_eq_none.1 hf k (by simp; omega)
    rw [zd hk, hkc] at this; simp at this
  | some b =>
    obtain ⟨hp, as1, bs1, hab, hall⟩ := List.find?_eq_some_iff_append.1 hf
    have hb := List.mem_of_find?_eq_some hf
    simp at hb hp
    refine ⟨by simpa using hb, by simpa using hp, fun b' hb' he => ?_⟩
    simp only [Option.getD_some]
    rcases Nat.lt_or_ge b' b with hlt | hge
    · exfalso
      have hmem2 : b' ∈ as1 := by
        have hlen : as1.length = b := by
          have := congrArg (fun l => l[as1.length]?) hab
          simp at this
          have h2 : as1.length < 256 := by have := congrArg List.length hab; simp at this; omega
          simp [h2] at this
          exact this
        have := congrArg (fun l => l[b']?) hab
        simp only [List.getElem?_append_left (show b' < as1.length by omega)] at this
        simp [hb'] at this
        exact List.mem_of_getElem? this.symm
      have := hall b' hmem2
      simp at this; exact this he
    · exact hge
def zjn (d : je) (c : Int) : UInt8 := UInt8.ofNat (ze8 d c)
theorem zly {d : je} (hd : DOk d) (hm : MOk d) {c : Int} (h0 : 0 ≤ c) (h1 : c < d.jf) : (zjn d c).toNat = ze8 d c := by
  unfold zjn
  have := (zix hd hm h0 h1).1
  simp; omega
theorem zlq {d : je} (hd : DOk d) (hm : MOk d) {c : Int} (h0 : 0 ≤ c) (h1 : c < d.jf) : Yx d (zjn d c) = c := by
  unfold Yx
  rw [zly hd hm h0 h1]
  exact (zix hd hm h0 h1).2.1
end Go.Proofs.Ytpohfkgjghiofaa

namespace Go.Proofs.Ytpohfkgjghiofaa
open Go Go.RowKit L
set_option linter.unusedVariables false
set_option linter.unusedSimpArgs false
def tl (s : ByteArray) : List UInt8 := s.data.toList
theorem zlr (a : ByteArray) : (tl a).length = a.size := rfl
end Go.Proofs.Ytpohfkgjghiofaa

namespace Go.Proofs.Ytpohfkgjghiofaa
open Go Go.RowKit L
set_option linter.unusedVariables false
set_option linter.unusedSimpArgs false
instance (l : List Bool) (i : Nat) : Decidable (onB l i) := inferInstanceAs (Decidable (l[i]? = some true))
end Go.Proofs.Ytpohfkgjghiofaa

namespace Go.Proofs.Ytpohfkgjghiofaa
open Go Go.RowKit L
set_option maxRecDepth 100000 in
theorem znj (n : Nat) : Jd (n + 300) = some true := by kernel_rfl
theorem zeu : Tot Jd (· = true) := ⟨true, 300, fun n hn => by
  have := znj (n - 300)
  rwa [show n - 300 + 300 = n by omega] at this, rfl⟩
end Go.Proofs.Ytpohfkgjghiofaa

namespace Go.Proofs.Ytpohfkgjghiofaa
open Go Go.RowKit L
set_option linter.unusedVariables false
set_option linter.unusedSimpArgs false
theorem ext_at {α : Type} [Inhabited α] {a b : List α} (hl : a.length = b.length) (h : ∀ i : Nat, i < a.length → at' a (i : Int) = at' b (i : Int)) : a = b :=
  List.ext_getElem hl fun i h1 h2 => by have := h i h1; rwa [zd h1, zd h2] at this
theorem zg5 (a b : List Int) (ha : a.length ≤ 9223372036854775807) : Tot (zm a b) (· = decide (a = b)) := by
  have key : Tot (zm a b) (fun r => r = true ↔ a = b) := by
    unfold zm
    refine Tot.cond (fun hb => Tot.pure ?_) fun hb => ?_
    · simp only [decide_eq_true_eq] at hb
      simp; intro e; subst e; exact hb rfl
    simp only [decide_eq_false_iff_not, Decidable.not_not] at hb
    refine Tot.bind ?_
    refine Tot.forC (fun s => s) a.length (fun k (s : Int) => s = (k : Int) ∧ ∀ i : Nat, i < k → at' a (i : Int) = at' b (i : Int)) (fun k s h => h.1) ?_ ?_ ⟨rfl, fun i hi => by omega⟩
    · rintro k _ hk ⟨rfl, h⟩
      repeat (first | with_reducible (refine Tot.bp ?_) | with_reducible (refine Tot.bb ?_) | (refine Tot.ct ?_ ?_; focus (first | with_reducible rfl | (simp (disch := omega) only [jy, jx, bl_]; done))) | (refine Tot.cf ?_ ?_; focus (first | with_reducible rfl | (simp (disch := omega) only [jy, jx, bl_]; done))) | with_reducible (refine Tot.bc ?_) | ((first | refine Tot.rdx ?_ ?_ | refine Tot.apx ?_ ?_ | refine Tot.mkx ?_ ?_); focus (first | omega | (simp; done) | (simp; omega))))
      refine Tot.cond (fun h1 => Tot.pure (Tot.pure ?_)) fun h1 => Tot.pure ?_
      · simp only [decide_eq_true_eq] at h1
        simp; intro e; subst e; exact h1 rfl
      · simp only [decide_eq_false_iff_not, Decidable.not_not] at h1
        refine ⟨yi (by omega), fun i hi => ?_⟩
        by_cases hik : i = k
        · subst hik; exact h1
        · exact h i (by omega)
    · rintro _ ⟨rfl, h⟩
      repeat (first | with_reducible (refine Tot.bp ?_) | with_reducible (refine Tot.bb ?_) | (refine Tot.ct ?_ ?_; focus (first | with_reducible rfl | (simp (disch := omega) only [jy, jx, bl_]; done))) | (refine Tot.cf ?_ ?_; focus (first | with_reducible rfl | (simp (disch := omega) only [jy, jx, bl_]; done))) | with_reducible (refine Tot.bc ?_) | ((first | refine Tot.rdx ?_ ?_ | refine Tot.apx ?_ ?_ | refine Tot.mkx ?_ ?_); focus (first | omega | (simp; done) | (simp; omega))))
      refine Tot.pure (Tot.pure ?_)
      simp
      exact ext_at (by omega) h
  refine key.mono fun r hr => ?_
  rw [Bool.eq_iff_iff, hr]; simp
theorem zki (d : je) (h1 : d.ja.length ≤ 9223372036854775807) (h2 : d.jk.length ≤ 9223372036854775807) (h3 : ∀ i : Nat, i < d.ja.length → (at' d.ja i).length ≤ 9223372036854775807) : Tot (Vj d d) (· = true) := by
  unfold Vj
  have e : (!(d.ji.1 == d.ji.1)) = false := by simp
  simp only [e, not_true_eq_false, decide_false, Bool.or_false, Bool.not_false, G.ct]
  refine Tot.bindE (zg5 _ _ h2) ?_
  simp only [decide_true, Bool.not_true, G.cf]
  refine Tot.bind ?_
  refine Tot.forC (fun s => s) d.ja.length (fun k (s : Int) => s = (k : Int)) (fun k s h => h) ?_ ?_ rfl
  · rintro k _ hk rfl
    repeat (first | with_reducible (refine Tot.bp ?_) | with_reducible (refine Tot.bb ?_) | (refine Tot.ct ?_ ?_; focus (first | with_reducible rfl | (simp (disch := omega) only [jy, jx, bl_]; done))) | (refine Tot.cf ?_ ?_; focus (first | with_reducible rfl | (simp (disch := omega) only [jy, jx, bl_]; done))) | with_reducible (refine Tot.bc ?_) | ((first | refine Tot.rdx ?_ ?_ | refine Tot.apx ?_ ?_ | refine Tot.mkx ?_ ?_); focus (first | omega | (simp; done) | (simp; omega))))
    refine Tot.bindE (zg5 _ _ (h3 k hk)) ?_
    simp only [decide_true, Bool.not_true, G.cf]
    exact Tot.pure (yi (by omega))
  · rintro _ rfl
    repeat (first | with_reducible (refine Tot.bp ?_) | with_reducible (refine Tot.bb ?_) | (refine Tot.ct ?_ ?_; focus (first | with_reducible rfl | (simp (disch := omega) only [jy, jx, bl_]; done))) | (refine Tot.cf ?_ ?_; focus (first | with_reducible rfl | (simp (disch := omega) only [jy, jx, bl_]; done))) | with_reducible (refine Tot.bc ?_) | ((first | refine Tot.rdx ?_ ?_ | refine Tot.apx ?_ ?_ | refine Tot.mkx ?_ ?_); focus (first | omega | (simp; done) | (simp; omega))))
    exact Tot.pure (Tot.pure rfl)
theorem zk1 (d : je) (hd : DOk d) (hlen : d.ja.length ≤ 9223372036854775807) : Tot (Qx d) (fun b => b = true → d.ja.length ≤ 300 ∧ d.jk.length ≤ 300) := by
  unfold Qx
  refine Tot.part (fun _ => True) ?_ fun n _ => Tot.pure fun h => by simp at h; omega
  refine Tot.forC (fun s => s.2) d.ja.length (fun k (s : Int × Int) => s.2 = (k : Int)) (fun k s h => h) ?_ ?_ rfl
  · rintro k ⟨n, _⟩ hk rfl
    repeat (first | with_reducible (refine Tot.bp ?_) | with_reducible (refine Tot.bb ?_) | (refine Tot.ct ?_ ?_; focus (first | with_reducible rfl | (simp (disch := omega) only [jy, jx, bl_]; done))) | (refine Tot.cf ?_ ?_; focus (first | with_reducible rfl | (simp (disch := omega) only [jy, jx, bl_]; done))) | with_reducible (refine Tot.bc ?_) | ((first | refine Tot.rdx ?_ ?_ | refine Tot.apx ?_ ?_ | refine Tot.mkx ?_ ?_); focus (first | omega | (simp; done) | (simp; omega))))
    exact Tot.pure (yi (by omega))
  · rintro ⟨n, _⟩ rfl
    repeat (first | with_reducible (refine Tot.bp ?_) | with_reducible (refine Tot.bb ?_) | (refine Tot.ct ?_ ?_; focus (first | with_reducible rfl | (simp (disch := omega) only [jy, jx, bl_]; done))) | (refine Tot.cf ?_ ?_; focus (first | with_reducible rfl | (simp (disch := omega) only [jy, jx, bl_]; done))) | with_reducible (refine Tot.bc ?_) | ((first | refine Tot.rdx ?_ ?_ | refine Tot.apx ?_ ?_ | refine Tot.mkx ?_ ?_); focus (first | omega | (simp; done) | (simp; omega))))
    exact Tot.pure trivial
end Go.Proofs.Ytpohfkgjghiofaa

namespace Go.Proofs.Ytpohfkgjghiofaa
open Go Go.RowKit L
set_option linter.unusedVariables false
set_option linter.unusedSimpArgs false
theorem zel {d : je} (hd : DOk d) (hm : MOk d) {i : Nat} : Rch (dE d) (fun i => i = 0) i ↔ ∃ u, zy d u = i := by
  constructor
  · intro h
    induction h with
    | base h => exact ⟨[], by rw [h]; rfl⟩
    | @step i j _ he ih =>
      obtain ⟨u, hu⟩ := ih
      obtain ⟨_, c, h0, h1, h2⟩ := he
      refine ⟨u ++ [zjn d c], ?_⟩
      rw [Qh, hu]
      unfold stp
      rw [if_neg (by omega), Int.toNat_natCast, zlq hd hm h0 h1, h2]
  · rintro ⟨u, hu⟩
    revert i
    refine zgr (P := fun u => ∀ {i : Nat}, zy d u = i → Rch (dE d) (fun i => i = 0) i) ?_ ?_ u
    · intro i h; refine .base ?_; have : (0 : Int) = i := h; omega
    · intro u b ih i h
      obtain ⟨a1, a2⟩ := zkp (d := d) (w := u) (b := b) (by omega)
      obtain ⟨j, hj⟩ := Int.eq_ofNat_of_zero_le a1
      have hc := zgg hd hm b
      have hlt := zcz hd hm u
      refine .step (ih hj) ⟨by omega, Yx d b, hc.1, hc.2, ?_⟩
      rw [← h, a2, hj]; simp
end Go.Proofs.Ytpohfkgjghiofaa

namespace Go.Proofs.Ytpohfkgjghiofaa
open Go Go.RowKit L
set_option linter.unusedVariables false
set_option linter.unusedSimpArgs false
theorem zo1 {s : ByteArray} {k : Nat} (h : k < s.size) : Ym s (k : Int) = some (((tl s)[k]'(by rw [zlr]; exact h)).toNat : Int) := by
  unfold Ym
  rw [if_pos (by omega)]
  simp only [Int.toNat_natCast]
  have : s[k]? = some s[k] := getElem?_pos s k h
  rw [this]
  rfl
theorem ziy (d : je) (hd : DOk d) (s : ByteArray) (hs : s.size ≤ 9223372036854775807) : Tot (Vb d s) (· = if zk d = true then zy d (tl s) else -1) := by
  unfold Vb
  refine Tot.bindE (Vf d hd) ?_
  cases hR : zk d
  · repeat (first | with_reducible (refine Tot.bp ?_) | with_reducible (refine Tot.bb ?_) | (refine Tot.ct ?_ ?_; focus (first | with_reducible rfl | (simp (disch := omega) only [jy, jx, bl_]; done))) | (refine Tot.cf ?_ ?_; focus (first | with_reducible rfl | (simp (disch := omega) only [jy, jx, bl_]; done))) | with_reducible (refine Tot.bc ?_) | ((first | refine Tot.rdx ?_ ?_ | refine Tot.apx ?_ ?_ | refine Tot.mkx ?_ ?_); focus (first | omega | (simp; done) | (simp; omega))))
    exact Tot.pure (by simp)
  have hm := (zt d).1 hR
  have hn0 := hm.n0
  have hcl := d.ji.2
  repeat (first | with_reducible (refine Tot.bp ?_) | with_reducible (refine Tot.bb ?_) | (refine Tot.ct ?_ ?_; focus (first | with_reducible rfl | (simp (disch := omega) only [jy, jx, bl_]; done))) | (refine Tot.cf ?_ ?_; focus (first | with_reducible rfl | (simp (disch := omega) only [jy, jx, bl_]; done))) | with_reducible (refine Tot.bc ?_) | ((first | refine Tot.rdx ?_ ?_ | refine Tot.apx ?_ ?_ | refine Tot.mkx ?_ ?_); focus (first | omega | (simp; done) | (simp; omega))))
  rw [if_pos rfl]
  refine Tot.part (· = zy d (tl s)) ?_ fun a ha => Tot.pure ha
  have neg : ∀ v : List UInt8, ∀ a : Int, a < 0 → v.foldl (stp d) a = a := by
    intro v
    induction v with
    | nil => intro a _; rfl
    | cons b v ih => intro a ha; simp only [List.foldl_cons]; rw [zmm ha, ih a ha]
  refine Tot.forC (fun s => s.2) s.size (fun k (r : Int × Int) => r.2 = (k : Int) ∧ r.1 = zy d ((tl s).take k)) (fun k s h => h.1) ?_ ?_ ⟨rfl, by simp [zy]⟩
  · rintro k ⟨_, _⟩ hk ⟨rfl, rfl⟩
    have hkl : k < (tl s).length := by rw [zlr]; exact hk
    have hlt := zcz hd hm ((tl s).take k)
    have htk : (tl s).take (k + 1) = (tl s).take k ++ [(tl s)[k]] := List.take_succ_eq_append_getElem hkl
    by_cases h0 : 0 ≤ zy d ((tl s).take k)
    · have hrow := hm.row _ h0 hlt
      have hc := zgg hd hm ((tl s)[k])
      have hb := ((tl s)[k]).toNat_lt
      repeat (first | with_reducible (refine Tot.bp ?_) | with_reducible (refine Tot.bb ?_) | (refine Tot.ct ?_ ?_; focus (first | with_reducible rfl | (simp (disch := omega) only [jy, jx, bl_]; done))) | (refine Tot.cf ?_ ?_; focus (first | with_reducible rfl | (simp (disch := omega) only [jy, jx, bl_]; done))) | with_reducible (refine Tot.bc ?_) | ((first | refine Tot.rdx ?_ ?_ | refine Tot.apx ?_ ?_ | refine Tot.mkx ?_ ?_); focus (first | omega | (simp; done) | (simp; omega))))
      refine Tot.someB (zo1 hk) ?_
      have hcu : Yx d ((tl s)[k]) = at' d.ji.1 (((tl s)[k]).toNat : Int) := rfl
      refine Tot.rdx ⟨by omega, by omega⟩ ?_
      rw [← hcu]
      repeat (first | with_reducible (refine Tot.bp ?_) | with_reducible (refine Tot.bb ?_) | (refine Tot.ct ?_ ?_; focus (first | with_reducible rfl | (simp (disch := omega) only [jy, jx, bl_]; done))) | (refine Tot.cf ?_ ?_; focus (first | with_reducible rfl | (simp (disch := omega) only [jy, jx, bl_]; done))) | with_reducible (refine Tot.bc ?_) | ((first | refine Tot.rdx ?_ ?_ | refine Tot.apx ?_ ?_ | refine Tot.mkx ?_ ?_); focus (first | omega | (simp; done) | (simp; omega))))
      refine Tot.pure ⟨yi (by omega), ?_⟩
      simp only
      rw [htk, Qh]
      unfold stp nxt
      rw [if_neg (by omega), Int.toNat_of_nonneg h0]
    · repeat (first | with_reducible (refine Tot.bp ?_) | with_reducible (refine Tot.bb ?_) | (refine Tot.ct ?_ ?_; focus (first | with_reducible rfl | (simp (disch := omega) only [jy, jx, bl_]; done))) | (refine Tot.cf ?_ ?_; focus (first | with_reducible rfl | (simp (disch := omega) only [jy, jx, bl_]; done))) | with_reducible (refine Tot.bc ?_) | ((first | refine Tot.rdx ?_ ?_ | refine Tot.apx ?_ ?_ | refine Tot.mkx ?_ ?_); focus (first | omega | (simp; done) | (simp; omega))))
      refine Tot.pure ?_
      have : tl s = (tl s).take k ++ (tl s).drop k := (List.take_append_drop k _).symm
      rw [this, zn7, neg _ _ (by omega)]
      simp
  · rintro ⟨_, _⟩ ⟨rfl, rfl⟩
    repeat (first | with_reducible (refine Tot.bp ?_) | with_reducible (refine Tot.bb ?_) | (refine Tot.ct ?_ ?_; focus (first | with_reducible rfl | (simp (disch := omega) only [jy, jx, bl_]; done))) | (refine Tot.cf ?_ ?_; focus (first | with_reducible rfl | (simp (disch := omega) only [jy, jx, bl_]; done))) | with_reducible (refine Tot.bc ?_) | ((first | refine Tot.rdx ?_ ?_ | refine Tot.apx ?_ ?_ | refine Tot.mkx ?_ ?_); focus (first | omega | (simp; done) | (simp; omega))))
    refine Tot.pure ?_
    rw [← zlr, List.take_length]
def zia (d : je) (a : Int) : Int := if a < 0 then -1 else zac d a.toNat
theorem zfi (d : je) (hd : DOk d) (a : Int) (ha : a < d.ja.length) : Tot (Jv d a) (· = if zk d = true then zia d a else -1) := by
  unfold Jv
  refine Tot.bindE (Vf d hd) ?_
  cases hR : zk d
  · repeat (first | with_reducible (refine Tot.bp ?_) | with_reducible (refine Tot.bb ?_) | (refine Tot.ct ?_ ?_; focus (first | with_reducible rfl | (simp (disch := omega) only [jy, jx, bl_]; done))) | (refine Tot.cf ?_ ?_; focus (first | with_reducible rfl | (simp (disch := omega) only [jy, jx, bl_]; done))) | with_reducible (refine Tot.bc ?_) | ((first | refine Tot.rdx ?_ ?_ | refine Tot.apx ?_ ?_ | refine Tot.mkx ?_ ?_); focus (first | omega | (simp; done) | (simp; omega))))
    exact Tot.pure (by simp)
  have hm := (zt d).1 hR
  have hlab := hm.lab
  rw [if_pos rfl]
  by_cases h0 : a < 0
  · repeat (first | with_reducible (refine Tot.bp ?_) | with_reducible (refine Tot.bb ?_) | (refine Tot.ct ?_ ?_; focus (first | with_reducible rfl | (simp (disch := omega) only [jy, jx, bl_]; done))) | (refine Tot.cf ?_ ?_; focus (first | with_reducible rfl | (simp (disch := omega) only [jy, jx, bl_]; done))) | with_reducible (refine Tot.bc ?_) | ((first | refine Tot.rdx ?_ ?_ | refine Tot.apx ?_ ?_ | refine Tot.mkx ?_ ?_); focus (first | omega | (simp; done) | (simp; omega))))
    refine Tot.pure ?_
    unfold zia; rw [if_pos h0]
  · repeat (first | with_reducible (refine Tot.bp ?_) | with_reducible (refine Tot.bb ?_) | (refine Tot.ct ?_ ?_; focus (first | with_reducible rfl | (simp (disch := omega) only [jy, jx, bl_]; done))) | (refine Tot.cf ?_ ?_; focus (first | with_reducible rfl | (simp (disch := omega) only [jy, jx, bl_]; done))) | with_reducible (refine Tot.bc ?_) | ((first | refine Tot.rdx ?_ ?_ | refine Tot.apx ?_ ?_ | refine Tot.mkx ?_ ?_); focus (first | omega | (simp; done) | (simp; omega))))
    refine Tot.pure ?_
    unfold zia zac; rw [if_neg h0, Int.toNat_of_nonneg (by omega)]
end Go.Proofs.Ytpohfkgjghiofaa

namespace Go.Proofs.Ytpohfkgjghiofaa
open Go Go.RowKit L
set_option linter.unusedVariables false
set_option linter.unusedSimpArgs false
theorem Qt (r a : List Bool) : ∀ (n i : Nat), i < n → zr r a i = true → (yr r a n)[(yr r a i).length]? = some i
  | 0, i, h, _ => by omega
  | n + 1, i, h, hk => by
    rw [zgs]
    by_cases hi : i = n
    · subst hi
      rw [hk, if_pos rfl]; simp
    · have ih := Qt r a n i (by omega) hk
      split
      · rw [List.getElem?_append_left (List.getElem?_eq_some_iff.1 ih).1]; exact ih
      · exact ih
theorem zm7 (r a : List Bool) {n j i : Nat} (h : (yr r a n)[j]? = some i) : (yr r a i).length = j := by
  have hmem := List.mem_of_getElem? h
  obtain ⟨h1, h2⟩ := zc3.1 hmem
  have h3 := Qt r a n i h1 h2
  have hnd : (yr r a n).Pairwise (· < ·) := by
    unfold yr
    exact List.Pairwise.sublist List.filter_sublist List.pairwise_lt_range
  obtain ⟨l1, e1⟩ := List.getElem?_eq_some_iff.1 h
  obtain ⟨l2, e2⟩ := List.getElem?_eq_some_iff.1 h3
  rcases Nat.lt_trichotomy (yr r a i).length j with hl | hl | hl
  · have := List.pairwise_iff_getElem.1 hnd _ _ l2 l1 hl; omega
  · exact hl
  · have := List.pairwise_iff_getElem.1 hnd _ _ l1 l2 hl; omega
section
variable {d : je} (hd : DOk d) (hm : MOk d)
noncomputable abbrev ra (d : je) := Vo d
noncomputable abbrev al (d : je) := za0 d
def zak (d : je) (i : Nat) : Prop := Rch (fun i j => dE d j i) (fun i => i < d.ja.length ∧ 0 ≤ zac d i) i
def zjy (d : je) (i : Nat) : Prop := Rch (dE d) (fun i => i = 0) i
include hm in
theorem zlb {i : Nat} (hi : i < d.ja.length) : at' (al d) (i : Int) = true ↔ zak d i := by
  rw [zji]
  unfold al za0 zak
  rw [if_pos ((zt d).2 hm), zgf]
  exact ⟨fun h => h.2, fun h => ⟨hi, h⟩⟩
include hm in
theorem zh2 {i : Nat} (hi : i < d.ja.length) : at' (ra d) (i : Int) = true ↔ zjy d i := by
  rw [zji]
  unfold ra Vo zjy
  rw [if_pos ((zt d).2 hm), zgf]
  exact ⟨fun h => h.2, fun h => ⟨hi, h⟩⟩
include hm in
theorem Yl {i : Nat} (hi : i < d.ja.length) : zr (ra d) (al d) i = true ↔ i = 0 ∨ (zjy d i ∧ zak d i) := by
  unfold zr
  rw [Bool.or_eq_true, Bool.and_eq_true, zlb hm hi, zh2 hm hi, decide_eq_true_eq]
theorem zhz {i : Nat} {c : Int} (hi : i < d.ja.length) (h0 : 0 ≤ c) (h1 : c < d.jf) (hn : 0 ≤ nxt d i c) (h : zak d (nxt d i c).toNat) : zak d i :=
  .step h ⟨hi, c, h0, h1, by rw [Int.toNat_of_nonneg hn]⟩
noncomputable abbrev tr (d : je) : je := zem d (ra d) (al d)
noncomputable abbrev kp (d : je) : List Nat := yr (ra d) (al d) d.ja.length
theorem zcj : (tr d).ja.length = (kp d).length := by simp [tr, zem]
theorem zj1 {j : Nat} {i : Nat} (h : (kp d)[j]? = some i) : zac (tr d) j = zac d i := by
  obtain ⟨hl, e⟩ := List.getElem?_eq_some_iff.1 h
  unfold zac tr zem
  rw [zd (by simpa using hl)]
  simp [e, zac]
theorem znp {j : Nat} {i : Nat} (h : (kp d)[j]? = some i) : at' (tr d).ja (j : Int) = zgj d (ra d) (al d) i := by
  obtain ⟨hl, e⟩ := List.getElem?_eq_some_iff.1 h
  unfold tr zem
  rw [zd (by simpa using hl)]
  simp [e]
include hm in
theorem zg4 {j i : Nat} (hi : i < d.ja.length) (h : (kp d)[j]? = some i) {c : Int} (h0 : 0 ≤ c) (h1 : c < d.jf) : nxt (tr d) j c = zaw (ra d) (al d) (nxt d i c) := by
  have hrow := hm.row i (by omega) (by omega)
  obtain ⟨c, rfl⟩ := Int.eq_ofNat_of_zero_le h0
  unfold nxt
  rw [znp h]
  unfold zgj
  have h2 : c < (at' d.ja (i : Int)).length := by omega
  rw [zd (l := (at' d.ja (i : Int)).map (zaw (ra d) (al d))) (k := c) (by simpa using h2), List.getElem_map, zd (l := at' d.ja (i : Int)) (k := c) h2]
theorem Zk {i : Nat} (h : zr (ra d) (al d) i = true) : za5 (ra d) (al d) i = ((yr (ra d) (al d) i).length : Int) := by
  unfold za5; rw [if_pos h]
theorem zi2 {j i : Nat} (h : (kp d)[j]? = some i) : i < d.ja.length ∧ zr (ra d) (al d) i = true := zc3.1 (List.mem_of_getElem? h)
theorem zlu {z : Int} (h0 : -1 ≤ z) (h1 : z < d.ja.length) : -1 ≤ zaw (ra d) (al d) z ∧ zaw (ra d) (al d) z < (kp d).length := by
  unfold zaw
  by_cases hz : 0 ≤ z
  · rw [if_pos hz]
    unfold za5
    by_cases hk : zr (ra d) (al d) z.toNat = true
    · rw [if_pos hk]
      have := Qt (ra d) (al d) d.ja.length z.toNat (by omega) hk
      have : (yr (ra d) (al d) z.toNat).length < (kp d).length := (List.getElem?_eq_some_iff.1 this).1
      exact ⟨by omega, by omega⟩
    · rw [if_neg hk]; exact ⟨by omega, by omega⟩
  · rw [if_neg hz]; exact ⟨h0, by omega⟩
include hm in
theorem zmg : (kp d)[0]? = some 0 := by
  have h : zr (ra d) (al d) 0 = true := (Yl hm hm.n0).2 (.inl rfl)
  have := Qt (ra d) (al d) d.ja.length 0 hm.n0 h
  simpa [yr] using this
include hd hm in
theorem zow : MOk (tr d) ∧ DOk (tr d) := by
  have hkl : (kp d).length ≤ d.ja.length := zct _ _ _
  have h0 := (List.getElem?_eq_some_iff.1 (zmg hm)).1
  have hkp : ∀ i : Int, 0 ≤ i → i < (tr d).ja.length → ∃ j q : Nat, i = (j : Int) ∧ (kp d)[j]? = some q := fun i hi hi2 => by
    obtain ⟨j, rfl⟩ := Int.eq_ofNat_of_zero_le hi
    rw [zcj] at hi2
    exact ⟨j, _, rfl, List.getElem?_eq_getElem (by omega)⟩
  refine ⟨⟨by rw [zcj]; exact h0, by simp [tr, zem], hm.cls, hm.wid, ?_, ?_, ?_⟩, ⟨hd.cls, by rw [zcj]; have := hd.next; omega, ?_⟩⟩
  · intro i hi hi2
    obtain ⟨j, q, rfl, hq⟩ := hkp i hi hi2
    rw [znp hq]
    have := hm.row q (by omega) (by have := (zi2 hq).1; omega)
    unfold zgj
    rw [List.length_map]; exact this
  · intro i hi hi2
    obtain ⟨j, q, rfl, hq⟩ := hkp i hi hi2
    have := hm.lb q (by omega) (by have := (zi2 hq).1; omega)
    have h2 := zj1 hq
    unfold zac at h2
    rw [h2]; exact this
  · intro i c hi hi2 hc hc2
    obtain ⟨j, q, rfl, hq⟩ := hkp i hi hi2
    have hql := (zi2 hq).1
    have hc2' : c < d.jf := hc2
    have := zg4 hm hql hq hc hc2'
    unfold nxt at this
    rw [this, zcj]
    have h := hm.nx q c (by omega) (by omega) hc hc2'
    exact zlu h.1 h.2
  · intro r hr
    simp only [tr, zem, List.mem_map] at hr
    obtain ⟨q, hq, rfl⟩ := hr
    unfold zgj
    rw [List.length_map]
    exact hd.rows _ (zb3 (by omega) (by have := (zc3.1 hq).1; omega))
include hd hm in
theorem zoq (u : List UInt8) : (∀ s : Nat, zy d u = s → zak d s → zy (tr d) u = za5 (ra d) (al d) s) ∧
    (¬ (0 ≤ zy d u ∧ zak d (zy d u).toNat) → zy (tr d) u < 0 ∨ ∃ j q : Nat, zy (tr d) u = (j : Int) ∧ (kp d)[j]? = some q ∧ ¬ zak d q) := by
  refine zgr (P := fun u => (∀ s : Nat, zy d u = s → zak d s → zy (tr d) u = za5 (ra d) (al d) s) ∧
    (¬ (0 ≤ zy d u ∧ zak d (zy d u).toNat) → zy (tr d) u < 0 ∨ ∃ j q : Nat, zy (tr d) u = (j : Int) ∧ (kp d)[j]? = some q ∧ ¬ zak d q)) ?_ ?_ u
  · refine ⟨fun s hs _ => ?_, fun h => .inr ⟨0, 0, rfl, zmg hm, fun ha => h ⟨by simp [zy], by simpa [zy] using ha⟩⟩⟩
    have h0 : s = 0 := by have : (0 : Int) = s := hs; omega
    subst h0
    have h : zr (ra d) (al d) 0 = true := (Yl hm hm.n0).2 (.inl rfl)
    rw [Zk h]; rfl
  · intro u b ih
    have hc := zgg hd hm b
    have hct : Yx (tr d) b = Yx d b := rfl
    have hlt := zcz hd hm u
    constructor
    · intro s hs ha
      obtain ⟨a1, a2⟩ := zkp (d := d) (w := u) (b := b) (by omega)
      obtain ⟨i, hi⟩ := Int.eq_ofNat_of_zero_le a1
      rw [hi] at a2 hlt
      simp only [Int.toNat_natCast] at a2
      have hil : i < d.ja.length := by omega
      have hai : zak d i := zhz hil hc.1 hc.2 (by omega) (by rw [← a2, hs]; simpa using ha)
      have hri : zjy d i := (zel hd hm).2 ⟨u, hi⟩
      have hk : zr (ra d) (al d) i = true := (Yl hm hil).2 (.inr ⟨hri, hai⟩)
      have hat := Qt (ra d) (al d) d.ja.length i hil hk
      rw [Qh, ih.1 i hi hai, Zk hk]
      unfold stp
      rw [if_neg (by omega), Int.toNat_natCast, hct, zg4 hm hil hat hc.1 hc.2, ← a2, hs]
      unfold zaw; rw [if_pos (by omega)]; simp
    · intro hno
      by_cases hs : 0 ≤ zy d u ∧ zak d (zy d u).toNat
      · obtain ⟨i, hi⟩ := Int.eq_ofNat_of_zero_le hs.1
        rw [hi] at hlt hs
        simp only [Int.toNat_natCast] at hs
        have hil : i < d.ja.length := by omega
        have hri : zjy d i := (zel hd hm).2 ⟨u, hi⟩
        have hk : zr (ra d) (al d) i = true := (Yl hm hil).2 (.inr ⟨hri, hs.2⟩)
        have hat := Qt (ra d) (al d) d.ja.length i hil hk
        have hrun : zy d (u ++ [b]) = nxt d i (Yx d b) := by
          rw [Qh, hi]; unfold stp; rw [if_neg (by omega), Int.toNat_natCast]
        have hrt : zy (tr d) (u ++ [b]) = zaw (ra d) (al d) (nxt d i (Yx d b)) := by
          rw [Qh, ih.1 i hi hs.2, Zk hk]
          unfold stp
          rw [if_neg (by omega), Int.toNat_natCast, hct, zg4 hm hil hat hc.1 hc.2]
        rw [hrun] at hno
        rw [hrt]
        have hnx := hm.nx i (Yx d b) (by omega) (by omega) hc.1 hc.2
        have hnx' : -1 ≤ nxt d i (Yx d b) ∧ nxt d i (Yx d b) < d.ja.length := hnx
        unfold zaw
        by_cases hz : 0 ≤ nxt d i (Yx d b)
        · rw [if_pos hz]
          have hna : ¬ zak d (nxt d i (Yx d b)).toNat := fun h => hno ⟨hz, h⟩
          unfold za5
          by_cases hk2 : zr (ra d) (al d) (nxt d i (Yx d b)).toNat = true
          · rw [if_pos hk2]
            exact .inr ⟨_, _, rfl, Qt (ra d) (al d) d.ja.length _ (by omega) hk2, hna⟩
          · rw [if_neg hk2]; exact .inl (by omega)
        · rw [if_neg hz]; exact .inl (by omega)
      · rcases ih.2 hs with h | ⟨j, q, hj, hq, hna⟩
        · left; rw [Qh, zmm h]; exact h
        · have hql := (zi2 hq).1
          have hrt : zy (tr d) (u ++ [b]) = zaw (ra d) (al d) (nxt d q (Yx d b)) := by
            rw [Qh, hj]
            unfold stp
            rw [if_neg (by omega), Int.toNat_natCast, hct, zg4 hm hql hq hc.1 hc.2]
          rw [hrt]
          have hnx := hm.nx q (Yx d b) (by omega) (by omega) hc.1 hc.2
          have hnx' : -1 ≤ nxt d q (Yx d b) ∧ nxt d q (Yx d b) < d.ja.length := hnx
          unfold zaw
          by_cases hz : 0 ≤ nxt d q (Yx d b)
          · rw [if_pos hz]
            have hna2 : ¬ zak d (nxt d q (Yx d b)).toNat := fun h => hna (zhz hql hc.1 hc.2 hz h)
            unfold za5
            by_cases hk2 : zr (ra d) (al d) (nxt d q (Yx d b)).toNat = true
            · rw [if_pos hk2]
              exact .inr ⟨_, _, rfl, Qt (ra d) (al d) d.ja.length _ (by omega) hk2, hna2⟩
            · rw [if_neg hk2]; exact .inl (by omega)
          · rw [if_neg hz]; exact .inl (by omega)
include hd hm in
theorem znw (u : List UInt8) : zia (tr d) (zy (tr d) u) = zia d (zy d u) := by
  obtain ⟨h1, h2⟩ := zoq hd hm u
  have hlt := zcz hd hm u
  have dead : ∀ q : Nat, q < d.ja.length → ¬ zak d q → zac d q = -1 := fun q hq hna => by
    have := hm.lb q (by omega) (by omega)
    have h3 : ¬ 0 ≤ zac d q := fun h => hna (.base ⟨hq, h⟩)
    unfold zac at h3 ⊢
    omega
  by_cases hs : 0 ≤ zy d u ∧ zak d (zy d u).toNat
  · obtain ⟨i, hi⟩ := Int.eq_ofNat_of_zero_le hs.1
    rw [hi] at hs hlt
    simp only [Int.toNat_natCast] at hs
    have hil : i < d.ja.length := by omega
    have hk : zr (ra d) (al d) i = true := (Yl hm hil).2 (.inr ⟨(zel hd hm).2 ⟨u, hi⟩, hs.2⟩)
    rw [h1 i hi hs.2, hi, Zk hk]
    unfold zia
    rw [if_neg (by omega), if_neg (by omega)]
    exact zj1 (Qt (ra d) (al d) d.ja.length i hil hk)
  · have e1 : zia d (zy d u) = -1 := by
      unfold zia
      by_cases hz : zy d u < 0
      · rw [if_pos hz]
      · rw [if_neg hz]; exact dead _ (by omega) fun h => hs ⟨by omega, h⟩
    rw [e1]
    rcases h2 hs with h | ⟨j, q, hj, hq, hna⟩
    · unfold zia; rw [if_pos h]
    · unfold zia
      rw [hj, if_neg (by omega), Int.toNat_natCast, zj1 hq]
      exact dead q (zi2 hq).1 hna
include hd hm in
theorem zi4 {j : Nat} (hj : j < (kp d).length) (h0 : j ≠ 0) : zjy (tr d) j ∧ zak (tr d) j := by
  obtain ⟨hmt, hdt⟩ := zow hd hm
  have hq := List.getElem?_eq_getElem hj
  generalize (kp d)[j] = q at hq
  obtain ⟨hql, hk⟩ := zi2 hq
  have hjq := zm7 _ _ hq
  have hq0 : q ≠ 0 := fun e => by subst e; simp [yr] at hjq; omega
  have hra : zjy d q ∧ zak d q := ((Yl hm hql).1 hk).resolve_left hq0
  constructor
  · obtain ⟨u, hu⟩ := (zel hd hm).1 hra.1
    have := (zoq hd hm u).1 q hu hra.2
    rw [Zk hk, hjq] at this
    exact (zel hdt hmt).2 ⟨u, this⟩
  · have key : ∀ q, zak d q → zjy d q → q < d.ja.length → ∀ j : Nat, (kp d)[j]? = some q → zak (tr d) j := by
      intro q ha
      induction ha with
      | @base i hi =>
        intro _ _ j hj
        refine .base ⟨by rw [zcj]; exact (List.getElem?_eq_some_iff.1 hj).1, ?_⟩
        rw [zj1 hj]; exact hi.2
      | @step i q hai he ih =>
        intro hr hql j hj
        obtain ⟨_, c, h1, h2, h3⟩ := he
        have hil : i < d.ja.length := by
          have := hm.nx q c (by omega) (by omega) h1 h2
          have h4 : nxt d q c < d.ja.length := this.2
          omega
        have hri : zjy d i := .step hr ⟨hql, c, h1, h2, h3⟩
        have hki : zr (ra d) (al d) i = true := (Yl hm hil).2 (.inr ⟨hri, hai⟩)
        have hat := Qt (ra d) (al d) d.ja.length i hil hki
        refine .step (ih hri hil _ hat) ⟨by rw [zcj]; exact (List.getElem?_eq_some_iff.1 hj).1, c, h1, h2, ?_⟩
        rw [zg4 hm hql hj h1 h2, h3]
        unfold zaw
        rw [if_pos (by omega), Int.toNat_natCast, Zk hki]
    exact key q hra.2 hra.1 hql j hq
include hd hm in
theorem znz : zfo (tr d) = tr d := by
  obtain ⟨hmt, hdt⟩ := zow hd hm
  unfold zfo
  rw [if_pos ((zt _).2 hmt)]
  have hlen := zcj (d := d)
  have hkeep : ∀ i, i < (tr d).ja.length → zr (ra (tr d)) (al (tr d)) i = true := fun i hi => by
    rw [Yl hmt hi]
    by_cases h0 : i = 0
    · exact .inl h0
    · exact .inr (zi4 hd hm (by omega) h0)
  have hall : ∀ k, k ≤ (tr d).ja.length → yr (ra (tr d)) (al (tr d)) k = List.range k := fun k hk => by
    unfold yr
    rw [List.filter_eq_self]
    intro i hi
    exact hkeep i (by have := List.mem_range.1 hi; omega)
  have hnum : ∀ i, i < (tr d).ja.length → za5 (ra (tr d)) (al (tr d)) i = (i : Int) := fun i hi => by
    rw [Zk (hkeep i hi), hall i (by omega)]; simp
  have hlab := hmt.lab
  show zem (tr d) (ra (tr d)) (al (tr d)) = tr d
  have e1 : (kp (tr d)).map (zgj (tr d) (ra (tr d)) (al (tr d))) = (tr d).ja := by
    rw [show kp (tr d) = List.range (tr d).ja.length from hall _ (Nat.le_refl _)]
    refine List.ext_getElem (by simp) fun j h1 h2 => ?_
    simp only [List.getElem_map, List.getElem_range]
    unfold zgj
    rw [zd h2]
    refine List.ext_getElem (by simp) fun c h3 h4 => ?_
    simp only [List.getElem_map]
    have hrow := hmt.row j (by omega) (by omega)
    rw [zd h2] at hrow
    have hnx := hmt.nx j c (by omega) (by omega) (by omega) (by omega)
    rw [zd h2, zd h4] at hnx
    unfold zaw
    split
    · rw [hnum _ (by omega)]; omega
    · rfl
  have e2 : (kp (tr d)).map (zac (tr d)) = (tr d).jk := by
    rw [show kp (tr d) = List.range (tr d).ja.length from hall _ (Nat.le_refl _)]
    refine List.ext_getElem (by simp [hlab]) fun j h1 h2 => ?_
    simp only [List.getElem_map, List.getElem_range]
    unfold zac
    rw [zd h2]
  unfold zem
  rw [e1, e2]
end
theorem zo9 {s : ByteArray} {k : Nat} (h : k ≤ s.size) : ∃ r, zh8 s 0 (k : Int) = some r ∧ tl r = (tl s).take k ∧ r.size = k := by
  unfold zh8
  rw [if_pos ⟨by omega, by omega, by simp, by simpa using h⟩]
  refine ⟨_, rfl, ?_, ?_⟩
  · unfold tl
    simp only [ByteArray.data_extract, Int.toNat_natCast]
    simp
  · simp; omega
theorem eta_d (x : je) : (⟨x.ji, x.jf, x.ja, x.jk⟩ : je) = x := rfl
theorem zjl (d : je) (w : ByteArray) (hd : DOk d) (hlen : d.ja.length ≤ 9223372036854775807) (hw : w.size ≤ 9223372036854775807) : Tot (g_law15_LiveSame d w) (· = true) := by
  unfold g_law15_LiveSame
  refine Tot.part _ (zk1 d hd hlen) fun b hb => ?_
  refine Tot.cond (fun h => ?_) fun h => ?_
  · exact Tot.bindE zeu (Tot.pure rfl)
  simp only [Bool.or_eq_false_iff, Bool.not_eq_false', decide_eq_false_iff_not] at h
  obtain ⟨n1, n2⟩ := hb h.1.1
  refine Tot.bindE (zeg d hd (by omega)) ?_
  simp only [eta_d]
  refine Tot.bindE (Vf d hd) ?_
  by_cases hR : zk d = true
  rotate_left
  · simp only [Bool.not_eq_true] at hR
    have e : zfo d = ⟨arZ 256 0, 0, [], []⟩ := by unfold zfo; rw [hR]; rfl
    rw [hR, e]
    repeat (first | with_reducible (refine Tot.bp ?_) | with_reducible (refine Tot.bb ?_) | (refine Tot.ct ?_ ?_; focus (first | with_reducible rfl | (simp (disch := omega) only [jy, jx, bl_]; done))) | (refine Tot.cf ?_ ?_; focus (first | with_reducible rfl | (simp (disch := omega) only [jy, jx, bl_]; done))) | with_reducible (refine Tot.bc ?_) | ((first | refine Tot.rdx ?_ ?_ | refine Tot.apx ?_ ?_ | refine Tot.mkx ?_ ?_); focus (first | omega | (simp; done) | (simp; omega))))
    refine Tot.bindE zeu (Tot.pure ?_)
    simp
  have hm := (zt d).1 hR
  obtain ⟨hmt, hdt⟩ := zow hd hm
  have hRt := (zt _).2 hmt
  have e : zfo d = tr d := by unfold zfo; rw [if_pos hR]
  have hkl : (kp d).length ≤ d.ja.length := zct _ _ _
  have htl := zcj (d := d)
  have hn0 := hmt.n0
  have hlab := hmt.lab
  rw [e, hR]
  have hag := znz hd hm
  have hcnt := fun j hj h0 => zi4 hd hm (j := j) hj h0
  have hlabel := znw hd hm
  generalize hx : tr d = x at hmt hdt hRt htl hn0 hlab hag hcnt hlabel ⊢
  repeat (first | with_reducible (refine Tot.bp ?_) | with_reducible (refine Tot.bb ?_) | (refine Tot.ct ?_ ?_; focus (first | with_reducible rfl | (simp (disch := omega) only [jy, jx, bl_]; done))) | (refine Tot.cf ?_ ?_; focus (first | with_reducible rfl | (simp (disch := omega) only [jy, jx, bl_]; done))) | with_reducible (refine Tot.bc ?_) | ((first | refine Tot.rdx ?_ ?_ | refine Tot.apx ?_ ?_ | refine Tot.mkx ?_ ?_); focus (first | omega | (simp; done) | (simp; omega))))
  refine Tot.part (· = .inl ()) ?_ ?_
  · refine Tot.forC (fun s => s) (w.size + 1) (fun k (s : Int) => s = (k : Int)) (fun k s h => h) ?_ ?_ rfl
    · rintro k _ hk rfl
      obtain ⟨u, hu, htu, hsz⟩ := zo9 (s := w) (k := k) (by omega)
      have r1 := ziy x hdt u (by omega)
      have r2 := ziy d hd u (by omega)
      rw [hRt, if_pos rfl] at r1
      rw [hR, if_pos rfl] at r2
      have l1 := zfi x hdt _ (zcz hdt hmt (tl u))
      have l2 := zfi d hd _ (zcz hd hm (tl u))
      rw [hRt, if_pos rfl] at l1
      rw [hR, if_pos rfl] at l2
      repeat (first | with_reducible (refine Tot.bp ?_) | with_reducible (refine Tot.bb ?_) | (refine Tot.ct ?_ ?_; focus (first | with_reducible rfl | (simp (disch := omega) only [jy, jx, bl_]; done))) | (refine Tot.cf ?_ ?_; focus (first | with_reducible rfl | (simp (disch := omega) only [jy, jx, bl_]; done))) | with_reducible (refine Tot.bc ?_) | ((first | refine Tot.rdx ?_ ?_ | refine Tot.apx ?_ ?_ | refine Tot.mkx ?_ ?_); focus (first | omega | (simp; done) | (simp; omega))))
      refine Tot.someB hu ?_
      refine Tot.bindE r1 (Tot.bindE l1 ?_)
      refine Tot.someB hu ?_
      refine Tot.bindE r2 (Tot.bindE l2 ?_)
      rw [hlabel]
      repeat (first | with_reducible (refine Tot.bp ?_) | with_reducible (refine Tot.bb ?_) | (refine Tot.ct ?_ ?_; focus (first | with_reducible rfl | (simp (disch := omega) only [jy, jx, bl_, not_true_eq_false, decide_false]; done))) | (refine Tot.cf ?_ ?_; focus (first | with_reducible rfl | (simp (disch := omega) only [jy, jx, bl_, not_true_eq_false, decide_false]; done))) | with_reducible (refine Tot.bc ?_) | ((first | refine Tot.rdx ?_ ?_ | refine Tot.apx ?_ ?_ | refine Tot.mkx ?_ ?_); focus (first | omega | (simp [not_true_eq_false, decide_false]; done) | (simp [not_true_eq_false, decide_false]; omega))))
      exact Tot.pure (yi (by omega))
    · rintro _ rfl
      repeat (first | with_reducible (refine Tot.bp ?_) | with_reducible (refine Tot.bb ?_) | (refine Tot.ct ?_ ?_; focus (first | with_reducible rfl | (simp (disch := omega) only [jy, jx, bl_]; done))) | (refine Tot.cf ?_ ?_; focus (first | with_reducible rfl | (simp (disch := omega) only [jy, jx, bl_]; done))) | with_reducible (refine Tot.bc ?_) | ((first | refine Tot.rdx ?_ ?_ | refine Tot.apx ?_ ?_ | refine Tot.mkx ?_ ?_); focus (first | omega | (simp; done) | (simp; omega))))
      exact Tot.pure rfl
  · rintro _ rfl
    refine Tot.bindE (zbj x hdt (by omega)) ?_
    refine Tot.bindE (zdd x hdt (by omega)) ?_
    have g1 := zd9 hRt
    have g2 := zhh hRt
    repeat (first | with_reducible (refine Tot.bp ?_) | with_reducible (refine Tot.bb ?_) | (refine Tot.ct ?_ ?_; focus (first | with_reducible rfl | (simp (disch := omega) only [jy, jx, bl_]; done))) | (refine Tot.cf ?_ ?_; focus (first | with_reducible rfl | (simp (disch := omega) only [jy, jx, bl_]; done))) | with_reducible (refine Tot.bc ?_) | ((first | refine Tot.rdx ?_ ?_ | refine Tot.apx ?_ ?_ | refine Tot.mkx ?_ ?_); focus (first | omega | (simp; done) | (simp; omega))))
    refine Tot.part (· = .inl ()) ?_ ?_
    · refine Tot.loop (fun s : Int => ∃ k : Nat, s = (k : Int) ∧ 1 ≤ k ∧ k ≤ x.ja.length) (fun s : Int => x.ja.length - s.toNat) ?_ ⟨1, rfl, Nat.le_refl _, hn0⟩
      rintro _ ⟨k, rfl, hk1, hk2⟩
      by_cases hlt : k < x.ja.length
      · have hc := hcnt k (by omega) (by omega)
        have a1 : at' (Vo x) (k : Int) = true := (zh2 hmt hlt).2 hc.1
        have a2 : at' (za0 x) (k : Int) = true := (zlb hmt hlt).2 hc.2
        repeat (first | with_reducible (refine Tot.bp ?_) | with_reducible (refine Tot.bb ?_) | (refine Tot.ct ?_ ?_; focus (first | with_reducible rfl | (simp (disch := omega) only [jy, jx, bl_]; done))) | (refine Tot.cf ?_ ?_; focus (first | with_reducible rfl | (simp (disch := omega) only [jy, jx, bl_]; done))) | with_reducible (refine Tot.bc ?_) | ((first | refine Tot.rdx ?_ ?_ | refine Tot.apx ?_ ?_ | refine Tot.mkx ?_ ?_); focus (first | omega | (simp; done) | (simp; omega))))
        rw [a1]
        repeat (first | with_reducible (refine Tot.bp ?_) | with_reducible (refine Tot.bb ?_) | (refine Tot.ct ?_ ?_; focus (first | with_reducible rfl | (simp (disch := omega) only [jy, jx, bl_]; done))) | (refine Tot.cf ?_ ?_; focus (first | with_reducible rfl | (simp (disch := omega) only [jy, jx, bl_]; done))) | with_reducible (refine Tot.bc ?_) | ((first | refine Tot.rdx ?_ ?_ | refine Tot.apx ?_ ?_ | refine Tot.mkx ?_ ?_); focus (first | omega | (simp; done) | (simp; omega))))
        rw [a2]
        repeat (first | with_reducible (refine Tot.bp ?_) | with_reducible (refine Tot.bb ?_) | (refine Tot.ct ?_ ?_; focus (first | with_reducible rfl | (simp (disch := omega) only [jy, jx, bl_]; done))) | (refine Tot.cf ?_ ?_; focus (first | with_reducible rfl | (simp (disch := omega) only [jy, jx, bl_]; done))) | with_reducible (refine Tot.bc ?_) | ((first | refine Tot.rdx ?_ ?_ | refine Tot.apx ?_ ?_ | refine Tot.mkx ?_ ?_); focus (first | omega | (simp; done) | (simp; omega))))
        rw [yi (by omega)]
        exact Tot.pure ⟨⟨k + 1, rfl, by omega, by omega⟩, by simp only [Int.toNat_natCast]; omega⟩
      · repeat (first | with_reducible (refine Tot.bp ?_) | with_reducible (refine Tot.bb ?_) | (refine Tot.ct ?_ ?_; focus (first | with_reducible rfl | (simp (disch := omega) only [jy, jx, bl_]; done))) | (refine Tot.cf ?_ ?_; focus (first | with_reducible rfl | (simp (disch := omega) only [jy, jx, bl_]; done))) | with_reducible (refine Tot.bc ?_) | ((first | refine Tot.rdx ?_ ?_ | refine Tot.apx ?_ ?_ | refine Tot.mkx ?_ ?_); focus (first | omega | (simp; done) | (simp; omega))))
        exact Tot.pure rfl
    · rintro _ rfl
      refine Tot.bindE (Vf x hdt) ?_
      rw [hRt]
      repeat (first | with_reducible (refine Tot.bp ?_) | with_reducible (refine Tot.bb ?_) | (refine Tot.ct ?_ ?_; focus (first | with_reducible rfl | (simp (disch := omega) only [jy, jx, bl_]; done))) | (refine Tot.cf ?_ ?_; focus (first | with_reducible rfl | (simp (disch := omega) only [jy, jx, bl_]; done))) | with_reducible (refine Tot.bc ?_) | ((first | refine Tot.rdx ?_ ?_ | refine Tot.apx ?_ ?_ | refine Tot.mkx ?_ ?_); focus (first | omega | (simp; done) | (simp; omega))))
      refine Tot.bindE (zeg x hdt (by omega)) ?_
      rw [hag]
      repeat (first | with_reducible (refine Tot.bp ?_) | with_reducible (refine Tot.bb ?_) | (refine Tot.ct ?_ ?_; focus (first | with_reducible rfl | (simp (disch := omega) only [jy, jx, bl_]; done))) | (refine Tot.cf ?_ ?_; focus (first | with_reducible rfl | (simp (disch := omega) only [jy, jx, bl_]; done))) | with_reducible (refine Tot.bc ?_) | ((first | refine Tot.rdx ?_ ?_ | refine Tot.apx ?_ ?_ | refine Tot.mkx ?_ ?_); focus (first | omega | (simp; done) | (simp; omega))))
      refine Tot.bindE (zki x (by omega) (by omega) fun i hi => hdt.rows _ (zb3 (by omega) (by omega))) ?_
      repeat (first | with_reducible (refine Tot.bp ?_) | with_reducible (refine Tot.bb ?_) | (refine Tot.ct ?_ ?_; focus (first | with_reducible rfl | (simp (disch := omega) only [jy, jx, bl_]; done))) | (refine Tot.cf ?_ ?_; focus (first | with_reducible rfl | (simp (disch := omega) only [jy, jx, bl_]; done))) | with_reducible (refine Tot.bc ?_) | ((first | refine Tot.rdx ?_ ?_ | refine Tot.apx ?_ ?_ | refine Tot.mkx ?_ ?_); focus (first | omega | (simp; done) | (simp; omega))))
      refine Tot.bindE zeu (Tot.pure ?_)
      rfl
end Go.Proofs.Ytpohfkgjghiofaa

namespace Go.Proofs.Ytpohfkgjghiofaa
open Go.ChangeShapes Go.WideShapes Go.ChangeAt Go.RowKit
theorem zc9 {H : Type} {enc : TypeId × Value → H} {P : Program} (hl : laidOutB P = true) {W W' : World} (hb : Below W.heap.size W W') :
    ∀ (ts : List TypeId) (vs : List Value) (ds : List (DataW H)) (ps : List MemPlace), (∀ t ∈ ts, P.readableRec t = true ∧ t < P.types.size) → (∀ x ∈ ps, x.block < W.heap.size) →
      DataW.TrodAll enc P W 0 (fun _ => true) true ts vs ds ps → DataW.TrodAll enc P W' 0 (fun b => decide (b < W.heap.size)) true ts vs ds ps
  | [], vs, ds, ps, _, _, h => by
    obtain ⟨rfl, rfl, rfl⟩ := trodAll_nil h
    exact trodAll_mk0
  | t :: ts, vs, ds, ps, hr, hlt, h => by
    obtain ⟨v, vs', d, ds', p, q, rfl, rfl, rfl, h0, h1⟩ := trodAll_cons h
    have ht := hr t (by simp)
    exact trodAll_cons_mk (Below.trod hl ht.1 ht.2 h0 hb fun x hx => hlt x (by simp [hx]))
      (zc9 hl hb ts vs' ds' q (fun t ht => hr t (by simp [ht])) (fun x hx => hlt x (by simp [hx])) h1)
theorem law_post {H : Type} {enc : TypeId × Value → H} {P : Program} {f : Func} {s : ChangeSpec} {tB : TypeId} (hl : laidOutB P = true) (hr : (f.params.toList.all fun t => P.readableRec t && decide (t < P.types.size)) = true)
    (hvars : s.vars = []) (hbool : f.resultTypes = #[tB]) (hB : P.underlying tB = some .bool) {W W' : World} {args : Array Value} {ds gs : List (DataW H)} {before : List MemPlace}
    (hW : DataW.Whole enc P f.params.toList s.vars false W args.toList ds gs before) (hfn : s.fn H ds = { results := [.lit (.bool true)], args := ds }) (hb : Below W.heap.size W W') :
    s.post enc P f false true false false W args (.bool true) W' := by
  have hW' := hW
  obtain ⟨p, q, hA, hV, hbef, _, _⟩ := hW
  rw [hvars] at hV
  obtain ⟨rfl, rfl⟩ := trodVars_none hV
  rw [List.append_nil] at hbef
  subst hbef
  have hlt : ∀ x ∈ before, x.block < W.heap.size := fun x hx => by simpa using hW'.lt x hx
  have hr' : ∀ t ∈ f.params.toList, P.readableRec t = true ∧ t < P.types.size := by
    intro t ht
    have := List.all_eq_true.1 hr t ht
    simpa using this
  refine ⟨ds, [], before, [], before, [], hW', ?_, ?_, ?_, hb.frame _, fun h => by cases h⟩
  · rw [List.append_nil, hfn, hbool]
    exact trodAll_mk1 (shut_bool hB true)
  · rw [List.append_nil, hfn]
    exact zc9 hl hb _ _ _ _ hr' hlt hA
  · rw [List.append_nil, hfn, hvars]
    rfl
end Go.Proofs.Ytpohfkgjghiofaa

namespace Go.Proofs.Ytpohfkgjghiofaa
open Go Go.RowKit Go.ChangeShapes Go.WideShapes L
set_option linter.unusedVariables false
set_option linter.unusedSimpArgs false
abbrev F0 : ZM := ⟨fun _ => False, 0⟩
def OkI (k : IntKind) (z : Int) : Prop := (Lit.int k z).wf = true
theorem OkI.u8 {z : Int} (h : OkI .u8 z) : 0 ≤ z ∧ z < 256 := by
  have : 0 ≤ z ∧ z ≤ 255 := by simpa [OkI, Lit.wf, IntKind.min, IntKind.max, IntKind.signed, IntKind.bits] using h
  omega
section
variable {w : World} {Z : ZM} {H : PHeap} {V : Nat → Value}
theorem rl_nil : RpL Z H V w [] [] := ⟨rfl, fun i p v h => by simp at h⟩
theorem rl_cons {p : PV} {v : Value} {ps : List PV} {vs : List Value} (h : Rp Z H V w p v) (hs : RpL Z H V w ps vs) : RpL Z H V w (p :: ps) (v :: vs) := ⟨by simp [hs.1], fun i a b h1 h2 => by
  cases i with
  | zero => simp at h1 h2; subst h1; subst h2; exact h
  | succ i => exact hs.2 i a b (by simpa using h1) (by simpa using h2)⟩
theorem rl_app {ps qs : List PV} {vs us : List Value} (h : RpL Z H V w ps vs) (hs : RpL Z H V w qs us) : RpL Z H V w (ps ++ qs) (vs ++ us) := by
  refine ⟨by simp [h.1, hs.1], fun i a b h1 h2 => ?_⟩
  by_cases hi : i < ps.length
  · rw [List.getElem?_append_left hi] at h1
    rw [List.getElem?_append_left (h.1 ▸ hi)] at h2
    exact h.2 i a b h1 h2
  · rw [List.getElem?_append_right (by omega)] at h1
    rw [List.getElem?_append_right (by rw [← h.1]; omega), ← h.1] at h2
    exact hs.2 _ a b h1 h2
theorem zma {ps qs : List PV} {cs : List Value} (n : Nat) (h : RpL Z H V w ps (cs.take n)) (hs : RpL Z H V w qs (cs.drop n)) : RpL Z H V w (ps ++ qs) cs := by
  have := rl_app h hs
  rwa [List.take_append_drop] at this
theorem rl_all {ps : List PV} {cs : List Value} {n : Nat} (hn : cs.length ≤ n) (h : RpL Z H V w ps (cs.take n)) : RpL Z H V w ps cs := by rwa [List.take_of_length_le hn] at h
theorem zpo {ps : List PV} {cs : List Value} {m n k : Nat} (e : m + n = k) (h : RpL Z H V w ps (cs.drop k)) : RpL Z H V w ps ((cs.drop m).drop n) := by rw [List.drop_drop, e]; exact h
theorem rl_one {p : PV} {v : Value} (h : RpL Z H V w [p] [v]) : Rp Z H V w p v := h.2 0 p v rfl rfl
theorem rl_agg {ps : List PV} {cs : Array Value} (h : RpL Z H V w ps (Value.agg cs).cells.toList) : Rp Z H V w (.agg ps) (.agg cs) :=
  .agg _ _ (by simpa [Value.cells] using h.1) fun i p u h1 h2 => h.2 i p u h1 (by simpa [Value.cells] using h2)
end
section
variable {H : Type} {enc : TypeId × Value → H} {P : Program} {w : World} {base : Nat} {spare : Nat → Bool} {held : Bool}
def zap (enc : TypeId × Value → H) (P : Program) (w : World) (base : Nat) (spare : Nat → Bool) (held : Bool) (t : TypeId) {α : Type} (rep : α → PV) (C : α → Prop) : Prop :=
  ∀ (fuel : Nat) (cs : List Value) (x : DataW H × List MemPlace), DataW.trod enc P w base spare held fuel t cs = some x → ∃ a, RpL F0 PHeap.empty V0 w (rep a).cells cs ∧ C a
theorem zi0 {t : TypeId} {k : IntKind} (ht : P.underlying t = some (.int k)) : zap enc P w base spare held t (fun z => .u (.int k z)) (OkI k) := fun fuel cs x h => by
  obtain ⟨n, rfl, _, hw⟩ := DataW.trod_int ht h
  exact ⟨n, rl_cons (.u _) rl_nil, hw⟩
theorem znc {t : TypeId} (ht : P.underlying t = some .string) : zap enc P w base spare held t S (fun s => s.size ≤ maxLen) := fun fuel cs x h => by
  obtain ⟨n, rfl, _, hs⟩ := DataW.trod_string ht h
  exact ⟨n, rl_cons (.u _) rl_nil, hs⟩
theorem zkg {α : Type} [Inhabited α] {t e : TypeId} {k : Nat} {rep : α → PV} {C : α → Prop} (ht : P.underlying t = some (.slice e)) (hk : P.cellsOf e = k) (hpos : 0 < k) (hcell : ∀ a, (rep a).cells.length = k)
    (he : zap enc P w base spare held e rep C) : zap enc P w base spare held t (fun (l : List α) => .sl k (l.map rep)) (fun l => l.length ≤ maxLen ∧ ∀ a ∈ l, C a) := fun fuel cs x h => by
  have helem := he
  suffices hs : ∃ (l : List α) (v : Value), cs = [v] ∧ Rp F0 PHeap.empty V0 w (.sl k (l.map rep)) v ∧ l.length ≤ maxLen ∧ ∀ a ∈ l, C a by
    obtain ⟨l, v, rfl, h1, h2⟩ := hs
    exact ⟨l, rl_cons h1 rl_nil, h2⟩
  rcases Go.Deep.open_slice ht h with ⟨hcs, _⟩ | ⟨a, len, cap, m, n, D, Pl, hcs, hb, hl, hm, hmm, _, hx⟩
  · exact ⟨[], _, hcs, .nil _ _ _, Nat.zero_le _, fun a ha => by cases ha⟩
  · have hlm : len ≤ m := by rw [hmm]; split <;> omega
    by_cases h0 : len = 0
    · subst h0; exact ⟨[], _, hcs, .nil _ _ _, Nat.zero_le _, fun a ha => by cases ha⟩
    have each : ∀ i, i < m → ∃ q : α, (∀ r, r < k → ∃ u p, w.cell? (a.add (i * k + r)) = some u ∧ (rep q).cells[r]? = some p ∧ Rp F0 PHeap.empty V0 w p u) ∧ C q := fun i hi => by
      obtain ⟨cs', h1, h2⟩ := hx i hi
      rw [hk] at h1
      obtain ⟨_, hlen, hcl⟩ := World.cells?_some h1
      obtain ⟨q, hq, hC⟩ := helem n cs' _ h2
      refine ⟨q, fun r hr => ?_, hC⟩
      have e0 := hcl r hr
      rw [Go.Deep.add_add] at e0
      have h3 : r < cs'.length := by omega
      have h4 : r < (rep q).cells.length := by rw [hcell]; exact hr
      rw [List.getElem?_eq_getElem h3] at e0
      exact ⟨_, _, e0, List.getElem?_eq_getElem h4, hq.2 r _ _ (List.getElem?_eq_getElem h4) (List.getElem?_eq_getElem h3)⟩
    obtain ⟨q, hq⟩ := Go.Deep.choose_lt each
    obtain ⟨b, o, spot⟩ := a
    obtain ⟨u0, _, hu0, _, _⟩ := (hq 0 (by omega)).1 0 hpos
    have hspot : spot = none := by simpa [Addr.add] using World.cell?_spot hu0
    subst hspot
    have hbl : b < w.heap.size := by
      unfold World.cell? at hu0
      by_cases hlt : b < w.heap.size
      · exact hlt
      · simp [Addr.add, Array.getElem?_eq_none (by omega : w.heap.size ≤ b)] at hu0
    refine ⟨(List.range len).map q, _, hcs, ?_, by simp; omega, fun z hz => by obtain ⟨i, hi, rfl⟩ := List.mem_map.1 hz; exact (hq i (by have := List.mem_range.1 hi; omega)).2⟩
    have hu : ∀ y ∈ ((List.range len).map q).map rep, y.cells.length = k := fun y hy => by obtain ⟨z, _, rfl⟩ := List.mem_map.1 hy; exact hcell z
    have hlx : (((List.range len).map q).map rep).length = len := by simp
    have hadd : ∀ k, w.cell? ((⟨b, o, none⟩ : Addr).add k) = w.cell? ⟨b, o + k, none⟩ := fun k => by rw [zw]
    have key : ∀ (i : Nat) (p : PV), ((((List.range len).map q).map rep).flatMap PV.cells)[i]? = some p → ∃ v, w.cell? ⟨b, o + i, none⟩ = some v ∧ Rp F0 PHeap.empty V0 w p v := fun i p hp => by
      have hi : i < len * k := by
        have := (List.getElem?_eq_some_iff.1 hp).1
        rw [L.flat_length _ hu, hlx] at this
        exact this
      have hj : i / k < len := by rw [Nat.div_lt_iff_lt_mul hpos]; exact hi
      have hr : i % k < k := Nat.mod_lt _ hpos
      have hy : (((List.range len).map q).map rep)[i / k]? = some (rep (q (i / k))) := by simp [hj]
      have e := zc2 hu (i / k) (i % k) _ hy hr
      have hdm : i / k * k + i % k = i := by rw [Nat.mul_comm]; exact Nat.div_add_mod i k
      rw [hdm, hp] at e
      obtain ⟨u, p', h1, h2, h3⟩ := (hq (i / k) (by omega)).1 (i % k) hr
      rw [← e] at h2
      cases h2
      rw [hadd, hdm] at h1
      exact ⟨u, h1, h3⟩
    have hsl := Rp.sl (Z := F0) (H := PHeap.empty) (V := V0) (w := w) k (((List.range len).map q).map rep) b o cap (fun i => (w.cell? ⟨b, o + i, none⟩).getD undef) hu (by simpa using hl) (fun h => (Qq.1 h).elim) hbl
      (fun i p hp => by obtain ⟨v, hv, _⟩ := key i p hp; rw [hv]; rfl) (fun i p hp => by obtain ⟨v, hv, hr⟩ := key i p hp; simp only [hv, Option.getD_some]; exact hr)
    rwa [hlx] at hsl
theorem zmt {α : Type} [Inhabited α] {t e : TypeId} {n : Nat} {rep : α → PV} {C : α → Prop} (ht : P.underlying t = some (.array n e)) (hk : P.cellsOf e = 1) (hn : P.cellsOf t = n) (hcell : ∀ a, (rep a).cells = [rep a])
    (he : zap enc P w base spare held e rep C) : zap enc P w base spare held t (arV (n := n) rep) (fun a => ∀ x ∈ a.1, C x) := fun fuel cs x h => by
  obtain ⟨zs, m, _, _, hcl, hzl, hz⟩ := DataW.trod_array ht h
  rw [hn] at hcl
  have each : ∀ i, i < n → ∃ q : α, (∃ u, cs[i]? = some u ∧ Rp F0 PHeap.empty V0 w (rep q) u) ∧ C q := fun i hi => by
    have h1 := hz i hi
    rw [hk, Nat.mul_one, List.getElem?_eq_getElem (by omega)] at h1
    obtain ⟨q, hq, hC⟩ := he m _ _ h1
    have hd : (cs.drop i).take 1 = [cs[i]'(by omega)] := by rw [List.drop_eq_getElem_cons (by omega)]; rfl
    rw [hd, hcell] at hq
    exact ⟨q, ⟨_, List.getElem?_eq_getElem (by omega), rl_one hq⟩, hC⟩
  obtain ⟨q, hq⟩ := Go.Deep.choose_lt each
  refine ⟨⟨(List.range n).map q, by simp⟩, ?_, fun x hx => ?_⟩
  · refine ⟨by simp [arV, PV.cells, hcl], fun i p v h1 h2 => ?_⟩
    have hi : i < n := by have := (List.getElem?_eq_some_iff.1 h2).1; omega
    simp [arV, PV.cells, hi] at h1
    obtain ⟨u, h3, h4⟩ := (hq i hi).1
    rw [h3] at h2
    cases h2
    subst h1
    exact h4
  · obtain ⟨i, hi, rfl⟩ := List.mem_map.1 hx
    exact (hq i (List.mem_range.1 hi)).2
end
theorem row_calls {f : FuncId} {qs : List PV} (h : PCall Try.prog f qs (· = B true)) {w : World} {vs : List Value} (hr : RpL F0 PHeap.empty V0 w qs vs) : Calls Try.prog f vs.toArray w fun e w' => e = .returned (.bool true) ∧ Below w.heap.size w w' :=
  (h F0 w vs (fun b hb => False.elim hb) (Nat.zero_le _) hr).mono fun e w' ⟨v, p, he, hp, _, hR, hb⟩ => by
    subst hp
    rw [rpu hR] at he
    exact ⟨he, hb⟩
end Go.Proofs.Ytpohfkgjghiofaa

namespace Go.Proofs.Ytpohfkgjghiofaa
open Go Go.RowKit Go.ChangeShapes Go.WideShapes L
set_option linter.unusedVariables false
set_option linter.unusedSimpArgs false
section
variable {H : Type} {enc : TypeId × Value → H} {w : World} {base : Nat} {spare : Nat → Bool} {held : Bool}
theorem cl_5 : Try.prog.cellsOf 5 = 1 := by kernel_rfl
set_option maxRecDepth 20000 in
theorem op_5 : zap enc Try.prog w base spare held 5 U8 (fun x => OkI .u8 x) := zi0 Try.underlying5
theorem zpj : Try.prog.cellsOf 22 = 256 := by kernel_rfl
set_option maxRecDepth 20000 in
theorem op_22 : zap enc Try.prog w base spare held 22 (arV (n := 256) U8) (fun x => ∀ y1 ∈ x.1, OkI .u8 y1) := zmt Try.underlying22 cl_5 zpj (fun _ => rfl) op_5
theorem cl_3 : Try.prog.cellsOf 3 = 1 := by kernel_rfl
set_option maxRecDepth 20000 in
theorem op_3 : zap enc Try.prog w base spare held 3 I (fun x => OkI .i64 x) := zi0 Try.underlying3
theorem zpl : Try.prog.cellsOf 24 = 1 := by kernel_rfl
set_option maxRecDepth 20000 in
theorem zpm : zap enc Try.prog w base spare held 24 slI (fun x => x.length ≤ maxLen ∧ ∀ y1 ∈ x, OkI .i64 y1) := zkg Try.underlying24 cl_3 (by decide) (fun _ => rfl) op_3
theorem cl_23 : Try.prog.cellsOf 23 = 1 := by kernel_rfl
set_option maxRecDepth 20000 in
theorem op_23 : zap enc Try.prog w base spare held 23 qi (fun x => x.length ≤ maxLen ∧ ∀ y1 ∈ x, y1.length ≤ maxLen ∧ ∀ y2 ∈ y1, OkI .i64 y2) := zkg Try.underlying23 zpl (by decide) (fun _ => rfl) zpm
theorem cl_26 : Try.prog.cellsOf 26 = 259 := by kernel_rfl
instance : Inhabited je := ⟨⟨(arZ 256 0), 0, [], []⟩⟩
structure za1 (x : je) : Prop where
  ji : ∀ y9 ∈ x.ji.1, OkI .u8 y9
  jf : OkI .i64 x.jf
  ja : x.ja.length ≤ maxLen ∧ ∀ y8 ∈ x.ja, y8.length ≤ maxLen ∧ ∀ y2 ∈ y8, OkI .i64 y2
  jk : x.jk.length ≤ maxLen ∧ ∀ y9 ∈ x.jk, OkI .i64 y9
set_option maxRecDepth 20000 in
theorem op_26 : zap enc Try.prog w base spare held 26 jd (za1) := fun fuel cs x h => by
  obtain ⟨xs, n, _, _, hcl, hxl, hf⟩ := DataW.trod_struct Try.underlying26 h
  rw [cl_26] at hcl
  have hx : xs.length = 4 := hxl
  have g0 : DataW.trod enc Try.prog w base spare held n 22 ((cs.drop 0).take (Try.prog.cellsOf 22)) = xs[0]? := hf 0 _ rfl
  rw [zpj, List.getElem?_eq_getElem (by omega)] at g0
  obtain ⟨a0, r0, c0⟩ := op_22 _ _ _ g0
  have g1 : DataW.trod enc Try.prog w base spare held n 3 ((cs.drop 256).take (Try.prog.cellsOf 3)) = xs[1]? := hf 1 _ rfl
  rw [cl_3, List.getElem?_eq_getElem (by omega)] at g1
  obtain ⟨a1, r1, c1⟩ := op_3 _ _ _ g1
  have g2 : DataW.trod enc Try.prog w base spare held n 23 ((cs.drop 257).take (Try.prog.cellsOf 23)) = xs[2]? := hf 2 _ rfl
  rw [cl_23, List.getElem?_eq_getElem (by omega)] at g2
  obtain ⟨a2, r2, c2⟩ := op_23 _ _ _ g2
  have g3 : DataW.trod enc Try.prog w base spare held n 24 ((cs.drop 258).take (Try.prog.cellsOf 24)) = xs[3]? := hf 3 _ rfl
  rw [zpl, List.getElem?_eq_getElem (by omega)] at g3
  obtain ⟨a3, r3, c3⟩ := zpm _ _ _ g3
  exact ⟨⟨a0, a1, a2, a3⟩, (zma 256 r0 (zma 1 r1 (zpo (m := 256) (n := 1) (k := 257) rfl (zma 1 r2 (zpo (m := 257) (n := 1) (k := 258) rfl (rl_all (n := 1) (by simp [hcl]) r3)))))), ⟨c0, c1, c2, c3⟩⟩
set_option maxRecDepth 20000 in
theorem op_9 : zap enc Try.prog w base spare held 9 S (fun x => x.size ≤ maxLen) := znc Try.underlying9
end
end Go.Proofs.Ytpohfkgjghiofaa

namespace Go.Proofs.Ytpohfkgjghiofaa
open Go Go.RowKit L
theorem dOk_of {d : je} (h : za1 d) : DOk d := ⟨fun x hx => (h.ji x hx).u8, Nat.le_trans h.ja.1 (by decide), fun r hr => Nat.le_trans (h.ja.2 r hr).1 (by decide)⟩
theorem LiveSame_tot (d : je) (w : ByteArray) (h : za1 d) (hw : w.size ≤ maxLen) : Tot (g_law15_LiveSame d w) (· = true) := zjl d w (dOk_of h) (Nat.le_trans h.ja.1 (by decide)) (Nat.le_trans hw (by decide))
end Go.Proofs.Ytpohfkgjghiofaa
