/-
  Texts of this proof, put together: Lv32, Pb, Pc, Pd, Pe, Pf, Pm, Pg, Ph, Pi, Pj, Pk, Pl, Kn, Pn, Row.
-/
import Derived.ProofKit
import Derived.OpenShut
import Derived.Test.YtpohfkgjghiofaaGreatQ5LiveTells

namespace Go.Proofs.YtpohfkgjghiofaaGreat
open Go Go.RowKit L
set_option maxRecDepth 10000
set_option maxHeartbeats 4000000
set_option linter.unusedVariables false
set_option linter.unusedSimpArgs false
def Yq (a0 : je) : G (List Int) :=
  G.bind (zz a0) fun x5 => G.bind (G.loop (σ := (Int × (List Int))) (α := (List Int)) (fun (x9, x10) => G.cond (decide (x9 < (x5.length : Int))) (G.bind (α := (List Int)) (G.bind (G.lift (idx x5 x9)) fun x25 => G.bind (G.cond x25 (G.lift (idx a0.jl x9)) (G.pure 0)) fun x27 => G.cond (x25 && (decide (0 ≤ x27))) (G.bind (G.lift (idx a0.jl x9)) fun x29 => G.bind (G.lift (app 8 x10 ([x29] : List Int))) fun x30 => G.pure x30) (G.pure x10)) fun x22 => G.pure (.inl ((w64 (x9 + 1)), x22))) (G.pure (.inr x10))) (0, [])) fun x41 => G.bind (G.lift (zaw x41 (zcq x41))) fun x44 => G.bind (G.lift (zaw x44 (zcl x44))) fun x47 => G.pure x47
theorem zft {nn : Nat} {a0 : je} {r : (List Int)} (h0 : Yq a0 nn = some r) : PCall Tryz.prog 18 [jb a0] (· = PV.fr 3 1 (r.map I)) := by
 unfold Yq at h0
 refine PCall.intro' Tryz.func18 rfl Tryz.ntmps18 (by simp) fun W => ?_
 refine A1 0 (e_ (jb a0)) fun F f0 => ?_
 generalize PHeap.empty = H
 refine SR fun K1 hK1 => ?_
 refine Q3 (PV.rp (jb a0).cells) (zi f0 (qn _ _)) ?_
 refine Q1 (PV.u (.slice none 0 0)) (jg rfl) ?_
 have o1002 : ownL 3 1 I H 1002 (PV.u (.slice none 0 0)) [] := ownL.nil _ _
 refine PL.nil (hK1 _ _ ?_)
 refine A1 1 (e_ (PV.rp (jb a0).cells)) fun F f1 => ?_
 refine SR fun K2 hK2 => ?_
 refine Q1 (PV.u (.slice none 0 0)) (jg rfl) ?_
 have o1002 : ownL 3 1 I H 1002 (PV.u (.slice none 0 0)) [] := ownL.nil _ _
 refine PL.nil (hK2 _ _ ?_)
 refine A2 1 f1 3 (e_ (PV.u (.slice none 0 0))) fun F f1 f3 => ?_
 refine PC.seq fun K3 hK3 => ?_
 refine SR fun K4 hK4 => ?_
 refine Q1 (jb a0) (vt vk f1 (j8 _)) ?_
 obtain ⟨x5, hx5, h0⟩ := bs h0
 refine Q3 (slB x5) (j5 (by kernel_rfl) (am (e_ (jb a0)) (am0)) (js (j4 _) (j9)) (V1 hx5)) ?_
 refine Q1 (I (x5.length : Int)) (qh (rep := B) (xs := x5) Jy (e_ (slB x5))) ?_
 refine Q1 _ (ja (e_ (I 0))) ?_
 refine PL.nil (hK4 _ _ ?_)
 refine A5 1 f1 3 f3 7 (e_ (slB x5)) 8 (e_ (I (x5.length : Int))) 9 (e_ (I 0)) fun F f1 f3 f7 f8 f9 => ?_
 refine PC.block ?_
 obtain ⟨o12, ho12, h0⟩ := bs h0
 obtain ⟨B13, hB13, ho12⟩ := G.loop_some ho12
 refine PC.loop (fun m16 F H => ∃ s50 : (Int × (List Int)), ∃ q11, qu B13 m16 s50 = some o12 ∧ F 1 = (PV.rp (jb a0).cells) ∧ F 3 = q11 ∧ F 7 = (slB x5) ∧ F 8 = (I (x5.length : Int)) ∧ F 9 = (I s50.1) ∧ ownL 3 1 I H 1002 q11 s50.2) (m := nn) ⟨(0, []), (PV.u (.slice none 0 0)), ho12, f1, f3, f7, f8, f9, o1002⟩ fun m16 F H hI => ?_
 obtain ⟨⟨x9, x10⟩, q11, ho12, f1, f3, f7, f8, f9, o1002⟩ := hI
 obtain ⟨m16, rfl, st14, hs15, ho12⟩ := jx ho12
 rw [hB13] at hs15
 try dsimp only at hs15
 refine SR fun K17 hK17 => ?_
 refine Q1 (B (decide (x9 < (x5.length : Int)))) (jj rfl f9 f8 jw) ?_
 refine PL.nil (hK17 _ _ ?_)
 refine A6 1 f1 3 f3 7 f7 8 f8 9 f9 10 (e_ (B (decide (x9 < (x5.length : Int))))) fun F f1 f3 f7 f8 f9 f10 => ?_
 refine PC.seq fun K18 hK18 => ?_
 rcases cz hs15 with ⟨hb19, hs15⟩ | ⟨hb19, hs15⟩
 refine PC.condTb f10 hb19 ?_
 refine PC.skip ?_
 refine hK18 _ _ ?_
 refine A5 1 f1 3 f3 7 f7 8 f8 9 f9 fun F f1 f3 f7 f8 f9 => ?_
 obtain ⟨o21, ho21, hs15⟩ := bs hs15
 refine PC.seqM (fun F H => ∃ s33 : (List Int), ∃ q23, o21 = s33 ∧ F 1 = (PV.rp (jb a0).cells) ∧ F 3 = q23 ∧ F 7 = (slB x5) ∧ F 8 = (I (x5.length : Int)) ∧ F 9 = (I x9) ∧ ownL 3 1 I H 1002 q23 s33) ?_ ?_
 refine PC.block ?_
 refine SR fun K24 hK24 => ?_
 refine Q1 _ (ja f9) ?_
 obtain ⟨x25, hx25, ho21⟩ := bs ho21
 refine Q1 (PV.rp (B x25).cells) (jz (rep := B) (xs := x5) Ji f7 f9 hx25) ?_
 refine Q1 (B x25) (qk Qy (e_ (PV.rp (B x25).cells))) ?_
 refine Q1 _ (jg (e_ (I x9))) ?_
 refine Q1 _ (jg (e_ (B x25))) ?_
 refine PL.nil (hK24 _ _ ?_)
 refine A7 1 f1 3 f3 4 (e_ (I x9)) 5 (e_ (B x25)) 7 f7 8 f8 9 f9 fun F f1 f3 f4 f5 f7 f8 f9 => ?_
 refine SR fun K26 hK26 => ?_
 refine Q1 _ (ja f5) ?_
 refine Q1 _ (ja (e_ (B x25))) ?_
 refine GT (PV.rp ((jb a0).cells.drop 258)) rfl (e_ (B x25)) (fun hb => j1 yv qe (by decide) f1) ?_
 refine GT (slI a0.jl) rfl (e_ (B x25)) (fun hb => jy qe (gvp hb (e_ (gv x25 (PV.rp ((jb a0).cells.drop 258))))) (v7 a0)) ?_
 refine GT (I x9) rfl (e_ (B x25)) (fun hb => ja f4) ?_
 obtain ⟨x27, hx27, ho21⟩ := bs ho21
 refine GT (PV.rp (I x27).cells) rfl (e_ (B x25)) (fun hb => jz (rep := I) (xs := a0.jl) qy (gvp hb (e_ (gv x25 (slI a0.jl)))) (gvp hb (e_ (gv x25 (I x9)))) (G.cond_pos hx27 hb)) ?_
 refine GT (I x27) rfl (e_ (B x25)) (fun hb => qk qo (gvp hb (e_ (gv x25 (PV.rp (I x27).cells))))) ?_
 refine GT (B (decide (0 ≤ x27))) rfl (e_ (B x25)) (fun hb => jj rfl (gvp hb (e_ (gv x25 (I x27)))) (e_ (I 0)) vx) ?_
 refine Q1 (B (x25 && (decide (0 ≤ x27)))) (vz (e_ (B x25)) (e_ (gv x25 (B (decide (0 ≤ x27))))) rfl) ?_
 refine PL.nil (hK26 _ _ ?_)
 refine A7 1 f1 3 f3 4 f4 7 f7 8 f8 9 f9 22 (e_ (B (x25 && (decide (0 ≤ x27))))) fun F f1 f3 f4 f7 f8 f9 f22 => ?_
 rcases cz ho21 with ⟨hb28, ho21⟩ | ⟨hb28, ho21⟩
 refine PC.condTb f22 hb28 ?_
 refine PC.region ?_
 refine Q1 _ (ja f3) ?_
 refine Q1 (PV.rp ((jb a0).cells.drop 258)) (j1 yv qe (by decide) f1) ?_
 refine Q1 (slI a0.jl) (jy qe (e_ (PV.rp ((jb a0).cells.drop 258))) (v7 a0)) ?_
 refine Q1 _ (ja f4) ?_
 obtain ⟨x29, hx29, ho21⟩ := bs ho21
 refine Q1 (PV.rp (I x29).cells) (jz (rep := I) (xs := a0.jl) qy (e_ (slI a0.jl)) (e_ (I x9)) hx29) ?_
 refine Q1 (I x29) (qk qo (e_ (PV.rp (I x29).cells))) ?_
 refine Q3 (slI ([x29] : List Int)) (y0 (rep := I) (xs := [x29]) qj rfl (by decide) (bm (e_ (I x29)) (bm0)) rfl rfl) ?_
 obtain ⟨x30, hx30, ho21⟩ := bs ho21
 refine PL.appG (rep := I) (ys := ([x29] : List Int)) rfl rfl rfl (by decide) qj (e_ q11) o1002 (e_ (slI ([x29] : List Int))) (fun _ => rfl) (lf1 (fun _ => rfl) (fun _ => rfl)) hx30 fun q31 H o1002 fz32 => ?_
 refine Q1 _ (jg (e_ q31)) ?_
 refine PL.nil ?_
 have ho21 := pz ho21
 subst ho21
 exact ⟨x30, q31, rfl, f1, (e_ q31), f7, f8, f9, o1002⟩
 refine PC.condFb f22 hb28 ?_
 refine PC.skip ?_
 have ho21 := pz ho21
 subst ho21
 exact ⟨x10, q11, rfl, f1, f3, f7, f8, f9, o1002⟩
 intro F H hI
 obtain ⟨x22, q23, ho, f1, f3, f7, f8, f9, o1002⟩ := hI
 have ho := ho.symm
 subst ho
 try dsimp only at hs15
 refine PC.region ?_
 refine Q1 _ (jj rfl f9 (e_ (I 1)) j7) ?_
 refine Q1 _ (ja (e_ (I (w64 (x9 + 1))))) ?_
 refine PL.nil ?_
 have hs15 := pz hs15
 subst hs15
 exact ⟨m16, Nat.lt_succ_self _, ((w64 (x9 + 1)), x22), q23, ho12, f1, f3, f7, f8, (e_ (I (w64 (x9 + 1)))), o1002⟩
 refine PC.condFb f10 hb19 ?_
 refine PC.exit ?_
 have hs15 := pz hs15
 subst hs15
 try dsimp only at ho12
 subst ho12
 try dsimp only at h0
 refine hK3 _ _ ?_
 refine A1 3 f3 fun F f3 => ?_
 refine SR fun K34 hK34 => ?_
 refine Q1 _ (ja f3) ?_
 obtain ⟨x35, hx35, h0⟩ := bs h0
 refine PL.sortI 1002 rfl rfl (by simp [zf]) (e_ q11) o1002 hx35 fun H o1002 fz36 => ?_
 refine PL.nil (hK34 _ _ ?_)
 refine A1 3 f3 fun F f3 => ?_
 refine SR fun K37 hK37 => ?_
 refine Q1 _ (ja f3) ?_
 obtain ⟨x38, hx38, h0⟩ := bs h0
 refine PL.compI 1002 rfl rfl rfl (by decide) (e_ q11) o1002 hx38 fun q39 H o1002 fz40 => ?_
 refine Q1 _ (jg (e_ q39)) ?_
 refine PL.nil (hK37 _ _ ?_)
 refine A1 2 (e_ q39) fun F f2 => ?_
 refine PC.ret ?_
 have h0 := pz h0
 subst h0
 exact yw (.inr rfl) (qc Tryz.results18 f2) o1002 (fun _ => rfl)
theorem zf6 {nn : Nat} {a0 : je} {r : (List Int)} (h0 : Yq a0 nn = some r) : PCall Tryz.prog 18 [jb a0] (· = slI r) := (zft h0).forget
def J6  : G Bool :=
  G.bind (za2 ([(⟨#[91, 98, 45, 100, 93, 43, 99]⟩ : ByteArray)] : List ByteArray)) fun x3 => G.bind (Zq x3 0) fun x4 => G.bind (za2 ([(⟨#[97]⟩ : ByteArray), (⟨#[97, 91, 94, 92, 120, 48, 48, 45, 92, 120, 102, 102, 93]⟩ : ByteArray)] : List ByteArray)) fun x6 => G.bind (Vd x6) fun x7 => G.bind (G.cond ((x4.2 && (x4.1.toList == (⟨#[98, 99]⟩ : ByteArray).toList)) && (decide ((x7.jd.length : Int) = 2))) (Yq (⟨x7.ji, x7.jf, x7.jd, x7.jl⟩ : je)) (G.pure [])) fun x12 => G.bind (G.cond ((x4.2 && (x4.1.toList == (⟨#[98, 99]⟩ : ByteArray).toList)) && (decide ((x7.jd.length : Int) = 2))) (zq x12 ([0] : List Int)) (G.pure false)) fun x13 => G.pure (((x4.2 && (x4.1.toList == (⟨#[98, 99]⟩ : ByteArray).toList)) && (decide ((x7.jd.length : Int) = 2))) && x13)
theorem zbl {nn : Nat}  {r : Bool} (h0 : J6 nn = some r) : PCall Tryz.prog 6 [] (· = B r) := by
 unfold J6 at h0
 refine PCall.intro' Tryz.func6 rfl Tryz.ntmps6 (by simp) fun W => ?_
 refine PC.absF (fun F => True) trivial ?_
 intro F hI
 clear hI
 generalize PHeap.empty = H
 refine SR fun K1 hK1 => ?_
 refine Q1 _ (jg (e_ (B false))) ?_
 refine PL.nil (hK1 _ _ ?_)
 refine PC.absF (fun F => True) trivial ?_
 intro F hI
 clear hI
 refine SR fun K2 hK2 => ?_
 refine Q3 (zhs ([(⟨#[91, 98, 45, 100, 93, 43, 99]⟩ : ByteArray)] : List ByteArray)) (y0 (rep := S) (xs := [(⟨#[91, 98, 45, 100, 93, 43, 99]⟩ : ByteArray)]) zj7 rfl (by decide) (bm (e_ (S (⟨#[91, 98, 45, 100, 93, 43, 99]⟩ : ByteArray))) (bm0)) rfl rfl) ?_
 obtain ⟨x3, hx3, h0⟩ := bs h0
 refine Q3 (jb x3) (j5 (by kernel_rfl) (am (e_ (zhs ([(⟨#[91, 98, 45, 100, 93, 43, 99]⟩ : ByteArray)] : List ByteArray))) (am0)) (js (zkj _) (j9)) (zee hx3)) ?_
 obtain ⟨x4, hx4, h0⟩ := bs h0
 refine Q3 (PV.tup [(S x4.1), (B x4.2)]) (j5 (by kernel_rfl) (am (e_ (jb x3)) (am (e_ (I 0)) (am0))) (js (j4 _) (js (.u _) (j9))) (ze6 hx4)) ?_
 refine Q1 _ (ja (e_ (PV.tup [(S x4.1), (B x4.2)]))) ?_
 refine Q1 _ (vw (e_ (PV.tup [(S x4.1), (B x4.2)])) rfl) ?_
 refine Q1 _ (vw (e_ (PV.tup [(S x4.1), (B x4.2)])) rfl) ?_
 refine Q1 _ (jg (e_ (S x4.1))) ?_
 refine Q1 _ (jg (e_ (B x4.2))) ?_
 refine PL.nil (hK2 _ _ ?_)
 refine A2 1 (e_ (S x4.1)) 2 (e_ (B x4.2)) fun F f1 f2 => ?_
 refine SR fun K5 hK5 => ?_
 refine Q3 (zhs ([(⟨#[97]⟩ : ByteArray), (⟨#[97, 91, 94, 92, 120, 48, 48, 45, 92, 120, 102, 102, 93]⟩ : ByteArray)] : List ByteArray)) (y0 (rep := S) (xs := [(⟨#[97]⟩ : ByteArray), (⟨#[97, 91, 94, 92, 120, 48, 48, 45, 92, 120, 102, 102, 93]⟩ : ByteArray)]) zj7 rfl (by decide) (bm (e_ (S (⟨#[97]⟩ : ByteArray))) (bm (e_ (S (⟨#[97, 91, 94, 92, 120, 48, 48, 45, 92, 120, 102, 102, 93]⟩ : ByteArray))) (bm0))) rfl rfl) ?_
 obtain ⟨x6, hx6, h0⟩ := bs h0
 refine Q3 (jb x6) (j5 (by kernel_rfl) (am (e_ (zhs ([(⟨#[97]⟩ : ByteArray), (⟨#[97, 91, 94, 92, 120, 48, 48, 45, 92, 120, 102, 102, 93]⟩ : ByteArray)] : List ByteArray))) (am0)) (js (zkj _) (j9)) (zee hx6)) ?_
 obtain ⟨x7, hx7, h0⟩ := bs h0
 refine Q3 (jb x7) (j5 (by kernel_rfl) (am (e_ (jb x6)) (am0)) (js (j4 _) (j9)) (zc7 hx7)) ?_
 refine PL.allocA 203 (cs := (((arV (n := 256) U8) (arZ 256 0)).cells ++ [(I 0), (PV.u (.slice none 0 0)), (PV.u (.slice none 0 0))])) rfl rfl rfl (by decide) Vr (by kernel_rfl) (by kernel_rfl) fun v203 H b203 fz8 => ?_
 refine PL.recell (cs' := (((arV (n := 256) U8) (arZ 256 0)).cells ++ [(I 0), (qd []), (slI [])])) b203 (WeakL.app (WeakL.refl _) (WeakL.cons (Weak.refl _) (WeakL.cons (Weak.nil _) (WeakL.cons (Weak.nil _) (WeakL.nil))))) fun H b203 fz9 => ?_
 refine PL.storeA (ag := true) (cs' := (((arV (n := 256) U8) x7.ji).cells ++ [(I x7.jf), (qd x7.jd), (slI x7.jl)])) (ps := (((arV (n := 256) U8) x7.ji).cells ++ [(I x7.jf), (qd x7.jd), (slI x7.jl)])) rfl rfl (fun _ h => by cases h) (e_ (PV.pp 203 0 v203)) b203 vk (e_ (jb x7)) (qn _ _) rfl (j2 (jk _ _ (fun _ => rfl)) rfl) (by rw [(j2 (jk _ _ (fun _ => rfl)) rfl)]; exact Nat.le_of_ble_eq_true rfl) (vu (N := 256 + (3)) (j2 (jk _ _ (fun _ => rfl)) rfl) (j2 (jk _ _ (fun _ => rfl)) rfl)) fun H b203 fz10 => ?_
 refine PL.nil (hK5 _ _ ?_)
 refine A3 1 f1 2 f2 3 (e_ (PV.pp 203 0 v203)) fun F f1 f2 f3 => ?_
 refine SR fun K11 hK11 => ?_
 refine Q1 _ (ja f2) ?_
 refine Q1 _ (ja (e_ (B x4.2))) ?_
 refine GT (S x4.1) rfl (e_ (B x4.2)) (fun hb => ja f1) ?_
 refine GT (B (x4.1.toList == (⟨#[98, 99]⟩ : ByteArray).toList)) rfl (e_ (B x4.2)) (fun hb => jj rfl (gvp hb (e_ (gv x4.2 (S x4.1)))) (e_ (S (⟨#[98, 99]⟩ : ByteArray))) (zin _ _)) ?_
 refine Q1 (B (x4.2 && (x4.1.toList == (⟨#[98, 99]⟩ : ByteArray).toList))) (vz (e_ (B x4.2)) (e_ (gv x4.2 (B (x4.1.toList == (⟨#[98, 99]⟩ : ByteArray).toList)))) rfl) ?_
 refine Q1 _ (ja (e_ (B (x4.2 && (x4.1.toList == (⟨#[98, 99]⟩ : ByteArray).toList))))) ?_
 refine GT (PV.pp 203 257 v203) rfl (e_ (B (x4.2 && (x4.1.toList == (⟨#[98, 99]⟩ : ByteArray).toList)))) (fun hb => yn qt qa (by decide) f3 b203) ?_
 refine GT (qd x7.jd) rfl (e_ (B (x4.2 && (x4.1.toList == (⟨#[98, 99]⟩ : ByteArray).toList)))) (fun hb => vr qa (gvp hb (e_ (gv (x4.2 && (x4.1.toList == (⟨#[98, 99]⟩ : ByteArray).toList)) (PV.pp 203 257 v203)))) b203 (zfr (m := 256) (i := 1) (jk _ _ (fun _ => rfl)) rfl)) ?_
 refine GT (I (x7.jd.length : Int)) rfl (e_ (B (x4.2 && (x4.1.toList == (⟨#[98, 99]⟩ : ByteArray).toList)))) (fun hb => qh (rep := slI) (xs := x7.jd) qx (gvp hb (e_ (gv (x4.2 && (x4.1.toList == (⟨#[98, 99]⟩ : ByteArray).toList)) (qd x7.jd))))) ?_
 refine GT (B (decide ((x7.jd.length : Int) = 2))) rfl (e_ (B (x4.2 && (x4.1.toList == (⟨#[98, 99]⟩ : ByteArray).toList)))) (fun hb => jj rfl (gvp hb (e_ (gv (x4.2 && (x4.1.toList == (⟨#[98, 99]⟩ : ByteArray).toList)) (I (x7.jd.length : Int))))) (e_ (I 2)) qf) ?_
 refine Q1 (B ((x4.2 && (x4.1.toList == (⟨#[98, 99]⟩ : ByteArray).toList)) && (decide ((x7.jd.length : Int) = 2)))) (vz (e_ (B (x4.2 && (x4.1.toList == (⟨#[98, 99]⟩ : ByteArray).toList)))) (e_ (gv (x4.2 && (x4.1.toList == (⟨#[98, 99]⟩ : ByteArray).toList)) (B (decide ((x7.jd.length : Int) = 2))))) rfl) ?_
 refine Q1 _ (ja (e_ (B ((x4.2 && (x4.1.toList == (⟨#[98, 99]⟩ : ByteArray).toList)) && (decide ((x7.jd.length : Int) = 2)))))) ?_
 refine GT (jb (⟨x7.ji, x7.jf, x7.jd, x7.jl⟩ : je)) rfl (e_ (B ((x4.2 && (x4.1.toList == (⟨#[98, 99]⟩ : ByteArray).toList)) && (decide ((x7.jd.length : Int) = 2))))) (fun hb => vr vk f3 b203 (ym (j8 (⟨x7.ji, x7.jf, x7.jd, x7.jl⟩ : je)))) ?_
 obtain ⟨x12, hx12, h0⟩ := bs h0
 refine GTq (slI x12) rfl (e_ (B ((x4.2 && (x4.1.toList == (⟨#[98, 99]⟩ : ByteArray).toList)) && (decide ((x7.jd.length : Int) = 2))))) (fun hb => j5 (by kernel_rfl) (am (gvp hb (e_ (gv ((x4.2 && (x4.1.toList == (⟨#[98, 99]⟩ : ByteArray).toList)) && (decide ((x7.jd.length : Int) = 2))) (jb (⟨x7.ji, x7.jf, x7.jd, x7.jl⟩ : je))))) (am0)) (js (j4 _) (j9)) (zf6 (G.cond_pos hx12 hb))) ?_
 refine GTq (slI ([0] : List Int)) rfl (e_ (B ((x4.2 && (x4.1.toList == (⟨#[98, 99]⟩ : ByteArray).toList)) && (decide ((x7.jd.length : Int) = 2))))) (fun hb => y0 (rep := I) (xs := [0]) qj rfl (by decide) (bm (e_ (I 0)) (bm0)) rfl rfl) ?_
 obtain ⟨x13, hx13, h0⟩ := bs h0
 refine GTq (B x13) rfl (e_ (B ((x4.2 && (x4.1.toList == (⟨#[98, 99]⟩ : ByteArray).toList)) && (decide ((x7.jd.length : Int) = 2))))) (fun hb => j5 (by kernel_rfl) (am (gvp hb (e_ (gv ((x4.2 && (x4.1.toList == (⟨#[98, 99]⟩ : ByteArray).toList)) && (decide ((x7.jd.length : Int) = 2))) (slI x12)))) (am (gvp hb (e_ (gv ((x4.2 && (x4.1.toList == (⟨#[98, 99]⟩ : ByteArray).toList)) && (decide ((x7.jd.length : Int) = 2))) (slI ([0] : List Int))))) (am0))) (js (v6 _) (js (v6 _) (j9))) (Vk (G.cond_pos hx13 hb))) ?_
 refine Q1 (B (((x4.2 && (x4.1.toList == (⟨#[98, 99]⟩ : ByteArray).toList)) && (decide ((x7.jd.length : Int) = 2))) && x13)) (vz (e_ (B ((x4.2 && (x4.1.toList == (⟨#[98, 99]⟩ : ByteArray).toList)) && (decide ((x7.jd.length : Int) = 2))))) (e_ (gv ((x4.2 && (x4.1.toList == (⟨#[98, 99]⟩ : ByteArray).toList)) && (decide ((x7.jd.length : Int) = 2))) (B x13))) rfl) ?_
 refine Q1 _ (jg (e_ (B (((x4.2 && (x4.1.toList == (⟨#[98, 99]⟩ : ByteArray).toList)) && (decide ((x7.jd.length : Int) = 2))) && x13)))) ?_
 refine PL.nil (hK11 _ _ ?_)
 refine A1 0 (e_ (B (((x4.2 && (x4.1.toList == (⟨#[98, 99]⟩ : ByteArray).toList)) && (decide ((x7.jd.length : Int) = 2))) && x13))) fun F f0 => ?_
 refine PC.ret ?_
 have h0 := pz h0
 subst h0
 exact fin (.inr rfl) (qc Tryz.results6 f0) (.u _)
def Qv (a0 : (Arr 256 Int)) : G Bool :=
  G.bind (G.loop (σ := (Int × Int)) (α := Unit ⊕ Bool) (fun (x7, x8) => G.cond (decide (x8 < 256)) (G.bind (α := Int ⊕ Bool) (G.bind (G.lift (idx a0.1 x8)) fun x22 => G.cond (decide (x7 < (w64 x22))) (G.pure (.inr false)) (G.bind (G.lift (idx a0.1 x8)) fun x26 => G.cond (decide ((w64 x26) = x7)) (G.pure (.inl (w64 (x7 + 1)))) (G.pure (.inl x7)))) fun o => match o with | .inl x19 => G.pure (.inl (x19, (w64 (x8 + 1)))) | .inr r28 => G.pure (.inr (.inr r28))) (G.pure (.inr (.inl ())))) (0, 0)) fun o => match o with | .inl () => G.pure true | .inr r32 => G.pure r32
theorem zf7 {nn : Nat} {a0 : (Arr 256 Int)} {r : Bool} (h0 : Qv a0 nn = some r) : PCall Tryz.prog 38 [(arV (n := 256) U8) a0] (· = B r) := by
 unfold Qv at h0
 refine PCall.intro' Tryz.func38 rfl Tryz.ntmps38 (by simp) fun W => ?_
 refine A1 0 (e_ ((arV (n := 256) U8) a0)) fun F f0 => ?_
 generalize PHeap.empty = H
 refine SR fun K1 hK1 => ?_
 refine Q3 (PV.rp ((arV (n := 256) U8) a0).cells) (zi f0 (yb _ _ _ (fun _ => rfl))) ?_
 refine Q1 _ (jg (e_ (B false))) ?_
 refine PL.nil (hK1 _ _ ?_)
 refine A1 1 (e_ (PV.rp ((arV (n := 256) U8) a0).cells)) fun F f1 => ?_
 refine SR fun K2 hK2 => ?_
 refine Q1 _ (jg (e_ (I 0))) ?_
 refine PL.nil (hK2 _ _ ?_)
 refine A2 1 f1 3 (e_ (I 0)) fun F f1 f3 => ?_
 refine PC.seq fun K3 hK3 => ?_
 refine SR fun K4 hK4 => ?_
 refine Q1 _ (jg (e_ (I 0))) ?_
 refine PL.nil (hK4 _ _ ?_)
 refine A3 1 f1 3 f3 4 (e_ (I 0)) fun F f1 f3 f4 => ?_
 refine PC.block ?_
 obtain ⟨o9, ho9, h0⟩ := bs h0
 obtain ⟨B10, hB10, ho9⟩ := G.loop_some ho9
 refine PC.loop (fun m13 F H => ∃ s33 : (Int × Int), qu B10 m13 s33 = some o9 ∧ F 1 = (PV.rp ((arV (n := 256) U8) a0).cells) ∧ F 3 = (I s33.1) ∧ F 4 = (I s33.2)) (m := nn) ⟨(0, 0), ho9, f1, f3, f4⟩ fun m13 F H hI => ?_
 obtain ⟨⟨x7, x8⟩, ho9, f1, f3, f4⟩ := hI
 obtain ⟨m13, rfl, st11, hs12, ho9⟩ := jx ho9
 rw [hB10] at hs12
 try dsimp only at hs12
 refine PC.seq fun K14 hK14 => ?_
 refine SR fun K15 hK15 => ?_
 refine Q1 _ (ja f4) ?_
 refine Q1 _ (jj rfl (e_ (I x8)) (e_ (I 256)) jw) ?_
 refine PL.nil (hK15 _ _ ?_)
 refine A4 1 f1 3 f3 4 f4 6 (e_ (B (decide (x8 < 256)))) fun F f1 f3 f4 f6 => ?_
 rcases cz hs12 with ⟨hb16, hs12⟩ | ⟨hb16, hs12⟩
 refine PC.condTb f6 hb16 ?_
 refine PC.skip ?_
 refine hK14 _ _ ?_
 refine A3 1 f1 3 f3 4 f4 fun F f1 f3 f4 => ?_
 obtain ⟨o18, ho18, hs12⟩ := bs hs12
 refine PC.seqM (fun F H => ∃ s29 : Int, o18 = .inl s29 ∧ F 1 = (PV.rp ((arV (n := 256) U8) a0).cells) ∧ F 3 = (I s29) ∧ F 4 = (I x8)) ?_ ?_
 refine PC.block ?_
 refine PC.seq fun K20 hK20 => ?_
 refine SR fun K21 hK21 => ?_
 refine Q1 _ (ja f4) ?_
 obtain ⟨x22, hx22, ho18⟩ := bs ho18
 refine Q1 (PV.rp (((arV (n := 256) U8) a0).cells.drop ((x8 : Int).toNat * 1))) (zcv (rep := U8) (a := a0) Zm f1 (e_ (I x8)) hx22) ?_
 refine Q1 (U8 x22) (jy zaq (e_ (PV.rp (((arV (n := 256) U8) a0).cells.drop ((x8 : Int).toNat * 1)))) (zby hx22)) ?_
 refine Q1 (I (w64 x22)) (Jo (by kernel_rfl) (by kernel_rfl) (e_ (U8 x22))) ?_
 refine Q1 _ (ja f3) ?_
 refine Q1 _ (jj rfl (e_ (I (w64 x22))) (e_ (I x7)) Qu) ?_
 refine PL.nil (hK21 _ _ ?_)
 refine A4 1 f1 3 f3 4 f4 14 (e_ (B (decide (x7 < (w64 x22))))) fun F f1 f3 f4 f14 => ?_
 rcases cz ho18 with ⟨hb23, ho18⟩ | ⟨hb23, ho18⟩
 refine PC.condTb f14 hb23 ?_
 refine SR fun K24 hK24 => ?_
 refine Q1 _ (jg (e_ (B false))) ?_
 refine PL.nil (hK24 _ _ ?_)
 refine A1 2 (e_ (B false)) fun F f2 => ?_
 have ho18 := pz ho18
 subst ho18
 try dsimp only at hs12
 have hs12 := pz hs12
 subst hs12
 try dsimp only at ho9
 subst ho9
 try dsimp only at h0
 refine PC.ret ?_
 have h0 := pz h0
 subst h0
 exact fin (.inr rfl) (qc Tryz.results38 f2) (.u _)
 refine PC.condFb f14 hb23 ?_
 refine PC.skip ?_
 refine hK20 _ _ ?_
 refine A3 1 f1 3 f3 4 f4 fun F f1 f3 f4 => ?_
 refine SR fun K25 hK25 => ?_
 refine Q1 _ (ja f4) ?_
 obtain ⟨x26, hx26, ho18⟩ := bs ho18
 refine Q1 (PV.rp (((arV (n := 256) U8) a0).cells.drop ((x8 : Int).toNat * 1))) (zcv (rep := U8) (a := a0) Zm f1 (e_ (I x8)) hx26) ?_
 refine Q1 (U8 x26) (jy zaq (e_ (PV.rp (((arV (n := 256) U8) a0).cells.drop ((x8 : Int).toNat * 1)))) (zby hx26)) ?_
 refine Q1 (I (w64 x26)) (Jo (by kernel_rfl) (by kernel_rfl) (e_ (U8 x26))) ?_
 refine Q1 _ (ja f3) ?_
 refine Q1 _ (jj rfl (e_ (I (w64 x26))) (e_ (I x7)) qf) ?_
 refine PL.nil (hK25 _ _ ?_)
 refine A4 1 f1 3 f3 4 f4 20 (e_ (B (decide ((w64 x26) = x7)))) fun F f1 f3 f4 f20 => ?_
 rcases cz ho18 with ⟨hb27, ho18⟩ | ⟨hb27, ho18⟩
 refine PC.condTb f20 hb27 ?_
 refine PC.region ?_
 refine Q1 _ (ja f3) ?_
 refine Q1 _ (jj rfl (e_ (I x7)) (e_ (I 1)) j7) ?_
 refine Q1 _ (jg (e_ (I (w64 (x7 + 1))))) ?_
 refine PL.nil ?_
 have ho18 := pz ho18
 subst ho18
 exact ⟨(w64 (x7 + 1)), rfl, f1, (e_ (I (w64 (x7 + 1)))), f4⟩
 refine PC.condFb f20 hb27 ?_
 refine PC.skip ?_
 have ho18 := pz ho18
 subst ho18
 exact ⟨x7, rfl, f1, f3, f4⟩
 intro F H hI
 obtain ⟨x19, ho, f1, f3, f4⟩ := hI
 have ho := ho.symm
 subst ho
 try dsimp only at hs12
 refine PC.region ?_
 refine Q1 _ (ja f4) ?_
 refine Q1 _ (jj rfl (e_ (I x8)) (e_ (I 1)) j7) ?_
 refine Q1 _ (jg (e_ (I (w64 (x8 + 1))))) ?_
 refine PL.nil ?_
 have hs12 := pz hs12
 subst hs12
 exact ⟨m13, Nat.lt_succ_self _, (x19, (w64 (x8 + 1))), ho9, f1, f3, (e_ (I (w64 (x8 + 1))))⟩
 refine PC.condFb f6 hb16 ?_
 refine PC.exit ?_
 have hs12 := pz hs12
 subst hs12
 try dsimp only at ho9
 subst ho9
 try dsimp only at h0
 refine hK3 _ _ ?_
 refine PC.absF (fun F => True) trivial ?_
 intro F hI
 clear hI
 refine SR fun K30 hK30 => ?_
 refine Q1 _ (jg (e_ (B true))) ?_
 refine PL.nil (hK30 _ _ ?_)
 refine A1 2 (e_ (B true)) fun F f2 => ?_
 refine PC.ret ?_
 have h0 := pz h0
 subst h0
 exact fin (.inr rfl) (qc Tryz.results38 f2) (.u _)
def J5 (a0 : (Arr 256 Int)) : G Int :=
  G.bind (G.loop (σ := (Int × Int)) (α := Int) (fun (x7, x8) => G.cond (decide (x8 < 256)) (G.bind (G.lift (idx a0.1 x8)) fun x18 => G.pure (.inl ((max x7 (w64 ((w64 x18) + 1))), (w64 (x8 + 1))))) (G.pure (.inr x7))) (0, 0)) fun x20 => G.pure x20
theorem zfz {nn : Nat} {a0 : (Arr 256 Int)} {r : Int} (h0 : J5 a0 nn = some r) : PCall Tryz.prog 39 [(arV (n := 256) U8) a0] (· = I r) := by
 unfold J5 at h0
 refine PCall.intro' Tryz.func39 rfl Tryz.ntmps39 (by simp) fun W => ?_
 refine A1 0 (e_ ((arV (n := 256) U8) a0)) fun F f0 => ?_
 generalize PHeap.empty = H
 refine SR fun K1 hK1 => ?_
 refine Q3 (PV.rp ((arV (n := 256) U8) a0).cells) (zi f0 (yb _ _ _ (fun _ => rfl))) ?_
 refine Q1 _ (jg (e_ (I 0))) ?_
 refine PL.nil (hK1 _ _ ?_)
 refine A1 1 (e_ (PV.rp ((arV (n := 256) U8) a0).cells)) fun F f1 => ?_
 refine SR fun K2 hK2 => ?_
 refine Q1 _ (jg (e_ (I 0))) ?_
 refine PL.nil (hK2 _ _ ?_)
 refine A2 1 f1 3 (e_ (I 0)) fun F f1 f3 => ?_
 refine PC.seq fun K3 hK3 => ?_
 refine SR fun K4 hK4 => ?_
 refine Q1 _ (jg (e_ (I 0))) ?_
 refine PL.nil (hK4 _ _ ?_)
 refine A3 1 f1 3 f3 4 (e_ (I 0)) fun F f1 f3 f4 => ?_
 refine PC.block ?_
 obtain ⟨o9, ho9, h0⟩ := bs h0
 obtain ⟨B10, hB10, ho9⟩ := G.loop_some ho9
 refine PC.loop (fun m13 F H => ∃ s22 : (Int × Int), qu B10 m13 s22 = some o9 ∧ F 1 = (PV.rp ((arV (n := 256) U8) a0).cells) ∧ F 3 = (I s22.1) ∧ F 4 = (I s22.2)) (m := nn) ⟨(0, 0), ho9, f1, f3, f4⟩ fun m13 F H hI => ?_
 obtain ⟨⟨x7, x8⟩, ho9, f1, f3, f4⟩ := hI
 obtain ⟨m13, rfl, st11, hs12, ho9⟩ := jx ho9
 rw [hB10] at hs12
 try dsimp only at hs12
 refine PC.seq fun K14 hK14 => ?_
 refine SR fun K15 hK15 => ?_
 refine Q1 _ (ja f4) ?_
 refine Q1 _ (jj rfl (e_ (I x8)) (e_ (I 256)) jw) ?_
 refine PL.nil (hK15 _ _ ?_)
 refine A4 1 f1 3 f3 4 f4 6 (e_ (B (decide (x8 < 256)))) fun F f1 f3 f4 f6 => ?_
 rcases cz hs12 with ⟨hb16, hs12⟩ | ⟨hb16, hs12⟩
 refine PC.condTb f6 hb16 ?_
 refine PC.skip ?_
 refine hK14 _ _ ?_
 refine A3 1 f1 3 f3 4 f4 fun F f1 f3 f4 => ?_
 refine PC.seq fun K17 hK17 => ?_
 refine PC.block ?_
 refine PC.region ?_
 refine Q1 _ (ja f3) ?_
 refine Q1 _ (ja f4) ?_
 obtain ⟨x18, hx18, hs12⟩ := bs hs12
 refine Q1 (PV.rp (((arV (n := 256) U8) a0).cells.drop ((x8 : Int).toNat * 1))) (zcv (rep := U8) (a := a0) Zm f1 (e_ (I x8)) hx18) ?_
 refine Q1 (U8 x18) (jy zaq (e_ (PV.rp (((arV (n := 256) U8) a0).cells.drop ((x8 : Int).toNat * 1)))) (zby hx18)) ?_
 refine Q1 (I (w64 x18)) (Jo (by kernel_rfl) (by kernel_rfl) (e_ (U8 x18))) ?_
 refine Q1 _ (jj rfl (e_ (I (w64 x18))) (e_ (I 1)) j7) ?_
 refine Q1 (I (max x7 (w64 ((w64 x18) + 1)))) (znf (e_ (I x7)) (e_ (I (w64 ((w64 x18) + 1))))) ?_
 refine Q1 _ (jg (e_ (I (max x7 (w64 ((w64 x18) + 1)))))) ?_
 refine PL.nil (hK17 _ _ ?_)
 refine A3 1 f1 3 (e_ (I (max x7 (w64 ((w64 x18) + 1))))) 4 f4 fun F f1 f3 f4 => ?_
 refine PC.region ?_
 refine Q1 _ (ja f4) ?_
 refine Q1 _ (jj rfl (e_ (I x8)) (e_ (I 1)) j7) ?_
 refine Q1 _ (jg (e_ (I (w64 (x8 + 1))))) ?_
 refine PL.nil ?_
 have hs12 := pz hs12
 subst hs12
 exact ⟨m13, Nat.lt_succ_self _, ((max x7 (w64 ((w64 x18) + 1))), (w64 (x8 + 1))), ho9, f1, f3, (e_ (I (w64 (x8 + 1))))⟩
 refine PC.condFb f6 hb16 ?_
 refine PC.exit ?_
 have hs12 := pz hs12
 subst hs12
 try dsimp only at ho9
 subst ho9
 try dsimp only at h0
 refine hK3 _ _ ?_
 refine A1 3 f3 fun F f3 => ?_
 refine SR fun K19 hK19 => ?_
 refine Q1 _ (ja f3) ?_
 refine Q1 _ (jg (e_ (I x7))) ?_
 refine PL.nil (hK19 _ _ ?_)
 refine A1 2 (e_ (I x7)) fun F f2 => ?_
 refine PC.ret ?_
 have h0 := pz h0
 subst h0
 exact fin (.inr rfl) (qc Tryz.results39 f2) (.u _)
def zu (a0 : je) : G Bool :=
  G.bind (Qv a0.ji) fun x4 => G.bind (G.cond (!(!x4)) (J5 a0.ji) (G.pure 0)) fun x5 => G.cond ((((!x4) || (decide (¬ a0.jf = x5))) || (decide ((a0.jd.length : Int) = 0))) || (decide (¬ (a0.jl.length : Int) = (a0.jd.length : Int)))) (G.pure false) (G.bind (G.loop (σ := Int) (α := Unit ⊕ Bool) (fun x11 => G.cond (decide (x11 < (a0.jd.length : Int))) (G.bind (G.lift (idx a0.jd x11)) fun x23 => G.bind (G.cond (!(decide (¬ (x23.length : Int) = a0.jf))) (G.lift (idx a0.jl x11)) (G.pure 0)) fun x24 => G.cond ((decide (¬ (x23.length : Int) = a0.jf)) || (decide (x24 < (-1)))) (G.pure (.inr (.inr false))) (G.bind (G.loop (σ := Int) (α := Unit ⊕ Bool) (fun x29 => G.cond (decide (x29 < a0.jf)) (G.bind (G.lift (idx a0.jd x11)) fun x40 => G.bind (G.lift (idx x40 x29)) fun x41 => G.bind (G.cond (!(decide (x41 < (-1)))) (G.lift (idx a0.jd x11)) (G.pure [])) fun x42 => G.bind (G.cond (!(decide (x41 < (-1)))) (G.lift (idx x42 x29)) (G.pure 0)) fun x43 => G.cond ((decide (x41 < (-1))) || (decide ((a0.jd.length : Int) ≤ x43))) (G.pure (.inr (.inr false))) (G.pure (.inl (w64 (x29 + 1))))) (G.pure (.inr (.inl ())))) 0) fun o => match o with | .inl () => G.pure (.inl (w64 (x11 + 1))) | .inr r46 => G.pure (.inr (.inr r46)))) (G.pure (.inr (.inl ())))) 0) fun o => match o with | .inl () => G.pure true | .inr r50 => G.pure r50)
theorem Yw {nn : Nat} {a0 : je} {r : Bool} (h0 : zu a0 nn = some r) : PCall Tryz.prog 26 [jb a0] (· = B r) := by
 unfold zu at h0
 refine PCall.intro' Tryz.func26 rfl Tryz.ntmps26 (by simp) fun W => ?_
 refine A1 0 (e_ (jb a0)) fun F f0 => ?_
 generalize PHeap.empty = H
 refine SR fun K1 hK1 => ?_
 refine Q3 (PV.rp (jb a0).cells) (zi f0 (qn _ _)) ?_
 refine Q1 _ (jg (e_ (B false))) ?_
 refine PL.nil (hK1 _ _ ?_)
 refine A1 1 (e_ (PV.rp (jb a0).cells)) fun F f1 => ?_
 refine PC.seq fun K2 hK2 => ?_
 refine PC.seq fun K3 hK3 => ?_
 refine PC.regionQ mixed (by kernel_rfl) ?_
 refine Q2 (PV.rp ((jb a0).cells.drop 0)) (j1 Qc yq (by decide) f1) ?_
 refine Q2 ((arV (n := 256) U8) a0.ji) (jy yq (e_ (PV.rp ((jb a0).cells.drop 0))) (yx a0)) ?_
 obtain ⟨x4, hx4, h0⟩ := bs h0
 refine Q4 (B x4) (j5 (by kernel_rfl) (am (e_ ((arV (n := 256) U8) a0.ji)) (am0)) (js (vi _ (fun _ => (.u _))) (j9)) (zf7 hx4)) ?_
 refine Q2 (B (!x4)) (yk (e_ (B x4))) ?_
 refine Q2 _ (ja (e_ (B (!x4)))) ?_
 refine HF_ (PV.rp ((jb a0).cells.drop 256)) rfl (e_ (B (!x4))) (fun hb => j1 zn qo (by decide) f1) ?_
 refine HF_ (I a0.jf) rfl (e_ (B (!x4))) (fun hb => jy qo (gvp hb (e_ (gv (!(!x4)) (PV.rp ((jb a0).cells.drop 256))))) (ya a0)) ?_
 refine HF_ (PV.rp ((jb a0).cells.drop 0)) rfl (e_ (B (!x4))) (fun hb => j1 Qc yq (by decide) f1) ?_
 refine HF_ ((arV (n := 256) U8) a0.ji) rfl (e_ (B (!x4))) (fun hb => jy yq (gvp hb (e_ (gv (!(!x4)) (PV.rp ((jb a0).cells.drop 0))))) (yx a0)) ?_
 obtain ⟨x5, hx5, h0⟩ := bs h0
 refine HFq (I x5) rfl (e_ (B (!x4))) (fun hb => j5 (by kernel_rfl) (am (gvp hb (e_ (gv (!(!x4)) ((arV (n := 256) U8) a0.ji)))) (am0)) (js (vi _ (fun _ => (.u _))) (j9)) (zfz (G.cond_pos hx5 hb))) ?_
 refine HF_ (B (decide (¬ a0.jf = x5))) rfl (e_ (B (!x4))) (fun hb => jj rfl (gvp hb (e_ (gv (!(!x4)) (I a0.jf)))) (gvp hb (e_ (gv (!(!x4)) (I x5)))) yc) ?_
 refine Q2 (B ((!x4) || (decide (¬ a0.jf = x5)))) (yi (e_ (B (!x4))) rfl (e_ (gv (!(!x4)) (B (decide (¬ a0.jf = x5)))))) ?_
 refine Q2 _ (ja (e_ (B ((!x4) || (decide (¬ a0.jf = x5)))))) ?_
 refine HF_ (PV.rp ((jb a0).cells.drop 257)) rfl (e_ (B ((!x4) || (decide (¬ a0.jf = x5))))) (fun hb => j1 qt qa (by decide) f1) ?_
 refine HF_ (qd a0.jd) rfl (e_ (B ((!x4) || (decide (¬ a0.jf = x5))))) (fun hb => jy qa (gvp hb (e_ (gv (!((!x4) || (decide (¬ a0.jf = x5)))) (PV.rp ((jb a0).cells.drop 257))))) (qb a0)) ?_
 refine HF_ (I (a0.jd.length : Int)) rfl (e_ (B ((!x4) || (decide (¬ a0.jf = x5))))) (fun hb => qh (rep := slI) (xs := a0.jd) qx (gvp hb (e_ (gv (!((!x4) || (decide (¬ a0.jf = x5)))) (qd a0.jd))))) ?_
 refine HF_ (B (decide ((a0.jd.length : Int) = 0))) rfl (e_ (B ((!x4) || (decide (¬ a0.jf = x5))))) (fun hb => jj rfl (gvp hb (e_ (gv (!((!x4) || (decide (¬ a0.jf = x5)))) (I (a0.jd.length : Int))))) (e_ (I 0)) qf) ?_
 refine Q2 (B (((!x4) || (decide (¬ a0.jf = x5))) || (decide ((a0.jd.length : Int) = 0)))) (yi (e_ (B ((!x4) || (decide (¬ a0.jf = x5))))) rfl (e_ (gv (!((!x4) || (decide (¬ a0.jf = x5)))) (B (decide ((a0.jd.length : Int) = 0)))))) ?_
 refine Q2 _ (ja (e_ (B (((!x4) || (decide (¬ a0.jf = x5))) || (decide ((a0.jd.length : Int) = 0)))))) ?_
 refine HF_ (PV.rp ((jb a0).cells.drop 258)) rfl (e_ (B (((!x4) || (decide (¬ a0.jf = x5))) || (decide ((a0.jd.length : Int) = 0))))) (fun hb => j1 yv qe (by decide) f1) ?_
 refine HF_ (slI a0.jl) rfl (e_ (B (((!x4) || (decide (¬ a0.jf = x5))) || (decide ((a0.jd.length : Int) = 0))))) (fun hb => jy qe (gvp hb (e_ (gv (!(((!x4) || (decide (¬ a0.jf = x5))) || (decide ((a0.jd.length : Int) = 0)))) (PV.rp ((jb a0).cells.drop 258))))) (v7 a0)) ?_
 refine HF_ (I (a0.jl.length : Int)) rfl (e_ (B (((!x4) || (decide (¬ a0.jf = x5))) || (decide ((a0.jd.length : Int) = 0))))) (fun hb => qh (rep := I) (xs := a0.jl) qp (gvp hb (e_ (gv (!(((!x4) || (decide (¬ a0.jf = x5))) || (decide ((a0.jd.length : Int) = 0)))) (slI a0.jl))))) ?_
 refine HF_ (PV.rp ((jb a0).cells.drop 257)) rfl (e_ (B (((!x4) || (decide (¬ a0.jf = x5))) || (decide ((a0.jd.length : Int) = 0))))) (fun hb => j1 qt qa (by decide) f1) ?_
 refine HF_ (qd a0.jd) rfl (e_ (B (((!x4) || (decide (¬ a0.jf = x5))) || (decide ((a0.jd.length : Int) = 0))))) (fun hb => jy qa (gvp hb (e_ (gv (!(((!x4) || (decide (¬ a0.jf = x5))) || (decide ((a0.jd.length : Int) = 0)))) (PV.rp ((jb a0).cells.drop 257))))) (qb a0)) ?_
 refine HF_ (I (a0.jd.length : Int)) rfl (e_ (B (((!x4) || (decide (¬ a0.jf = x5))) || (decide ((a0.jd.length : Int) = 0))))) (fun hb => qh (rep := slI) (xs := a0.jd) qx (gvp hb (e_ (gv (!(((!x4) || (decide (¬ a0.jf = x5))) || (decide ((a0.jd.length : Int) = 0)))) (qd a0.jd))))) ?_
 refine HF_ (B (decide (¬ (a0.jl.length : Int) = (a0.jd.length : Int)))) rfl (e_ (B (((!x4) || (decide (¬ a0.jf = x5))) || (decide ((a0.jd.length : Int) = 0))))) (fun hb => jj rfl (gvp hb (e_ (gv (!(((!x4) || (decide (¬ a0.jf = x5))) || (decide ((a0.jd.length : Int) = 0)))) (I (a0.jl.length : Int))))) (gvp hb (e_ (gv (!(((!x4) || (decide (¬ a0.jf = x5))) || (decide ((a0.jd.length : Int) = 0)))) (I (a0.jd.length : Int))))) yc) ?_
 refine Q2 (B ((((!x4) || (decide (¬ a0.jf = x5))) || (decide ((a0.jd.length : Int) = 0))) || (decide (¬ (a0.jl.length : Int) = (a0.jd.length : Int))))) (yi (e_ (B (((!x4) || (decide (¬ a0.jf = x5))) || (decide ((a0.jd.length : Int) = 0))))) rfl (e_ (gv (!(((!x4) || (decide (¬ a0.jf = x5))) || (decide ((a0.jd.length : Int) = 0)))) (B (decide (¬ (a0.jl.length : Int) = (a0.jd.length : Int))))))) ?_
 refine QF.nil ?_
 refine hK3 _ _ ?_
 refine A2 1 f1 31 (e_ (B ((((!x4) || (decide (¬ a0.jf = x5))) || (decide ((a0.jd.length : Int) = 0))) || (decide (¬ (a0.jl.length : Int) = (a0.jd.length : Int)))))) fun F f1 f31 => ?_
 rcases cz h0 with ⟨hb6, h0⟩ | ⟨hb6, h0⟩
 refine PC.condTb f31 hb6 ?_
 refine SR fun K7 hK7 => ?_
 refine Q1 _ (jg (e_ (B false))) ?_
 refine PL.nil (hK7 _ _ ?_)
 refine A1 2 (e_ (B false)) fun F f2 => ?_
 refine PC.ret ?_
 have h0 := pz h0
 subst h0
 exact fin (.inr rfl) (qc Tryz.results26 f2) (.u _)
 refine PC.condFb f31 hb6 ?_
 refine PC.skip ?_
 refine hK2 _ _ ?_
 refine A1 1 f1 fun F f1 => ?_
 refine PC.seq fun K8 hK8 => ?_
 refine SR fun K9 hK9 => ?_
 refine Q1 _ (jg (e_ (I 0))) ?_
 refine PL.nil (hK9 _ _ ?_)
 refine A2 1 f1 3 (e_ (I 0)) fun F f1 f3 => ?_
 refine PC.block ?_
 obtain ⟨o12, ho12, h0⟩ := bs h0
 obtain ⟨B13, hB13, ho12⟩ := G.loop_some ho12
 refine PC.loop (fun m16 F H => ∃ s51 : Int, qu B13 m16 s51 = some o12 ∧ F 1 = (PV.rp (jb a0).cells) ∧ F 3 = (I s51)) (m := nn) ⟨0, ho12, f1, f3⟩ fun m16 F H hI => ?_
 obtain ⟨x11, ho12, f1, f3⟩ := hI
 obtain ⟨m16, rfl, st14, hs15, ho12⟩ := jx ho12
 rw [hB13] at hs15
 try dsimp only at hs15
 refine PC.seq fun K17 hK17 => ?_
 refine SR fun K18 hK18 => ?_
 refine Q1 _ (ja f3) ?_
 refine Q1 (PV.rp ((jb a0).cells.drop 257)) (j1 qt qa (by decide) f1) ?_
 refine Q1 (qd a0.jd) (jy qa (e_ (PV.rp ((jb a0).cells.drop 257))) (qb a0)) ?_
 refine Q1 (I (a0.jd.length : Int)) (qh (rep := slI) (xs := a0.jd) qx (e_ (qd a0.jd))) ?_
 refine Q1 _ (jj rfl (e_ (I x11)) (e_ (I (a0.jd.length : Int))) jw) ?_
 refine PL.nil (hK18 _ _ ?_)
 refine A3 1 f1 3 f3 36 (e_ (B (decide (x11 < (a0.jd.length : Int))))) fun F f1 f3 f36 => ?_
 rcases cz hs15 with ⟨hb19, hs15⟩ | ⟨hb19, hs15⟩
 refine PC.condTb f36 hb19 ?_
 refine PC.skip ?_
 refine hK17 _ _ ?_
 refine A2 1 f1 3 f3 fun F f1 f3 => ?_
 refine PC.seq fun K20 hK20 => ?_
 refine PC.block ?_
 refine PC.seq fun K21 hK21 => ?_
 refine PC.seq fun K22 hK22 => ?_
 refine PC.regionQ mixed (by kernel_rfl) ?_
 refine Q2 (PV.rp ((jb a0).cells.drop 257)) (j1 qt qa (by decide) f1) ?_
 refine Q2 (qd a0.jd) (jy qa (e_ (PV.rp ((jb a0).cells.drop 257))) (qb a0)) ?_
 refine Q2 _ (ja f3) ?_
 obtain ⟨x23, hx23, hs15⟩ := bs hs15
 refine Q2 (PV.rp (slI x23).cells) (jz (rep := slI) (xs := a0.jd) zw (e_ (qd a0.jd)) (e_ (I x11)) hx23) ?_
 refine Q2 (slI x23) (qk qe (e_ (PV.rp (slI x23).cells))) ?_
 refine Q2 (I (x23.length : Int)) (qh (rep := I) (xs := x23) qp (e_ (slI x23))) ?_
 refine Q2 (PV.rp ((jb a0).cells.drop 256)) (j1 zn qo (by decide) f1) ?_
 refine Q2 (I a0.jf) (jy qo (e_ (PV.rp ((jb a0).cells.drop 256))) (ya a0)) ?_
 refine Q2 _ (jj rfl (e_ (I (x23.length : Int))) (e_ (I a0.jf)) yc) ?_
 refine Q2 _ (ja (e_ (B (decide (¬ (x23.length : Int) = a0.jf))))) ?_
 refine HF_ (PV.rp ((jb a0).cells.drop 258)) rfl (e_ (B (decide (¬ (x23.length : Int) = a0.jf)))) (fun hb => j1 yv qe (by decide) f1) ?_
 refine HF_ (slI a0.jl) rfl (e_ (B (decide (¬ (x23.length : Int) = a0.jf)))) (fun hb => jy qe (gvp hb (e_ (gv (!(decide (¬ (x23.length : Int) = a0.jf))) (PV.rp ((jb a0).cells.drop 258))))) (v7 a0)) ?_
 refine HF_ (I x11) rfl (e_ (B (decide (¬ (x23.length : Int) = a0.jf)))) (fun hb => ja f3) ?_
 obtain ⟨x24, hx24, hs15⟩ := bs hs15
 refine HF_ (PV.rp (I x24).cells) rfl (e_ (B (decide (¬ (x23.length : Int) = a0.jf)))) (fun hb => jz (rep := I) (xs := a0.jl) qy (gvp hb (e_ (gv (!(decide (¬ (x23.length : Int) = a0.jf))) (slI a0.jl)))) (gvp hb (e_ (gv (!(decide (¬ (x23.length : Int) = a0.jf))) (I x11)))) (G.cond_pos hx24 hb)) ?_
 refine HF_ (I x24) rfl (e_ (B (decide (¬ (x23.length : Int) = a0.jf)))) (fun hb => qk qo (gvp hb (e_ (gv (!(decide (¬ (x23.length : Int) = a0.jf))) (PV.rp (I x24).cells))))) ?_
 refine HF_ (B (decide (x24 < (-1)))) rfl (e_ (B (decide (¬ (x23.length : Int) = a0.jf)))) (fun hb => jj rfl (gvp hb (e_ (gv (!(decide (¬ (x23.length : Int) = a0.jf))) (I x24)))) (e_ (I (-1))) jw) ?_
 refine Q2 (B ((decide (¬ (x23.length : Int) = a0.jf)) || (decide (x24 < (-1))))) (yi (e_ (B (decide (¬ (x23.length : Int) = a0.jf)))) rfl (e_ (gv (!(decide (¬ (x23.length : Int) = a0.jf))) (B (decide (x24 < (-1))))))) ?_
 refine QF.nil ?_
 refine hK22 _ _ ?_
 refine A3 1 f1 3 f3 55 (e_ (B ((decide (¬ (x23.length : Int) = a0.jf)) || (decide (x24 < (-1)))))) fun F f1 f3 f55 => ?_
 rcases cz hs15 with ⟨hb25, hs15⟩ | ⟨hb25, hs15⟩
 refine PC.condTb f55 hb25 ?_
 refine SR fun K26 hK26 => ?_
 refine Q1 _ (jg (e_ (B false))) ?_
 refine PL.nil (hK26 _ _ ?_)
 refine A1 2 (e_ (B false)) fun F f2 => ?_
 have hs15 := pz hs15
 subst hs15
 try dsimp only at ho12
 subst ho12
 try dsimp only at h0
 refine PC.ret ?_
 have h0 := pz h0
 subst h0
 exact fin (.inr rfl) (qc Tryz.results26 f2) (.u _)
 refine PC.condFb f55 hb25 ?_
 refine PC.skip ?_
 refine hK21 _ _ ?_
 refine A2 1 f1 3 f3 fun F f1 f3 => ?_
 refine SR fun K27 hK27 => ?_
 refine Q1 _ (jg (e_ (I 0))) ?_
 refine PL.nil (hK27 _ _ ?_)
 refine A3 1 f1 3 f3 4 (e_ (I 0)) fun F f1 f3 f4 => ?_
 refine PC.block ?_
 obtain ⟨o30, ho30, hs15⟩ := bs hs15
 obtain ⟨B31, hB31, ho30⟩ := G.loop_some ho30
 refine PC.loop (fun m34 F H => ∃ s47 : Int, qu B31 m34 s47 = some o30 ∧ F 1 = (PV.rp (jb a0).cells) ∧ F 3 = (I x11) ∧ F 4 = (I s47)) (m := nn) ⟨0, ho30, f1, f3, f4⟩ fun m34 F H hI => ?_
 obtain ⟨x29, ho30, f1, f3, f4⟩ := hI
 obtain ⟨m34, rfl, st32, hs33, ho30⟩ := jx ho30
 rw [hB31] at hs33
 try dsimp only at hs33
 refine PC.seq fun K35 hK35 => ?_
 refine SR fun K36 hK36 => ?_
 refine Q1 _ (ja f4) ?_
 refine Q1 (PV.rp ((jb a0).cells.drop 256)) (j1 zn qo (by decide) f1) ?_
 refine Q1 (I a0.jf) (jy qo (e_ (PV.rp ((jb a0).cells.drop 256))) (ya a0)) ?_
 refine Q1 _ (jj rfl (e_ (I x29)) (e_ (I a0.jf)) jw) ?_
 refine PL.nil (hK36 _ _ ?_)
 refine A4 1 f1 3 f3 4 f4 59 (e_ (B (decide (x29 < a0.jf)))) fun F f1 f3 f4 f59 => ?_
 rcases cz hs33 with ⟨hb37, hs33⟩ | ⟨hb37, hs33⟩
 refine PC.condTb f59 hb37 ?_
 refine PC.skip ?_
 refine hK35 _ _ ?_
 refine A3 1 f1 3 f3 4 f4 fun F f1 f3 f4 => ?_
 refine PC.seq fun K38 hK38 => ?_
 refine PC.block ?_
 refine PC.seq fun K39 hK39 => ?_
 refine PC.regionQ mixed (by kernel_rfl) ?_
 refine Q2 (PV.rp ((jb a0).cells.drop 257)) (j1 qt qa (by decide) f1) ?_
 refine Q2 (qd a0.jd) (jy qa (e_ (PV.rp ((jb a0).cells.drop 257))) (qb a0)) ?_
 refine Q2 _ (ja f3) ?_
 obtain ⟨x40, hx40, hs33⟩ := bs hs33
 refine Q2 (PV.rp (slI x40).cells) (jz (rep := slI) (xs := a0.jd) zw (e_ (qd a0.jd)) (e_ (I x11)) hx40) ?_
 refine Q2 (slI x40) (qk qe (e_ (PV.rp (slI x40).cells))) ?_
 refine Q2 _ (ja f4) ?_
 obtain ⟨x41, hx41, hs33⟩ := bs hs33
 refine Q2 (PV.rp (I x41).cells) (jz (rep := I) (xs := x40) qy (e_ (slI x40)) (e_ (I x29)) hx41) ?_
 refine Q2 (I x41) (qk qo (e_ (PV.rp (I x41).cells))) ?_
 refine Q2 _ (jj rfl (e_ (I x41)) (e_ (I (-1))) jw) ?_
 refine Q2 _ (ja (e_ (B (decide (x41 < (-1)))))) ?_
 refine HF_ (PV.rp ((jb a0).cells.drop 257)) rfl (e_ (B (decide (x41 < (-1))))) (fun hb => j1 qt qa (by decide) f1) ?_
 refine HF_ (qd a0.jd) rfl (e_ (B (decide (x41 < (-1))))) (fun hb => jy qa (gvp hb (e_ (gv (!(decide (x41 < (-1)))) (PV.rp ((jb a0).cells.drop 257))))) (qb a0)) ?_
 refine HF_ (I x11) rfl (e_ (B (decide (x41 < (-1))))) (fun hb => ja f3) ?_
 obtain ⟨x42, hx42, hs33⟩ := bs hs33
 refine HF_ (PV.rp (slI x42).cells) rfl (e_ (B (decide (x41 < (-1))))) (fun hb => jz (rep := slI) (xs := a0.jd) zw (gvp hb (e_ (gv (!(decide (x41 < (-1)))) (qd a0.jd)))) (gvp hb (e_ (gv (!(decide (x41 < (-1)))) (I x11)))) (G.cond_pos hx42 hb)) ?_
 refine HF_ (slI x42) rfl (e_ (B (decide (x41 < (-1))))) (fun hb => qk qe (gvp hb (e_ (gv (!(decide (x41 < (-1)))) (PV.rp (slI x42).cells))))) ?_
 refine HF_ (I x29) rfl (e_ (B (decide (x41 < (-1))))) (fun hb => ja f4) ?_
 obtain ⟨x43, hx43, hs33⟩ := bs hs33
 refine HF_ (PV.rp (I x43).cells) rfl (e_ (B (decide (x41 < (-1))))) (fun hb => jz (rep := I) (xs := x42) qy (gvp hb (e_ (gv (!(decide (x41 < (-1)))) (slI x42)))) (gvp hb (e_ (gv (!(decide (x41 < (-1)))) (I x29)))) (G.cond_pos hx43 hb)) ?_
 refine HF_ (I x43) rfl (e_ (B (decide (x41 < (-1))))) (fun hb => qk qo (gvp hb (e_ (gv (!(decide (x41 < (-1)))) (PV.rp (I x43).cells))))) ?_
 refine HF_ (PV.rp ((jb a0).cells.drop 257)) rfl (e_ (B (decide (x41 < (-1))))) (fun hb => j1 qt qa (by decide) f1) ?_
 refine HF_ (qd a0.jd) rfl (e_ (B (decide (x41 < (-1))))) (fun hb => jy qa (gvp hb (e_ (gv (!(decide (x41 < (-1)))) (PV.rp ((jb a0).cells.drop 257))))) (qb a0)) ?_
 refine HF_ (I (a0.jd.length : Int)) rfl (e_ (B (decide (x41 < (-1))))) (fun hb => qh (rep := slI) (xs := a0.jd) qx (gvp hb (e_ (gv (!(decide (x41 < (-1)))) (qd a0.jd))))) ?_
 refine HF_ (B (decide ((a0.jd.length : Int) ≤ x43))) rfl (e_ (B (decide (x41 < (-1))))) (fun hb => jj rfl (gvp hb (e_ (gv (!(decide (x41 < (-1)))) (I x43)))) (gvp hb (e_ (gv (!(decide (x41 < (-1)))) (I (a0.jd.length : Int))))) vx) ?_
 refine Q2 (B ((decide (x41 < (-1))) || (decide ((a0.jd.length : Int) ≤ x43)))) (yi (e_ (B (decide (x41 < (-1))))) rfl (e_ (gv (!(decide (x41 < (-1)))) (B (decide ((a0.jd.length : Int) ≤ x43)))))) ?_
 refine QF.nil ?_
 refine hK39 _ _ ?_
 refine A4 1 f1 3 f3 4 f4 84 (e_ (B ((decide (x41 < (-1))) || (decide ((a0.jd.length : Int) ≤ x43))))) fun F f1 f3 f4 f84 => ?_
 rcases cz hs33 with ⟨hb44, hs33⟩ | ⟨hb44, hs33⟩
 refine PC.condTb f84 hb44 ?_
 refine SR fun K45 hK45 => ?_
 refine Q1 _ (jg (e_ (B false))) ?_
 refine PL.nil (hK45 _ _ ?_)
 refine A1 2 (e_ (B false)) fun F f2 => ?_
 have hs33 := pz hs33
 subst hs33
 try dsimp only at ho30
 subst ho30
 try dsimp only at hs15
 have hs15 := pz hs15
 subst hs15
 try dsimp only at ho12
 subst ho12
 try dsimp only at h0
 refine PC.ret ?_
 have h0 := pz h0
 subst h0
 exact fin (.inr rfl) (qc Tryz.results26 f2) (.u _)
 refine PC.condFb f84 hb44 ?_
 refine PC.skip ?_
 refine hK38 _ _ ?_
 refine A3 1 f1 3 f3 4 f4 fun F f1 f3 f4 => ?_
 refine PC.region ?_
 refine Q1 _ (ja f4) ?_
 refine Q1 _ (jj rfl (e_ (I x29)) (e_ (I 1)) j7) ?_
 refine Q1 _ (jg (e_ (I (w64 (x29 + 1))))) ?_
 refine PL.nil ?_
 have hs33 := pz hs33
 subst hs33
 exact ⟨m34, Nat.lt_succ_self _, (w64 (x29 + 1)), ho30, f1, f3, (e_ (I (w64 (x29 + 1))))⟩
 refine PC.condFb f59 hb37 ?_
 refine PC.exit ?_
 have hs33 := pz hs33
 subst hs33
 try dsimp only at ho30
 subst ho30
 try dsimp only at hs15
 refine hK20 _ _ ?_
 refine A2 1 f1 3 f3 fun F f1 f3 => ?_
 refine PC.region ?_
 refine Q1 _ (ja f3) ?_
 refine Q1 _ (jj rfl (e_ (I x11)) (e_ (I 1)) j7) ?_
 refine Q1 _ (jg (e_ (I (w64 (x11 + 1))))) ?_
 refine PL.nil ?_
 have hs15 := pz hs15
 subst hs15
 exact ⟨m16, Nat.lt_succ_self _, (w64 (x11 + 1)), ho12, f1, (e_ (I (w64 (x11 + 1))))⟩
 refine PC.condFb f36 hb19 ?_
 refine PC.exit ?_
 have hs15 := pz hs15
 subst hs15
 try dsimp only at ho12
 subst ho12
 try dsimp only at h0
 refine hK8 _ _ ?_
 refine PC.absF (fun F => True) trivial ?_
 intro F hI
 clear hI
 refine SR fun K48 hK48 => ?_
 refine Q1 _ (jg (e_ (B true))) ?_
 refine PL.nil (hK48 _ _ ?_)
 refine A1 2 (e_ (B true)) fun F f2 => ?_
 refine PC.ret ?_
 have h0 := pz h0
 subst h0
 exact fin (.inr rfl) (qc Tryz.results26 f2) (.u _)
def zl (a0 : je) : G (List Bool) :=
  G.bind (zu a0) fun x4 => G.cond (!x4) (G.pure []) (G.bind (G.lift (mkS 1 (false : Bool) (a0.jd.length : Int))) fun x10 => G.bind (G.lift (idx x10 0)) fun x14 => G.bind (G.loop (σ := (Int × (List Bool))) (α := (List Bool)) (fun (x21, x22) => G.cond (decide (x21 < (x22.length : Int))) (G.bind (G.loop (σ := (Int × (List Bool))) (α := (List Bool)) (fun (x37, x38) => G.cond (decide (x37 < (x38.length : Int))) (G.bind (G.loop (σ := (Int × (List Bool))) (α := (List Bool)) (fun (x53, x54) => G.bind (G.lift (idx x54 x37)) fun x63 => G.cond (x63 && (decide (x53 < a0.jf))) (G.bind (α := (List Bool)) (G.bind (G.lift (idx a0.jd x37)) fun x70 => G.bind (G.lift (idx x70 x53)) fun x71 => G.cond (decide (0 ≤ x71)) (G.bind (G.lift (idx a0.jd x37)) fun x73 => G.bind (G.lift (idx x73 x53)) fun x74 => G.bind (G.lift (idx x54 x74)) fun x75 => G.pure (x54.set (x74 : Int).toNat true)) (G.pure x54)) fun x67 => G.pure (.inl ((w64 (x53 + 1)), x67))) (G.pure (.inr x54))) (0, x38)) fun x78 => G.pure (.inl ((w64 (x37 + 1)), x78))) (G.pure (.inr x38))) (0, x22)) fun x81 => G.pure (.inl ((w64 (x21 + 1)), x81))) (G.pure (.inr x22))) (0, (x10.set (0 : Int).toNat true))) fun x85 => G.pure x85)
theorem zeh {nn : Nat} {a0 : je} {r : (List Bool)} (h0 : zl a0 nn = some r) : PCall Tryz.prog 9 [jb a0] (· = PV.fr 4 1 (r.map B)) := by
 unfold zl at h0
 refine PCall.intro' Tryz.func9 rfl Tryz.ntmps9 (by simp) fun W => ?_
 refine A1 0 (e_ (jb a0)) fun F f0 => ?_
 generalize PHeap.empty = H
 refine SR fun K1 hK1 => ?_
 refine Q3 (PV.rp (jb a0).cells) (zi f0 (qn _ _)) ?_
 refine Q1 (PV.u (.slice none 0 0)) (jg rfl) ?_
 have o1002 : ownL 4 1 B H 1002 (PV.u (.slice none 0 0)) [] := ownL.nil _ _
 refine PL.nil (hK1 _ _ ?_)
 refine A1 1 (e_ (PV.rp (jb a0).cells)) fun F f1 => ?_
 refine PC.seq fun K2 hK2 => ?_
 refine SR fun K3 hK3 => ?_
 refine Q1 (jb a0) (vt vk f1 (j8 _)) ?_
 obtain ⟨x4, hx4, h0⟩ := bs h0
 refine Q3 (B x4) (j5 (by kernel_rfl) (am (e_ (jb a0)) (am0)) (js (j4 _) (j9)) (Yw hx4)) ?_
 refine Q1 (B (!x4)) (yk (e_ (B x4))) ?_
 refine PL.nil (hK3 _ _ ?_)
 refine A2 1 f1 9 (e_ (B (!x4))) fun F f1 f9 => ?_
 rcases cz h0 with ⟨hb5, h0⟩ | ⟨hb5, h0⟩
 refine PC.condTb f9 hb5 ?_
 refine SR fun K6 hK6 => ?_
 refine PL.litO (rep := B) (xs := []) 1002 rfl rfl rfl (by decide) Ys rfl (by decide) (bm0) rfl rfl fun q7 H o1002 fz8 => ?_
 refine Q1 _ (jg (e_ q7)) ?_
 refine PL.nil (hK6 _ _ ?_)
 refine A1 2 (e_ q7) fun F f2 => ?_
 refine PC.ret ?_
 have h0 := pz h0
 subst h0
 exact yw (.inr rfl) (qc Tryz.results9 f2) o1002 (fun _ => rfl)
 refine PC.condFb f9 hb5 ?_
 refine PC.skip ?_
 refine hK2 _ _ ?_
 refine A1 1 f1 fun F f1 => ?_
 refine SR fun K9 hK9 => ?_
 refine Q1 (PV.rp ((jb a0).cells.drop 257)) (j1 qt qa (by decide) f1) ?_
 refine Q1 (qd a0.jd) (jy qa (e_ (PV.rp ((jb a0).cells.drop 257))) (qb a0)) ?_
 refine Q1 (I (a0.jd.length : Int)) (qh (rep := slI) (xs := a0.jd) qx (e_ (qd a0.jd))) ?_
 obtain ⟨x10, hx10, h0⟩ := bs h0
 refine PL.mkS (rep := B) 1002 rfl rfl rfl (by decide) Ys rfl rfl (e_ (I (a0.jd.length : Int))) hx10 fun q11 H o1002 fz12 => ?_
 refine Q1 _ (jg (e_ q11)) ?_
 refine PL.nil (hK9 _ _ ?_)
 refine A2 1 f1 3 (e_ q11) fun F f1 f3 => ?_
 refine SR fun K13 hK13 => ?_
 refine Q1 _ (ja f3) ?_
 obtain ⟨x14, hx14, h0⟩ := bs h0
 refine Q1 (PV.pp 1002 ((0 : Int).toNat * 1) (vj q11)) (yj (rep := B) Ji o1002 (e_ q11) (e_ (I 0)) hx14) ?_
 refine PL.stO (rep := B) (v := true) rfl rfl (fun _ h => by cases h) (e_ (PV.pp 1002 ((0 : Int).toNat * 1) (vj q11))) o1002 Qy hx14 (e_ (B true)) (fun _ => rfl) fun H o1002 fz15 => ?_
 refine PL.nil (hK13 _ _ ?_)
 refine A2 1 f1 3 f3 fun F f1 f3 => ?_
 refine PC.seq fun K16 hK16 => ?_
 refine SR fun K17 hK17 => ?_
 refine Q1 _ (jg (e_ (I 0))) ?_
 refine PL.nil (hK17 _ _ ?_)
 refine A3 1 f1 3 f3 4 (e_ (I 0)) fun F f1 f3 f4 => ?_
 refine PC.block ?_
 obtain ⟨o24, ho24, h0⟩ := bs h0
 obtain ⟨B25, hB25, ho24⟩ := G.loop_some ho24
 refine PC.loop (fun m28 F H => ∃ s88 : (Int × (List Bool)), ∃ q23, qu B25 m28 s88 = some o24 ∧ F 1 = (PV.rp (jb a0).cells) ∧ F 3 = q23 ∧ F 4 = (I s88.1) ∧ ownL 4 1 B H 1002 q23 s88.2) (m := nn) ⟨(0, (x10.set (0 : Int).toNat true)), q11, ho24, f1, f3, f4, o1002⟩ fun m28 F H hI => ?_
 obtain ⟨⟨x21, x22⟩, q23, ho24, f1, f3, f4, o1002⟩ := hI
 obtain ⟨m28, rfl, st26, hs27, ho24⟩ := jx ho24
 rw [hB25] at hs27
 try dsimp only at hs27
 refine PC.seq fun K29 hK29 => ?_
 refine SR fun K30 hK30 => ?_
 refine Q1 _ (ja f4) ?_
 refine Q1 _ (ja f3) ?_
 refine Q1 (I (x22.length : Int)) (Jm Jy o1002 (e_ q23)) ?_
 refine Q1 _ (jj rfl (e_ (I x21)) (e_ (I (x22.length : Int))) jw) ?_
 refine PL.nil (hK30 _ _ ?_)
 refine A4 1 f1 3 f3 4 f4 20 (e_ (B (decide (x21 < (x22.length : Int))))) fun F f1 f3 f4 f20 => ?_
 rcases cz hs27 with ⟨hb31, hs27⟩ | ⟨hb31, hs27⟩
 refine PC.condTb f20 hb31 ?_
 refine PC.skip ?_
 refine hK29 _ _ ?_
 refine A3 1 f1 3 f3 4 f4 fun F f1 f3 f4 => ?_
 refine PC.seq fun K32 hK32 => ?_
 refine PC.block ?_
 refine SR fun K33 hK33 => ?_
 refine Q1 _ (jg (e_ (I 0))) ?_
 refine PL.nil (hK33 _ _ ?_)
 refine A4 1 f1 3 f3 4 f4 5 (e_ (I 0)) fun F f1 f3 f4 f5 => ?_
 refine PC.block ?_
 obtain ⟨o40, ho40, hs27⟩ := bs hs27
 obtain ⟨B41, hB41, ho40⟩ := G.loop_some ho40
 refine PC.loop (fun m44 F H => ∃ s83 : (Int × (List Bool)), ∃ q39, qu B41 m44 s83 = some o40 ∧ F 1 = (PV.rp (jb a0).cells) ∧ F 3 = q39 ∧ F 4 = (I x21) ∧ F 5 = (I s83.1) ∧ ownL 4 1 B H 1002 q39 s83.2) (m := nn) ⟨(0, x22), q23, ho40, f1, f3, f4, f5, o1002⟩ fun m44 F H hI => ?_
 obtain ⟨⟨x37, x38⟩, q39, ho40, f1, f3, f4, f5, o1002⟩ := hI
 obtain ⟨m44, rfl, st42, hs43, ho40⟩ := jx ho40
 rw [hB41] at hs43
 try dsimp only at hs43
 refine PC.seq fun K45 hK45 => ?_
 refine SR fun K46 hK46 => ?_
 refine Q1 _ (ja f5) ?_
 refine Q1 _ (ja f3) ?_
 refine Q1 (I (x38.length : Int)) (Jm Jy o1002 (e_ q39)) ?_
 refine Q1 _ (jj rfl (e_ (I x37)) (e_ (I (x38.length : Int))) jw) ?_
 refine PL.nil (hK46 _ _ ?_)
 refine A5 1 f1 3 f3 4 f4 5 f5 26 (e_ (B (decide (x37 < (x38.length : Int))))) fun F f1 f3 f4 f5 f26 => ?_
 rcases cz hs43 with ⟨hb47, hs43⟩ | ⟨hb47, hs43⟩
 refine PC.condTb f26 hb47 ?_
 refine PC.skip ?_
 refine hK45 _ _ ?_
 refine A4 1 f1 3 f3 4 f4 5 f5 fun F f1 f3 f4 f5 => ?_
 refine PC.seq fun K48 hK48 => ?_
 refine PC.block ?_
 refine SR fun K49 hK49 => ?_
 refine Q1 _ (jg (e_ (I 0))) ?_
 refine PL.nil (hK49 _ _ ?_)
 refine A5 1 f1 3 f3 4 f4 5 f5 6 (e_ (I 0)) fun F f1 f3 f4 f5 f6 => ?_
 refine PC.block ?_
 obtain ⟨o56, ho56, hs43⟩ := bs hs43
 obtain ⟨B57, hB57, ho56⟩ := G.loop_some ho56
 refine PC.loop (fun m60 F H => ∃ s80 : (Int × (List Bool)), ∃ q55, qu B57 m60 s80 = some o56 ∧ F 1 = (PV.rp (jb a0).cells) ∧ F 3 = q55 ∧ F 4 = (I x21) ∧ F 5 = (I x37) ∧ F 6 = (I s80.1) ∧ ownL 4 1 B H 1002 q55 s80.2) (m := nn) ⟨(0, x38), q39, ho56, f1, f3, f4, f5, f6, o1002⟩ fun m60 F H hI => ?_
 obtain ⟨⟨x53, x54⟩, q55, ho56, f1, f3, f4, f5, f6, o1002⟩ := hI
 obtain ⟨m60, rfl, st58, hs59, ho56⟩ := jx ho56
 rw [hB57] at hs59
 try dsimp only at hs59
 refine PC.seq fun K61 hK61 => ?_
 refine SR fun K62 hK62 => ?_
 refine Q1 _ (ja f3) ?_
 refine Q1 _ (ja f5) ?_
 obtain ⟨x63, hx63, hs59⟩ := bs hs59
 refine Q1 (PV.pp 1002 ((x37 : Int).toNat * 1) (vj q55)) (yj (rep := B) Ji o1002 (e_ q55) (e_ (I x37)) hx63) ?_
 refine Q1 (B x63) (Yz Qy (e_ (PV.pp 1002 ((x37 : Int).toNat * 1) (vj q55))) o1002 hx63) ?_
 refine Q1 _ (ja (e_ (B x63))) ?_
 refine GT (I x53) rfl (e_ (B x63)) (fun hb => ja f6) ?_
 refine GT (PV.rp ((jb a0).cells.drop 256)) rfl (e_ (B x63)) (fun hb => j1 zn qo (by decide) f1) ?_
 refine GT (I a0.jf) rfl (e_ (B x63)) (fun hb => jy qo (gvp hb (e_ (gv x63 (PV.rp ((jb a0).cells.drop 256))))) (ya a0)) ?_
 refine GT (B (decide (x53 < a0.jf))) rfl (e_ (B x63)) (fun hb => jj rfl (gvp hb (e_ (gv x63 (I x53)))) (gvp hb (e_ (gv x63 (I a0.jf)))) jw) ?_
 refine Q1 (B (x63 && (decide (x53 < a0.jf)))) (vz (e_ (B x63)) (e_ (gv x63 (B (decide (x53 < a0.jf))))) rfl) ?_
 refine PL.nil (hK62 _ _ ?_)
 refine A6 1 f1 3 f3 4 f4 5 f5 6 f6 38 (e_ (B (x63 && (decide (x53 < a0.jf))))) fun F f1 f3 f4 f5 f6 f38 => ?_
 rcases cz hs59 with ⟨hb64, hs59⟩ | ⟨hb64, hs59⟩
 refine PC.condTb f38 hb64 ?_
 refine PC.skip ?_
 refine hK61 _ _ ?_
 refine A5 1 f1 3 f3 4 f4 5 f5 6 f6 fun F f1 f3 f4 f5 f6 => ?_
 obtain ⟨o66, ho66, hs59⟩ := bs hs59
 refine PC.seqM (fun F H => ∃ s77 : (List Bool), ∃ q68, o66 = s77 ∧ F 1 = (PV.rp (jb a0).cells) ∧ F 3 = q68 ∧ F 4 = (I x21) ∧ F 5 = (I x37) ∧ F 6 = (I x53) ∧ ownL 4 1 B H 1002 q68 s77) ?_ ?_
 refine PC.block ?_
 refine SR fun K69 hK69 => ?_
 refine Q1 (PV.rp ((jb a0).cells.drop 257)) (j1 qt qa (by decide) f1) ?_
 refine Q1 (qd a0.jd) (jy qa (e_ (PV.rp ((jb a0).cells.drop 257))) (qb a0)) ?_
 refine Q1 _ (ja f5) ?_
 obtain ⟨x70, hx70, ho66⟩ := bs ho66
 refine Q1 (PV.rp (slI x70).cells) (jz (rep := slI) (xs := a0.jd) zw (e_ (qd a0.jd)) (e_ (I x37)) hx70) ?_
 refine Q1 (slI x70) (qk qe (e_ (PV.rp (slI x70).cells))) ?_
 refine Q1 _ (ja f6) ?_
 obtain ⟨x71, hx71, ho66⟩ := bs ho66
 refine Q1 (PV.rp (I x71).cells) (jz (rep := I) (xs := x70) qy (e_ (slI x70)) (e_ (I x53)) hx71) ?_
 refine Q1 (I x71) (qk qo (e_ (PV.rp (I x71).cells))) ?_
 refine Q1 _ (jj rfl (e_ (I x71)) (e_ (I 0)) vx) ?_
 refine PL.nil (hK69 _ _ ?_)
 refine A6 1 f1 3 f3 4 f4 5 f5 6 f6 49 (e_ (B (decide (0 ≤ x71)))) fun F f1 f3 f4 f5 f6 f49 => ?_
 rcases cz ho66 with ⟨hb72, ho66⟩ | ⟨hb72, ho66⟩
 refine PC.condTb f49 hb72 ?_
 refine PC.region ?_
 refine Q1 _ (ja f3) ?_
 refine Q1 (PV.rp ((jb a0).cells.drop 257)) (j1 qt qa (by decide) f1) ?_
 refine Q1 (qd a0.jd) (jy qa (e_ (PV.rp ((jb a0).cells.drop 257))) (qb a0)) ?_
 refine Q1 _ (ja f5) ?_
 obtain ⟨x73, hx73, ho66⟩ := bs ho66
 refine Q1 (PV.rp (slI x73).cells) (jz (rep := slI) (xs := a0.jd) zw (e_ (qd a0.jd)) (e_ (I x37)) hx73) ?_
 refine Q1 (slI x73) (qk qe (e_ (PV.rp (slI x73).cells))) ?_
 refine Q1 _ (ja f6) ?_
 obtain ⟨x74, hx74, ho66⟩ := bs ho66
 refine Q1 (PV.rp (I x74).cells) (jz (rep := I) (xs := x73) qy (e_ (slI x73)) (e_ (I x53)) hx74) ?_
 refine Q1 (I x74) (qk qo (e_ (PV.rp (I x74).cells))) ?_
 obtain ⟨x75, hx75, ho66⟩ := bs ho66
 refine Q1 (PV.pp 1002 ((x74 : Int).toNat * 1) (vj q55)) (yj (rep := B) Ji o1002 (e_ q55) (e_ (I x74)) hx75) ?_
 refine PL.stO (rep := B) (v := true) rfl rfl (fun _ h => by cases h) (e_ (PV.pp 1002 ((x74 : Int).toNat * 1) (vj q55))) o1002 Qy hx75 (e_ (B true)) (fun _ => rfl) fun H o1002 fz76 => ?_
 refine PL.nil ?_
 have ho66 := pz ho66
 subst ho66
 exact ⟨(x54.set (x74 : Int).toNat true), q55, rfl, f1, f3, f4, f5, f6, o1002⟩
 refine PC.condFb f49 hb72 ?_
 refine PC.skip ?_
 have ho66 := pz ho66
 subst ho66
 exact ⟨x54, q55, rfl, f1, f3, f4, f5, f6, o1002⟩
 intro F H hI
 obtain ⟨x67, q68, ho, f1, f3, f4, f5, f6, o1002⟩ := hI
 have ho := ho.symm
 subst ho
 try dsimp only at hs59
 refine PC.region ?_
 refine Q1 _ (ja f6) ?_
 refine Q1 _ (jj rfl (e_ (I x53)) (e_ (I 1)) j7) ?_
 refine Q1 _ (jg (e_ (I (w64 (x53 + 1))))) ?_
 refine PL.nil ?_
 have hs59 := pz hs59
 subst hs59
 exact ⟨m60, Nat.lt_succ_self _, ((w64 (x53 + 1)), x67), q68, ho56, f1, f3, f4, f5, (e_ (I (w64 (x53 + 1)))), o1002⟩
 refine PC.condFb f38 hb64 ?_
 refine PC.exit ?_
 have hs59 := pz hs59
 subst hs59
 try dsimp only at ho56
 subst ho56
 try dsimp only at hs43
 refine hK48 _ _ ?_
 refine A4 1 f1 3 f3 4 f4 5 f5 fun F f1 f3 f4 f5 => ?_
 refine PC.region ?_
 refine Q1 _ (ja f5) ?_
 refine Q1 _ (jj rfl (e_ (I x37)) (e_ (I 1)) j7) ?_
 refine Q1 _ (jg (e_ (I (w64 (x37 + 1))))) ?_
 refine PL.nil ?_
 have hs43 := pz hs43
 subst hs43
 exact ⟨m44, Nat.lt_succ_self _, ((w64 (x37 + 1)), x54), q55, ho40, f1, f3, f4, (e_ (I (w64 (x37 + 1)))), o1002⟩
 refine PC.condFb f26 hb47 ?_
 refine PC.exit ?_
 have hs43 := pz hs43
 subst hs43
 try dsimp only at ho40
 subst ho40
 try dsimp only at hs27
 refine hK32 _ _ ?_
 refine A3 1 f1 3 f3 4 f4 fun F f1 f3 f4 => ?_
 refine PC.region ?_
 refine Q1 _ (ja f4) ?_
 refine Q1 _ (jj rfl (e_ (I x21)) (e_ (I 1)) j7) ?_
 refine Q1 _ (jg (e_ (I (w64 (x21 + 1))))) ?_
 refine PL.nil ?_
 have hs27 := pz hs27
 subst hs27
 exact ⟨m28, Nat.lt_succ_self _, ((w64 (x21 + 1)), x38), q39, ho24, f1, f3, (e_ (I (w64 (x21 + 1)))), o1002⟩
 refine PC.condFb f20 hb31 ?_
 refine PC.exit ?_
 have hs27 := pz hs27
 subst hs27
 try dsimp only at ho24
 subst ho24
 try dsimp only at h0
 refine hK16 _ _ ?_
 refine A1 3 f3 fun F f3 => ?_
 refine SR fun K84 hK84 => ?_
 refine Q1 _ (ja f3) ?_
 refine Q1 _ (jg (e_ q23)) ?_
 refine PL.nil (hK84 _ _ ?_)
 refine A1 2 (e_ q23) fun F f2 => ?_
 refine PC.ret ?_
 have h0 := pz h0
 subst h0
 exact yw (.inr rfl) (qc Tryz.results9 f2) o1002 (fun _ => rfl)
theorem Z9 {nn : Nat} {a0 : je} {r : (List Bool)} (h0 : zl a0 nn = some r) : PCall Tryz.prog 9 [jb a0] (· = slB r) := (zeh h0).forget
def y3 (a0 : (List Bool)) (a1 : (List Bool)) : G Bool :=
  G.cond (decide (¬ (a0.length : Int) = (a1.length : Int))) (G.pure false) (G.bind (G.loop (σ := Int) (α := Unit ⊕ Bool) (fun x9 => G.cond (decide (x9 < (a0.length : Int))) (G.bind (G.lift (idx a0 x9)) fun x20 => G.bind (G.lift (idx a1 x9)) fun x21 => G.cond (x20 != x21) (G.pure (.inr (.inr false))) (G.pure (.inl (w64 (x9 + 1))))) (G.pure (.inr (.inl ())))) 0) fun o => match o with | .inl () => G.pure true | .inr r26 => G.pure r26)
theorem Y4 {nn : Nat} {a0 : (List Bool)} {a1 : (List Bool)} {r : Bool} (h0 : y3 a0 a1 nn = some r) : PCall Tryz.prog 7 [slB a0, slB a1] (· = B r) := by
 unfold y3 at h0
 refine PCall.intro' Tryz.func7 rfl Tryz.ntmps7 (by simp) fun W => ?_
 refine A2 0 (e_ (slB a0)) 1 (e_ (slB a1)) fun F f0 f1 => ?_
 generalize PHeap.empty = H
 refine SR fun K1 hK1 => ?_
 refine Q1 _ (jg (e_ (B false))) ?_
 refine PL.nil (hK1 _ _ ?_)
 refine A2 0 f0 1 f1 fun F f0 f1 => ?_
 refine PC.seq fun K2 hK2 => ?_
 refine SR fun K3 hK3 => ?_
 refine Q1 _ (ja f0) ?_
 refine Q1 (I (a0.length : Int)) (qh (rep := B) (xs := a0) Jy (e_ (slB a0))) ?_
 refine Q1 _ (ja f1) ?_
 refine Q1 (I (a1.length : Int)) (qh (rep := B) (xs := a1) Jy (e_ (slB a1))) ?_
 refine Q1 _ (jj rfl (e_ (I (a0.length : Int))) (e_ (I (a1.length : Int))) yc) ?_
 refine PL.nil (hK3 _ _ ?_)
 refine A3 0 f0 1 f1 10 (e_ (B (decide (¬ (a0.length : Int) = (a1.length : Int))))) fun F f0 f1 f10 => ?_
 rcases cz h0 with ⟨hb4, h0⟩ | ⟨hb4, h0⟩
 refine PC.condTb f10 hb4 ?_
 refine SR fun K5 hK5 => ?_
 refine Q1 _ (jg (e_ (B false))) ?_
 refine PL.nil (hK5 _ _ ?_)
 refine A1 4 (e_ (B false)) fun F f4 => ?_
 refine PC.ret ?_
 have h0 := pz h0
 subst h0
 exact fin (.inr rfl) (qc Tryz.results7 f4) (.u _)
 refine PC.condFb f10 hb4 ?_
 refine PC.skip ?_
 refine hK2 _ _ ?_
 refine A2 0 f0 1 f1 fun F f0 f1 => ?_
 refine PC.seq fun K6 hK6 => ?_
 refine SR fun K7 hK7 => ?_
 refine Q1 _ (jg (e_ (I 0))) ?_
 refine PL.nil (hK7 _ _ ?_)
 refine A3 0 f0 1 f1 5 (e_ (I 0)) fun F f0 f1 f5 => ?_
 refine PC.block ?_
 obtain ⟨o10, ho10, h0⟩ := bs h0
 obtain ⟨B11, hB11, ho10⟩ := G.loop_some ho10
 refine PC.loop (fun m14 F H => ∃ s27 : Int, qu B11 m14 s27 = some o10 ∧ F 0 = (slB a0) ∧ F 1 = (slB a1) ∧ F 5 = (I s27)) (m := nn) ⟨0, ho10, f0, f1, f5⟩ fun m14 F H hI => ?_
 obtain ⟨x9, ho10, f0, f1, f5⟩ := hI
 obtain ⟨m14, rfl, st12, hs13, ho10⟩ := jx ho10
 rw [hB11] at hs13
 try dsimp only at hs13
 refine PC.seq fun K15 hK15 => ?_
 refine SR fun K16 hK16 => ?_
 refine Q1 _ (ja f5) ?_
 refine Q1 _ (ja f0) ?_
 refine Q1 (I (a0.length : Int)) (qh (rep := B) (xs := a0) Jy (e_ (slB a0))) ?_
 refine Q1 _ (jj rfl (e_ (I x9)) (e_ (I (a0.length : Int))) jw) ?_
 refine PL.nil (hK16 _ _ ?_)
 refine A4 0 f0 1 f1 5 f5 14 (e_ (B (decide (x9 < (a0.length : Int))))) fun F f0 f1 f5 f14 => ?_
 rcases cz hs13 with ⟨hb17, hs13⟩ | ⟨hb17, hs13⟩
 refine PC.condTb f14 hb17 ?_
 refine PC.skip ?_
 refine hK15 _ _ ?_
 refine A3 0 f0 1 f1 5 f5 fun F f0 f1 f5 => ?_
 refine PC.seq fun K18 hK18 => ?_
 refine PC.block ?_
 refine PC.seq fun K19 hK19 => ?_
 refine PC.regionQ mixed (by kernel_rfl) ?_
 refine Q2 _ (ja f0) ?_
 refine Q2 _ (ja f5) ?_
 obtain ⟨x20, hx20, hs13⟩ := bs hs13
 refine Q2 (PV.rp (B x20).cells) (jz (rep := B) (xs := a0) Ji (e_ (slB a0)) (e_ (I x9)) hx20) ?_
 refine Q2 (B x20) (qk Qy (e_ (PV.rp (B x20).cells))) ?_
 refine Q2 _ (ja f1) ?_
 refine Q2 _ (ja f5) ?_
 obtain ⟨x21, hx21, hs13⟩ := bs hs13
 refine Q2 (PV.rp (B x21).cells) (jz (rep := B) (xs := a1) Ji (e_ (slB a1)) (e_ (I x9)) hx21) ?_
 refine Q2 (B x21) (qk Qy (e_ (PV.rp (B x21).cells))) ?_
 refine Q2 _ (jj rfl (e_ (B x20)) (e_ (B x21)) (zoo _ _ (by kernel_rfl))) ?_
 refine QF.nil ?_
 refine hK19 _ _ ?_
 refine A4 0 f0 1 f1 5 f5 25 (e_ (B (x20 != x21))) fun F f0 f1 f5 f25 => ?_
 rcases cz hs13 with ⟨hb22, hs13⟩ | ⟨hb22, hs13⟩
 refine PC.condTb f25 hb22 ?_
 refine SR fun K23 hK23 => ?_
 refine Q1 _ (jg (e_ (B false))) ?_
 refine PL.nil (hK23 _ _ ?_)
 refine A1 4 (e_ (B false)) fun F f4 => ?_
 have hs13 := pz hs13
 subst hs13
 try dsimp only at ho10
 subst ho10
 try dsimp only at h0
 refine PC.ret ?_
 have h0 := pz h0
 subst h0
 exact fin (.inr rfl) (qc Tryz.results7 f4) (.u _)
 refine PC.condFb f25 hb22 ?_
 refine PC.skip ?_
 refine hK18 _ _ ?_
 refine A3 0 f0 1 f1 5 f5 fun F f0 f1 f5 => ?_
 refine PC.region ?_
 refine Q1 _ (ja f5) ?_
 refine Q1 _ (jj rfl (e_ (I x9)) (e_ (I 1)) j7) ?_
 refine Q1 _ (jg (e_ (I (w64 (x9 + 1))))) ?_
 refine PL.nil ?_
 have hs13 := pz hs13
 subst hs13
 exact ⟨m14, Nat.lt_succ_self _, (w64 (x9 + 1)), ho10, f0, f1, (e_ (I (w64 (x9 + 1))))⟩
 refine PC.condFb f14 hb17 ?_
 refine PC.exit ?_
 have hs13 := pz hs13
 subst hs13
 try dsimp only at ho10
 subst ho10
 try dsimp only at h0
 refine hK6 _ _ ?_
 refine PC.absF (fun F => True) trivial ?_
 intro F hI
 clear hI
 refine SR fun K24 hK24 => ?_
 refine Q1 _ (jg (e_ (B true))) ?_
 refine PL.nil (hK24 _ _ ?_)
 refine A1 4 (e_ (B true)) fun F f4 => ?_
 refine PC.ret ?_
 have h0 := pz h0
 subst h0
 exact fin (.inr rfl) (qc Tryz.results7 f4) (.u _)
def Jg (a0 : je) : G (List Bool) :=
  G.bind (zu a0) fun x4 => G.cond (!x4) (G.pure []) (G.bind (G.lift (mkS 1 (false : Bool) (a0.jd.length : Int))) fun x10 => G.bind (G.loop (σ := (Int × (List Bool))) (α := (List Bool)) (fun (x18, x19) => G.cond (decide (x18 ≤ (x19.length : Int))) (G.bind (G.loop (σ := (Int × (List Bool))) (α := (List Bool)) (fun (x34, x35) => G.cond (decide (x34 < (x35.length : Int))) (G.bind (G.lift (idx x35 x34)) fun x47 => G.bind (G.cond (!x47) (G.lift (idx a0.jl x34)) (G.pure 0)) fun x48 => G.bind (G.lift (idx x35 x34)) fun x49 => G.bind (G.loop (σ := (Int × (List Bool))) (α := (List Bool)) (fun (x55, x56) => G.cond (decide (x55 < a0.jf)) (G.bind (α := (List Bool)) (G.bind (G.lift (idx a0.jd x34)) fun x71 => G.bind (G.lift (idx x71 x55)) fun x72 => G.bind (G.cond (decide (0 ≤ x72)) (G.lift (idx a0.jd x34)) (G.pure [])) fun x73 => G.bind (G.cond (decide (0 ≤ x72)) (G.lift (idx x73 x55)) (G.pure 0)) fun x74 => G.bind (G.cond (decide (0 ≤ x72)) (G.lift (idx x56 x74)) (G.pure false)) fun x75 => G.cond ((decide (0 ≤ x72)) && x75) (G.bind (G.lift (idx x56 x34)) fun x77 => G.pure (x56.set (x34 : Int).toNat true)) (G.pure x56)) fun x68 => G.pure (.inl ((w64 (x55 + 1)), x68))) (G.pure (.inr x56))) (0, (x35.set (x34 : Int).toNat (x47 || (decide (0 ≤ x48)))))) fun x80 => G.pure (.inl ((w64 (x34 + 1)), x80))) (G.pure (.inr x35))) (0, x19)) fun x83 => G.pure (.inl ((w64 (x18 + 1)), x83))) (G.pure (.inr x19))) (0, x10)) fun x87 => G.pure x87)
theorem zfl {nn : Nat} {a0 : je} {r : (List Bool)} (h0 : Jg a0 nn = some r) : PCall Tryz.prog 11 [jb a0] (· = PV.fr 4 1 (r.map B)) := by
 unfold Jg at h0
 refine PCall.intro' Tryz.func11 rfl Tryz.ntmps11 (by simp) fun W => ?_
 refine A1 0 (e_ (jb a0)) fun F f0 => ?_
 generalize PHeap.empty = H
 refine SR fun K1 hK1 => ?_
 refine Q3 (PV.rp (jb a0).cells) (zi f0 (qn _ _)) ?_
 refine Q1 (PV.u (.slice none 0 0)) (jg rfl) ?_
 have o1002 : ownL 4 1 B H 1002 (PV.u (.slice none 0 0)) [] := ownL.nil _ _
 refine PL.nil (hK1 _ _ ?_)
 refine A1 1 (e_ (PV.rp (jb a0).cells)) fun F f1 => ?_
 refine PC.seq fun K2 hK2 => ?_
 refine SR fun K3 hK3 => ?_
 refine Q1 (jb a0) (vt vk f1 (j8 _)) ?_
 obtain ⟨x4, hx4, h0⟩ := bs h0
 refine Q3 (B x4) (j5 (by kernel_rfl) (am (e_ (jb a0)) (am0)) (js (j4 _) (j9)) (Yw hx4)) ?_
 refine Q1 (B (!x4)) (yk (e_ (B x4))) ?_
 refine PL.nil (hK3 _ _ ?_)
 refine A2 1 f1 9 (e_ (B (!x4))) fun F f1 f9 => ?_
 rcases cz h0 with ⟨hb5, h0⟩ | ⟨hb5, h0⟩
 refine PC.condTb f9 hb5 ?_
 refine SR fun K6 hK6 => ?_
 refine PL.litO (rep := B) (xs := []) 1002 rfl rfl rfl (by decide) Ys rfl (by decide) (bm0) rfl rfl fun q7 H o1002 fz8 => ?_
 refine Q1 _ (jg (e_ q7)) ?_
 refine PL.nil (hK6 _ _ ?_)
 refine A1 2 (e_ q7) fun F f2 => ?_
 refine PC.ret ?_
 have h0 := pz h0
 subst h0
 exact yw (.inr rfl) (qc Tryz.results11 f2) o1002 (fun _ => rfl)
 refine PC.condFb f9 hb5 ?_
 refine PC.skip ?_
 refine hK2 _ _ ?_
 refine A1 1 f1 fun F f1 => ?_
 refine SR fun K9 hK9 => ?_
 refine Q1 (PV.rp ((jb a0).cells.drop 257)) (j1 qt qa (by decide) f1) ?_
 refine Q1 (qd a0.jd) (jy qa (e_ (PV.rp ((jb a0).cells.drop 257))) (qb a0)) ?_
 refine Q1 (I (a0.jd.length : Int)) (qh (rep := slI) (xs := a0.jd) qx (e_ (qd a0.jd))) ?_
 obtain ⟨x10, hx10, h0⟩ := bs h0
 refine PL.mkS (rep := B) 1002 rfl rfl rfl (by decide) Ys rfl rfl (e_ (I (a0.jd.length : Int))) hx10 fun q11 H o1002 fz12 => ?_
 refine Q1 _ (jg (e_ q11)) ?_
 refine PL.nil (hK9 _ _ ?_)
 refine A2 1 f1 3 (e_ q11) fun F f1 f3 => ?_
 refine PC.seq fun K13 hK13 => ?_
 refine SR fun K14 hK14 => ?_
 refine Q1 _ (jg (e_ (I 0))) ?_
 refine PL.nil (hK14 _ _ ?_)
 refine A3 1 f1 3 f3 4 (e_ (I 0)) fun F f1 f3 f4 => ?_
 refine PC.block ?_
 obtain ⟨o21, ho21, h0⟩ := bs h0
 obtain ⟨B22, hB22, ho21⟩ := G.loop_some ho21
 refine PC.loop (fun m25 F H => ∃ s90 : (Int × (List Bool)), ∃ q20, qu B22 m25 s90 = some o21 ∧ F 1 = (PV.rp (jb a0).cells) ∧ F 3 = q20 ∧ F 4 = (I s90.1) ∧ ownL 4 1 B H 1002 q20 s90.2) (m := nn) ⟨(0, x10), q11, ho21, f1, f3, f4, o1002⟩ fun m25 F H hI => ?_
 obtain ⟨⟨x18, x19⟩, q20, ho21, f1, f3, f4, o1002⟩ := hI
 obtain ⟨m25, rfl, st23, hs24, ho21⟩ := jx ho21
 rw [hB22] at hs24
 try dsimp only at hs24
 refine PC.seq fun K26 hK26 => ?_
 refine SR fun K27 hK27 => ?_
 refine Q1 _ (ja f4) ?_
 refine Q1 _ (ja f3) ?_
 refine Q1 (I (x19.length : Int)) (Jm Jy o1002 (e_ q20)) ?_
 refine Q1 _ (jj rfl (e_ (I x18)) (e_ (I (x19.length : Int))) Qa) ?_
 refine PL.nil (hK27 _ _ ?_)
 refine A4 1 f1 3 f3 4 f4 18 (e_ (B (decide (x18 ≤ (x19.length : Int))))) fun F f1 f3 f4 f18 => ?_
 rcases cz hs24 with ⟨hb28, hs24⟩ | ⟨hb28, hs24⟩
 refine PC.condTb f18 hb28 ?_
 refine PC.skip ?_
 refine hK26 _ _ ?_
 refine A3 1 f1 3 f3 4 f4 fun F f1 f3 f4 => ?_
 refine PC.seq fun K29 hK29 => ?_
 refine PC.block ?_
 refine SR fun K30 hK30 => ?_
 refine Q1 _ (jg (e_ (I 0))) ?_
 refine PL.nil (hK30 _ _ ?_)
 refine A4 1 f1 3 f3 4 f4 5 (e_ (I 0)) fun F f1 f3 f4 f5 => ?_
 refine PC.block ?_
 obtain ⟨o37, ho37, hs24⟩ := bs hs24
 obtain ⟨B38, hB38, ho37⟩ := G.loop_some ho37
 refine PC.loop (fun m41 F H => ∃ s85 : (Int × (List Bool)), ∃ q36, qu B38 m41 s85 = some o37 ∧ F 1 = (PV.rp (jb a0).cells) ∧ F 3 = q36 ∧ F 4 = (I x18) ∧ F 5 = (I s85.1) ∧ ownL 4 1 B H 1002 q36 s85.2) (m := nn) ⟨(0, x19), q20, ho37, f1, f3, f4, f5, o1002⟩ fun m41 F H hI => ?_
 obtain ⟨⟨x34, x35⟩, q36, ho37, f1, f3, f4, f5, o1002⟩ := hI
 obtain ⟨m41, rfl, st39, hs40, ho37⟩ := jx ho37
 rw [hB38] at hs40
 try dsimp only at hs40
 refine PC.seq fun K42 hK42 => ?_
 refine SR fun K43 hK43 => ?_
 refine Q1 _ (ja f5) ?_
 refine Q1 _ (ja f3) ?_
 refine Q1 (I (x35.length : Int)) (Jm Jy o1002 (e_ q36)) ?_
 refine Q1 _ (jj rfl (e_ (I x34)) (e_ (I (x35.length : Int))) jw) ?_
 refine PL.nil (hK43 _ _ ?_)
 refine A5 1 f1 3 f3 4 f4 5 f5 24 (e_ (B (decide (x34 < (x35.length : Int))))) fun F f1 f3 f4 f5 f24 => ?_
 rcases cz hs40 with ⟨hb44, hs40⟩ | ⟨hb44, hs40⟩
 refine PC.condTb f24 hb44 ?_
 refine PC.skip ?_
 refine hK42 _ _ ?_
 refine A4 1 f1 3 f3 4 f4 5 f5 fun F f1 f3 f4 f5 => ?_
 refine PC.seq fun K45 hK45 => ?_
 refine PC.block ?_
 refine SR fun K46 hK46 => ?_
 refine Q1 _ (ja f3) ?_
 refine Q1 _ (ja f5) ?_
 refine Q1 _ (ja f3) ?_
 refine Q1 _ (ja f5) ?_
 obtain ⟨x47, hx47, hs40⟩ := bs hs40
 refine Q1 (PV.pp 1002 ((x34 : Int).toNat * 1) (vj q36)) (yj (rep := B) Ji o1002 (e_ q36) (e_ (I x34)) hx47) ?_
 refine Q1 (B x47) (Yz Qy (e_ (PV.pp 1002 ((x34 : Int).toNat * 1) (vj q36))) o1002 hx47) ?_
 refine Q1 _ (ja (e_ (B x47))) ?_
 refine GF (PV.rp ((jb a0).cells.drop 258)) rfl (e_ (B x47)) (fun hb => j1 yv qe (by decide) f1) ?_
 refine GF (slI a0.jl) rfl (e_ (B x47)) (fun hb => jy qe (gvp hb (e_ (gv (!x47) (PV.rp ((jb a0).cells.drop 258))))) (v7 a0)) ?_
 refine GF (I x34) rfl (e_ (B x47)) (fun hb => ja f5) ?_
 obtain ⟨x48, hx48, hs40⟩ := bs hs40
 refine GF (PV.rp (I x48).cells) rfl (e_ (B x47)) (fun hb => jz (rep := I) (xs := a0.jl) qy (gvp hb (e_ (gv (!x47) (slI a0.jl)))) (gvp hb (e_ (gv (!x47) (I x34)))) (G.cond_pos hx48 hb)) ?_
 refine GF (I x48) rfl (e_ (B x47)) (fun hb => qk qo (gvp hb (e_ (gv (!x47) (PV.rp (I x48).cells))))) ?_
 refine GF (B (decide (0 ≤ x48))) rfl (e_ (B x47)) (fun hb => jj rfl (gvp hb (e_ (gv (!x47) (I x48)))) (e_ (I 0)) vx) ?_
 refine Q1 (B (x47 || (decide (0 ≤ x48)))) (yi (e_ (B x47)) rfl (e_ (gv (!x47) (B (decide (0 ≤ x48)))))) ?_
 obtain ⟨x49, hx49, hs40⟩ := bs hs40
 refine Q1 (PV.pp 1002 ((x34 : Int).toNat * 1) (vj q36)) (yj (rep := B) Ji o1002 (e_ q36) (e_ (I x34)) hx49) ?_
 refine PL.stO (rep := B) (v := (x47 || (decide (0 ≤ x48)))) rfl rfl (fun _ h => by cases h) (e_ (PV.pp 1002 ((x34 : Int).toNat * 1) (vj q36))) o1002 Qy hx49 (e_ (B (x47 || (decide (0 ≤ x48))))) (fun _ => rfl) fun H o1002 fz50 => ?_
 refine PL.nil (hK46 _ _ ?_)
 refine A4 1 f1 3 f3 4 f4 5 f5 fun F f1 f3 f4 f5 => ?_
 refine SR fun K51 hK51 => ?_
 refine Q1 _ (jg (e_ (I 0))) ?_
 refine PL.nil (hK51 _ _ ?_)
 refine A5 1 f1 3 f3 4 f4 5 f5 6 (e_ (I 0)) fun F f1 f3 f4 f5 f6 => ?_
 refine PC.block ?_
 obtain ⟨o58, ho58, hs40⟩ := bs hs40
 obtain ⟨B59, hB59, ho58⟩ := G.loop_some ho58
 refine PC.loop (fun m62 F H => ∃ s82 : (Int × (List Bool)), ∃ q57, qu B59 m62 s82 = some o58 ∧ F 1 = (PV.rp (jb a0).cells) ∧ F 3 = q57 ∧ F 4 = (I x18) ∧ F 5 = (I x34) ∧ F 6 = (I s82.1) ∧ ownL 4 1 B H 1002 q57 s82.2) (m := nn) ⟨(0, (x35.set (x34 : Int).toNat (x47 || (decide (0 ≤ x48))))), q36, ho58, f1, f3, f4, f5, f6, o1002⟩ fun m62 F H hI => ?_
 obtain ⟨⟨x55, x56⟩, q57, ho58, f1, f3, f4, f5, f6, o1002⟩ := hI
 obtain ⟨m62, rfl, st60, hs61, ho58⟩ := jx ho58
 rw [hB59] at hs61
 try dsimp only at hs61
 refine PC.seq fun K63 hK63 => ?_
 refine SR fun K64 hK64 => ?_
 refine Q1 _ (ja f6) ?_
 refine Q1 (PV.rp ((jb a0).cells.drop 256)) (j1 zn qo (by decide) f1) ?_
 refine Q1 (I a0.jf) (jy qo (e_ (PV.rp ((jb a0).cells.drop 256))) (ya a0)) ?_
 refine Q1 _ (jj rfl (e_ (I x55)) (e_ (I a0.jf)) jw) ?_
 refine PL.nil (hK64 _ _ ?_)
 refine A6 1 f1 3 f3 4 f4 5 f5 6 f6 45 (e_ (B (decide (x55 < a0.jf)))) fun F f1 f3 f4 f5 f6 f45 => ?_
 rcases cz hs61 with ⟨hb65, hs61⟩ | ⟨hb65, hs61⟩
 refine PC.condTb f45 hb65 ?_
 refine PC.skip ?_
 refine hK63 _ _ ?_
 refine A5 1 f1 3 f3 4 f4 5 f5 6 f6 fun F f1 f3 f4 f5 f6 => ?_
 obtain ⟨o67, ho67, hs61⟩ := bs hs61
 refine PC.seqM (fun F H => ∃ s79 : (List Bool), ∃ q69, o67 = s79 ∧ F 1 = (PV.rp (jb a0).cells) ∧ F 3 = q69 ∧ F 4 = (I x18) ∧ F 5 = (I x34) ∧ F 6 = (I x55) ∧ ownL 4 1 B H 1002 q69 s79) ?_ ?_
 refine PC.block ?_
 refine SR fun K70 hK70 => ?_
 refine Q1 (PV.rp ((jb a0).cells.drop 257)) (j1 qt qa (by decide) f1) ?_
 refine Q1 (qd a0.jd) (jy qa (e_ (PV.rp ((jb a0).cells.drop 257))) (qb a0)) ?_
 refine Q1 _ (ja f5) ?_
 obtain ⟨x71, hx71, ho67⟩ := bs ho67
 refine Q1 (PV.rp (slI x71).cells) (jz (rep := slI) (xs := a0.jd) zw (e_ (qd a0.jd)) (e_ (I x34)) hx71) ?_
 refine Q1 (slI x71) (qk qe (e_ (PV.rp (slI x71).cells))) ?_
 refine Q1 _ (ja f6) ?_
 obtain ⟨x72, hx72, ho67⟩ := bs ho67
 refine Q1 (PV.rp (I x72).cells) (jz (rep := I) (xs := x71) qy (e_ (slI x71)) (e_ (I x55)) hx72) ?_
 refine Q1 (I x72) (qk qo (e_ (PV.rp (I x72).cells))) ?_
 refine Q1 _ (jj rfl (e_ (I x72)) (e_ (I 0)) vx) ?_
 refine Q1 _ (ja (e_ (B (decide (0 ≤ x72))))) ?_
 refine GT q57 rfl (e_ (B (decide (0 ≤ x72)))) (fun hb => ja f3) ?_
 refine GT (PV.rp ((jb a0).cells.drop 257)) rfl (e_ (B (decide (0 ≤ x72)))) (fun hb => j1 qt qa (by decide) f1) ?_
 refine GT (qd a0.jd) rfl (e_ (B (decide (0 ≤ x72)))) (fun hb => jy qa (gvp hb (e_ (gv (decide (0 ≤ x72)) (PV.rp ((jb a0).cells.drop 257))))) (qb a0)) ?_
 refine GT (I x34) rfl (e_ (B (decide (0 ≤ x72)))) (fun hb => ja f5) ?_
 obtain ⟨x73, hx73, ho67⟩ := bs ho67
 refine GT (PV.rp (slI x73).cells) rfl (e_ (B (decide (0 ≤ x72)))) (fun hb => jz (rep := slI) (xs := a0.jd) zw (gvp hb (e_ (gv (decide (0 ≤ x72)) (qd a0.jd)))) (gvp hb (e_ (gv (decide (0 ≤ x72)) (I x34)))) (G.cond_pos hx73 hb)) ?_
 refine GT (slI x73) rfl (e_ (B (decide (0 ≤ x72)))) (fun hb => qk qe (gvp hb (e_ (gv (decide (0 ≤ x72)) (PV.rp (slI x73).cells))))) ?_
 refine GT (I x55) rfl (e_ (B (decide (0 ≤ x72)))) (fun hb => ja f6) ?_
 obtain ⟨x74, hx74, ho67⟩ := bs ho67
 refine GT (PV.rp (I x74).cells) rfl (e_ (B (decide (0 ≤ x72)))) (fun hb => jz (rep := I) (xs := x73) qy (gvp hb (e_ (gv (decide (0 ≤ x72)) (slI x73)))) (gvp hb (e_ (gv (decide (0 ≤ x72)) (I x55)))) (G.cond_pos hx74 hb)) ?_
 refine GT (I x74) rfl (e_ (B (decide (0 ≤ x72)))) (fun hb => qk qo (gvp hb (e_ (gv (decide (0 ≤ x72)) (PV.rp (I x74).cells))))) ?_
 obtain ⟨x75, hx75, ho67⟩ := bs ho67
 refine GT (PV.pp 1002 ((x74 : Int).toNat * 1) (vj q57)) rfl (e_ (B (decide (0 ≤ x72)))) (fun hb => yj (rep := B) Ji o1002 (gvp hb (e_ (gv (decide (0 ≤ x72)) q57))) (gvp hb (e_ (gv (decide (0 ≤ x72)) (I x74)))) (G.cond_pos hx75 hb)) ?_
 refine GT (B x75) rfl (e_ (B (decide (0 ≤ x72)))) (fun hb => Yz Qy (gvp hb (e_ (gv (decide (0 ≤ x72)) (PV.pp 1002 ((x74 : Int).toNat * 1) (vj q57))))) o1002 (G.cond_pos hx75 hb)) ?_
 refine Q1 (B ((decide (0 ≤ x72)) && x75)) (vz (e_ (B (decide (0 ≤ x72)))) (e_ (gv (decide (0 ≤ x72)) (B x75))) rfl) ?_
 refine PL.nil (hK70 _ _ ?_)
 refine A6 1 f1 3 f3 4 f4 5 f5 6 f6 69 (e_ (B ((decide (0 ≤ x72)) && x75))) fun F f1 f3 f4 f5 f6 f69 => ?_
 rcases cz ho67 with ⟨hb76, ho67⟩ | ⟨hb76, ho67⟩
 refine PC.condTb f69 hb76 ?_
 refine PC.region ?_
 refine Q1 _ (ja f3) ?_
 refine Q1 _ (ja f5) ?_
 obtain ⟨x77, hx77, ho67⟩ := bs ho67
 refine Q1 (PV.pp 1002 ((x34 : Int).toNat * 1) (vj q57)) (yj (rep := B) Ji o1002 (e_ q57) (e_ (I x34)) hx77) ?_
 refine PL.stO (rep := B) (v := true) rfl rfl (fun _ h => by cases h) (e_ (PV.pp 1002 ((x34 : Int).toNat * 1) (vj q57))) o1002 Qy hx77 (e_ (B true)) (fun _ => rfl) fun H o1002 fz78 => ?_
 refine PL.nil ?_
 have ho67 := pz ho67
 subst ho67
 exact ⟨(x56.set (x34 : Int).toNat true), q57, rfl, f1, f3, f4, f5, f6, o1002⟩
 refine PC.condFb f69 hb76 ?_
 refine PC.skip ?_
 have ho67 := pz ho67
 subst ho67
 exact ⟨x56, q57, rfl, f1, f3, f4, f5, f6, o1002⟩
 intro F H hI
 obtain ⟨x68, q69, ho, f1, f3, f4, f5, f6, o1002⟩ := hI
 have ho := ho.symm
 subst ho
 try dsimp only at hs61
 refine PC.region ?_
 refine Q1 _ (ja f6) ?_
 refine Q1 _ (jj rfl (e_ (I x55)) (e_ (I 1)) j7) ?_
 refine Q1 _ (jg (e_ (I (w64 (x55 + 1))))) ?_
 refine PL.nil ?_
 have hs61 := pz hs61
 subst hs61
 exact ⟨m62, Nat.lt_succ_self _, ((w64 (x55 + 1)), x68), q69, ho58, f1, f3, f4, f5, (e_ (I (w64 (x55 + 1)))), o1002⟩
 refine PC.condFb f45 hb65 ?_
 refine PC.exit ?_
 have hs61 := pz hs61
 subst hs61
 try dsimp only at ho58
 subst ho58
 try dsimp only at hs40
 refine hK45 _ _ ?_
 refine A4 1 f1 3 f3 4 f4 5 f5 fun F f1 f3 f4 f5 => ?_
 refine PC.region ?_
 refine Q1 _ (ja f5) ?_
 refine Q1 _ (jj rfl (e_ (I x34)) (e_ (I 1)) j7) ?_
 refine Q1 _ (jg (e_ (I (w64 (x34 + 1))))) ?_
 refine PL.nil ?_
 have hs40 := pz hs40
 subst hs40
 exact ⟨m41, Nat.lt_succ_self _, ((w64 (x34 + 1)), x56), q57, ho37, f1, f3, f4, (e_ (I (w64 (x34 + 1)))), o1002⟩
 refine PC.condFb f24 hb44 ?_
 refine PC.exit ?_
 have hs40 := pz hs40
 subst hs40
 try dsimp only at ho37
 subst ho37
 try dsimp only at hs24
 refine hK29 _ _ ?_
 refine A3 1 f1 3 f3 4 f4 fun F f1 f3 f4 => ?_
 refine PC.region ?_
 refine Q1 _ (ja f4) ?_
 refine Q1 _ (jj rfl (e_ (I x18)) (e_ (I 1)) j7) ?_
 refine Q1 _ (jg (e_ (I (w64 (x18 + 1))))) ?_
 refine PL.nil ?_
 have hs24 := pz hs24
 subst hs24
 exact ⟨m25, Nat.lt_succ_self _, ((w64 (x18 + 1)), x35), q36, ho21, f1, f3, (e_ (I (w64 (x18 + 1)))), o1002⟩
 refine PC.condFb f18 hb28 ?_
 refine PC.exit ?_
 have hs24 := pz hs24
 subst hs24
 try dsimp only at ho21
 subst ho21
 try dsimp only at h0
 refine hK13 _ _ ?_
 refine A1 3 f3 fun F f3 => ?_
 refine SR fun K86 hK86 => ?_
 refine Q1 _ (ja f3) ?_
 refine Q1 _ (jg (e_ q20)) ?_
 refine PL.nil (hK86 _ _ ?_)
 refine A1 2 (e_ q20) fun F f2 => ?_
 refine PC.ret ?_
 have h0 := pz h0
 subst h0
 exact yw (.inr rfl) (qc Tryz.results11 f2) o1002 (fun _ => rfl)
theorem zbo {nn : Nat} {a0 : je} {r : (List Bool)} (h0 : Jg a0 nn = some r) : PCall Tryz.prog 11 [jb a0] (· = slB r) := (zfl h0).forget
def Vm (a0 : je) : G je :=
  G.bind (zu a0) fun x6 => G.cond (!x6) (G.pure (⟨((⟨(arZ 256 0), 0, [], []⟩ : je).ji), ((⟨(arZ 256 0), 0, [], []⟩ : je).jf), ((⟨(arZ 256 0), 0, [], []⟩ : je).jd), ((⟨(arZ 256 0), 0, [], []⟩ : je).jl)⟩ : je)) (G.bind (zl a0) fun x11 => G.bind (Jg a0) fun x12 => G.bind (G.lift (mkS 8 (0 : Int) (a0.jd.length : Int))) fun x14 => G.bind (G.loop (σ := (Int × Int × (List Int))) (α := (List Int)) (fun (x28, x29, x30) => G.cond (decide (x29 < (x30.length : Int))) (G.bind (α := (Int × (List Int))) (G.bind (G.lift (idx x30 x29)) fun x46 => G.bind (G.cond (!(decide (x29 = 0))) (G.lift (idx x11 x29)) (G.pure false)) fun x49 => G.bind (G.cond ((!(decide (x29 = 0))) && x49) (G.lift (idx x12 x29)) (G.pure false)) fun x50 => G.cond ((decide (x29 = 0)) || (x49 && x50)) (G.bind (G.lift (idx (x30.set (x29 : Int).toNat (-1)) x29)) fun x53 => G.pure ((w64 (x28 + 1)), ((x30.set (x29 : Int).toNat (-1)).set (x29 : Int).toNat x28))) (G.pure (x28, (x30.set (x29 : Int).toNat (-1))))) fun (x42, x43) => G.pure (.inl (x42, (w64 (x29 + 1)), x43))) (G.pure (.inr x30))) (0, 0, x14)) fun x181 => G.bind (G.loop (σ := (Int × (List (List Int)) × (List Int))) (α := ((List (List Int)) × (List Int))) (fun (x201, x202, x204) => G.cond (decide (x201 < (x181.length : Int))) (G.bind (α := ((List (List Int)) × (List Int))) (G.bind (G.lift (idx x181 x201)) fun x222 => G.cond (decide (x222 < 0)) (G.pure (x202, x204)) (G.bind (G.loop (σ := (Int × (List Int))) (α := (List Int)) (fun (x244, x245) => G.cond (decide (x244 < a0.jf)) (G.bind (G.lift (idx a0.jd x201)) fun x257 => G.bind (G.lift (idx x257 x244)) fun x258 => G.bind (α := Int) (G.cond (decide (0 ≤ x258)) (G.bind (G.lift (idx x181 x258)) fun x267 => G.pure x267) (G.pure x258)) fun x261 => G.bind (G.lift (app 8 x245 ([x261] : List Int))) fun x262 => G.pure (.inl ((w64 (x244 + 1)), x262))) (G.pure (.inr x245))) (0, [])) fun x280 => G.bind (G.lift (app 24 x202 ([x280] : List (List Int)))) fun x284 => G.bind (G.lift (idx a0.jl x201)) fun x288 => G.bind (G.lift (app 8 x204 ([x288] : List Int))) fun x289 => G.pure (x284, x289))) fun (x216, x218) => G.pure (.inl ((w64 (x201 + 1)), x216, x218))) (G.pure (.inr (x202, x204)))) (0, [], [])) fun (x299, x301) => G.pure (⟨((⟨a0.ji, a0.jf, x299, x301⟩ : je).ji), ((⟨a0.ji, a0.jf, x299, x301⟩ : je).jf), ((⟨a0.ji, a0.jf, x299, x301⟩ : je).jd), ((⟨a0.ji, a0.jf, x299, x301⟩ : je).jl)⟩ : je))
theorem zhm {nn : Nat} {a0 : je} {r : je} (h0 : Vm a0 nn = some r) : PCall Tryz.prog 14 [jb a0] (· = jb r) := by
 unfold Vm at h0
 refine PCall.intro' Tryz.func14 rfl Tryz.ntmps14 (by simp) fun W => ?_
 refine A1 0 (e_ (jb a0)) fun F f0 => ?_
 generalize PHeap.empty = H
 refine SR fun K1 hK1 => ?_
 refine Q3 (PV.rp (jb a0).cells) (zi f0 (qn _ _)) ?_
 refine PL.allocA 202 (cs := (((arV (n := 256) U8) (arZ 256 0)).cells ++ [(I 0), (PV.u (.slice none 0 0)), (PV.u (.slice none 0 0))])) rfl rfl rfl (by decide) Vr (by kernel_rfl) (by kernel_rfl) fun v202 H b202 fz2 => ?_
 refine PL.recell (cs' := (((arV (n := 256) U8) (arZ 256 0)).cells ++ [(I 0), (qd []), (slI [])])) b202 (WeakL.app (WeakL.refl _) (WeakL.cons (Weak.refl _) (WeakL.cons (Weak.nil _) (WeakL.cons (Weak.nil _) (WeakL.nil))))) fun H b202 fz3 => ?_
 refine PL.nil (hK1 _ _ ?_)
 refine A2 1 (e_ (PV.rp (jb a0).cells)) 2 (e_ (PV.pp 202 0 v202)) fun F f1 f2 => ?_
 refine PC.seq fun K4 hK4 => ?_
 refine SR fun K5 hK5 => ?_
 refine Q1 (jb a0) (vt vk f1 (j8 _)) ?_
 obtain ⟨x6, hx6, h0⟩ := bs h0
 refine Q3 (B x6) (j5 (by kernel_rfl) (am (e_ (jb a0)) (am0)) (js (j4 _) (j9)) (Yw hx6)) ?_
 refine Q1 (B (!x6)) (yk (e_ (B x6))) ?_
 refine PL.nil (hK5 _ _ ?_)
 refine A3 1 f1 2 f2 15 (e_ (B (!x6))) fun F f1 f2 f15 => ?_
 rcases cz h0 with ⟨hb7, h0⟩ | ⟨hb7, h0⟩
 refine PC.condTb f15 hb7 ?_
 refine SR fun K8 hK8 => ?_
 refine Q3 (jb (⟨(arZ 256 0), 0, [], []⟩ : je)) (zko (p := (PV.agg (((arV (n := 256) U8) (arZ 256 0)).cells ++ [(I 0), (PV.u (.slice none 0 0)), (PV.u (.slice none 0 0))]))) (bm0) (by kernel_rfl) (Weak.agg (WeakL.app (WeakL.refl _) (WeakL.cons (Weak.refl _) (WeakL.cons (Weak.nil _) (WeakL.cons (Weak.nil _) (WeakL.nil))))))) ?_
 refine PL.storeA (ag := true) (cs' := (((arV (n := 256) U8) ((⟨(arZ 256 0), 0, [], []⟩ : je).ji)).cells ++ [(I ((⟨(arZ 256 0), 0, [], []⟩ : je).jf)), (qd ((⟨(arZ 256 0), 0, [], []⟩ : je).jd)), (slI ((⟨(arZ 256 0), 0, [], []⟩ : je).jl))])) (ps := (((arV (n := 256) U8) ((⟨(arZ 256 0), 0, [], []⟩ : je).ji)).cells ++ [(I ((⟨(arZ 256 0), 0, [], []⟩ : je).jf)), (qd ((⟨(arZ 256 0), 0, [], []⟩ : je).jd)), (slI ((⟨(arZ 256 0), 0, [], []⟩ : je).jl))])) rfl rfl (fun _ h => by cases h) f2 b202 vk (e_ (jb (⟨(arZ 256 0), 0, [], []⟩ : je))) (qn _ _) rfl (j2 (jk _ _ (fun _ => rfl)) rfl) (by rw [(j2 (jk _ _ (fun _ => rfl)) rfl)]; exact Nat.le_of_ble_eq_true rfl) (vu (N := 256 + (3)) (j2 (jk _ _ (fun _ => rfl)) rfl) (j2 (jk _ _ (fun _ => rfl)) rfl)) fun H b202 fz9 => ?_
 refine PL.nil (hK8 _ _ ?_)
 refine A1 2 f2 fun F f2 => ?_
 refine PC.ret ?_
 have h0 := pz h0
 subst h0
 exact fin (p0 := (jb (⟨((⟨(arZ 256 0), 0, [], []⟩ : je).ji), ((⟨(arZ 256 0), 0, [], []⟩ : je).jf), ((⟨(arZ 256 0), 0, [], []⟩ : je).jd), ((⟨(arZ 256 0), 0, [], []⟩ : je).jl)⟩ : je))) (.inr rfl) (Y1 Tryz.results14 (zc vk f2 b202 (ym (j8 (⟨((⟨(arZ 256 0), 0, [], []⟩ : je).ji), ((⟨(arZ 256 0), 0, [], []⟩ : je).jf), ((⟨(arZ 256 0), 0, [], []⟩ : je).jd), ((⟨(arZ 256 0), 0, [], []⟩ : je).jl)⟩ : je))))) (j4 _)
 refine PC.condFb f15 hb7 ?_
 refine PC.skip ?_
 refine hK4 _ _ ?_
 refine A2 1 f1 2 f2 fun F f1 f2 => ?_
 refine PC.seq fun K10 hK10 => ?_
 refine PC.regionQ mixed (by kernel_rfl) ?_
 refine Q2 (jb a0) (vt vk f1 (j8 _)) ?_
 obtain ⟨x11, hx11, h0⟩ := bs h0
 refine Q4 (slB x11) (j5 (by kernel_rfl) (am (e_ (jb a0)) (am0)) (js (j4 _) (j9)) (Z9 hx11)) ?_
 refine Q2 (jb a0) (vt vk f1 (j8 _)) ?_
 obtain ⟨x12, hx12, h0⟩ := bs h0
 refine Q4 (slB x12) (j5 (by kernel_rfl) (am (e_ (jb a0)) (am0)) (js (j4 _) (j9)) (zbo hx12)) ?_
 refine Q2 _ (jg (e_ (slB x11))) ?_
 refine Q2 _ (jg (e_ (slB x12))) ?_
 refine QF.nil ?_
 refine hK10 _ _ ?_
 refine A4 1 f1 2 f2 3 (e_ (slB x11)) 4 (e_ (slB x12)) fun F f1 f2 f3 f4 => ?_
 refine SR fun K13 hK13 => ?_
 refine Q1 (PV.rp ((jb a0).cells.drop 257)) (j1 qt qa (by decide) f1) ?_
 refine Q1 (qd a0.jd) (jy qa (e_ (PV.rp ((jb a0).cells.drop 257))) (qb a0)) ?_
 refine Q1 (I (a0.jd.length : Int)) (qh (rep := slI) (xs := a0.jd) qx (e_ (qd a0.jd))) ?_
 obtain ⟨x14, hx14, h0⟩ := bs h0
 refine PL.mkS (rep := I) 1005 rfl rfl rfl (by decide) qj rfl rfl (e_ (I (a0.jd.length : Int))) hx14 fun q15 H o1005 fz16 => ?_
 have b202 := (fz16 202 (by decide)).trans b202
 refine Q1 _ (jg (e_ q15)) ?_
 refine PL.nil (hK13 _ _ ?_)
 refine A5 1 f1 2 f2 3 f3 4 f4 5 (e_ q15) fun F f1 f2 f3 f4 f5 => ?_
 refine SR fun K17 hK17 => ?_
 refine Q1 _ (jg (e_ (I 0))) ?_
 refine PL.nil (hK17 _ _ ?_)
 refine A6 1 f1 2 f2 3 f3 4 f4 5 f5 6 (e_ (I 0)) fun F f1 f2 f3 f4 f5 f6 => ?_
 refine PC.seq fun K18 hK18 => ?_
 refine SR fun K19 hK19 => ?_
 refine Q1 _ (jg (e_ (I 0))) ?_
 refine PL.nil (hK19 _ _ ?_)
 refine A7 1 f1 2 f2 3 f3 4 f4 5 f5 6 f6 7 (e_ (I 0)) fun F f1 f2 f3 f4 f5 f6 f7 => ?_
 refine PC.block ?_
 obtain ⟨o32, ho32, h0⟩ := bs h0
 obtain ⟨B33, hB33, ho32⟩ := G.loop_some ho32
 refine PC.loop (fun m36 F H => ∃ s308 : (Int × Int × (List Int)), ∃ q31, qu B33 m36 s308 = some o32 ∧ F 1 = (PV.rp (jb a0).cells) ∧ F 2 = (PV.pp 202 0 v202) ∧ F 3 = (slB x11) ∧ F 4 = (slB x12) ∧ F 5 = q31 ∧ F 6 = (I s308.1) ∧ F 7 = (I s308.2.1) ∧ H 202 = ⟨v202, some (.box 26 (((arV (n := 256) U8) (arZ 256 0)).cells ++ [(I 0), (qd []), (slI [])]))⟩ ∧ ownL 3 1 I H 1005 q31 s308.2.2) (m := nn) ⟨(0, 0, x14), q15, ho32, f1, f2, f3, f4, f5, f6, f7, b202, o1005⟩ fun m36 F H hI => ?_
 obtain ⟨⟨x28, x29, x30⟩, q31, ho32, f1, f2, f3, f4, f5, f6, f7, b202, o1005⟩ := hI
 obtain ⟨m36, rfl, st34, hs35, ho32⟩ := jx ho32
 rw [hB33] at hs35
 try dsimp only at hs35
 refine PC.seq fun K37 hK37 => ?_
 refine SR fun K38 hK38 => ?_
 refine Q1 _ (ja f7) ?_
 refine Q1 _ (ja f5) ?_
 refine Q1 (I (x30.length : Int)) (Jm qp o1005 (e_ q31)) ?_
 refine Q1 _ (jj rfl (e_ (I x29)) (e_ (I (x30.length : Int))) jw) ?_
 refine PL.nil (hK38 _ _ ?_)
 refine A8 1 f1 2 f2 3 f3 4 f4 5 f5 6 f6 7 f7 28 (e_ (B (decide (x29 < (x30.length : Int))))) fun F f1 f2 f3 f4 f5 f6 f7 f28 => ?_
 rcases cz hs35 with ⟨hb39, hs35⟩ | ⟨hb39, hs35⟩
 refine PC.condTb f28 hb39 ?_
 refine PC.skip ?_
 refine hK37 _ _ ?_
 refine A7 1 f1 2 f2 3 f3 4 f4 5 f5 6 f6 7 f7 fun F f1 f2 f3 f4 f5 f6 f7 => ?_
 obtain ⟨o41, ho41, hs35⟩ := bs hs35
 refine PC.seqM (fun F H => ∃ s55 : (Int × (List Int)), ∃ q44, o41 = s55 ∧ F 1 = (PV.rp (jb a0).cells) ∧ F 2 = (PV.pp 202 0 v202) ∧ F 3 = (slB x11) ∧ F 4 = (slB x12) ∧ F 5 = q44 ∧ F 6 = (I s55.1) ∧ F 7 = (I x29) ∧ H 202 = ⟨v202, some (.box 26 (((arV (n := 256) U8) (arZ 256 0)).cells ++ [(I 0), (qd []), (slI [])]))⟩ ∧ ownL 3 1 I H 1005 q44 s55.2) ?_ ?_
 refine PC.block ?_
 refine SR fun K45 hK45 => ?_
 refine Q1 _ (ja f5) ?_
 refine Q1 _ (ja f7) ?_
 obtain ⟨x46, hx46, ho41⟩ := bs ho41
 refine Q1 (PV.pp 1005 ((x29 : Int).toNat * 1) (vj q31)) (yj (rep := I) qy o1005 (e_ q31) (e_ (I x29)) hx46) ?_
 refine PL.stO (rep := I) (v := (-1)) rfl rfl (fun _ h => by cases h) (e_ (PV.pp 1005 ((x29 : Int).toNat * 1) (vj q31))) o1005 qo hx46 (e_ (I (-1))) (fun _ => rfl) fun H o1005 fz47 => ?_
 have b202 := (fz47 202 (by decide)).trans b202
 refine PL.nil (hK45 _ _ ?_)
 refine A7 1 f1 2 f2 3 f3 4 f4 5 f5 6 f6 7 f7 fun F f1 f2 f3 f4 f5 f6 f7 => ?_
 refine SR fun K48 hK48 => ?_
 refine Q1 _ (ja f7) ?_
 refine Q1 _ (jj rfl (e_ (I x29)) (e_ (I 0)) qf) ?_
 refine Q1 _ (ja (e_ (B (decide (x29 = 0))))) ?_
 refine GF (slB x11) rfl (e_ (B (decide (x29 = 0)))) (fun hb => ja f3) ?_
 refine GF (I x29) rfl (e_ (B (decide (x29 = 0)))) (fun hb => ja f7) ?_
 obtain ⟨x49, hx49, ho41⟩ := bs ho41
 refine GF (PV.rp (B x49).cells) rfl (e_ (B (decide (x29 = 0)))) (fun hb => jz (rep := B) (xs := x11) Ji (gvp hb (e_ (gv (!(decide (x29 = 0))) (slB x11)))) (gvp hb (e_ (gv (!(decide (x29 = 0))) (I x29)))) (G.cond_pos hx49 hb)) ?_
 refine GF (B x49) rfl (e_ (B (decide (x29 = 0)))) (fun hb => qk Qy (gvp hb (e_ (gv (!(decide (x29 = 0))) (PV.rp (B x49).cells))))) ?_
 refine GF (B x49) rfl (e_ (B (decide (x29 = 0)))) (fun hb => ja (gvp hb (e_ (gv (!(decide (x29 = 0))) (B x49))))) ?_
 refine PL.gq (p := (slB x12)) (c := (!(decide (x29 = 0)))) (c' := ((!(decide (x29 = 0))) && x49)) rfl rfl (e_ (gv (!(decide (x29 = 0))) (B x49))) (Ju _ _) (qm (by decide)) (fun hb => j0 (ja f4)) ?_
 refine PL.gq (p := (I x29)) (c := (!(decide (x29 = 0)))) (c' := ((!(decide (x29 = 0))) && x49)) rfl rfl (e_ (gv (!(decide (x29 = 0))) (B x49))) (Ju _ _) (qm (by decide)) (fun hb => j0 (ja f7)) ?_
 obtain ⟨x50, hx50, ho41⟩ := bs ho41
 refine PL.gq (p := (PV.rp (B x50).cells)) (c := (!(decide (x29 = 0)))) (c' := ((!(decide (x29 = 0))) && x49)) rfl rfl (e_ (gv (!(decide (x29 = 0))) (B x49))) (Ju _ _) (qm (by decide)) (fun hb => j0 (jz (rep := B) (xs := x12) Ji (gvp hb (e_ (gv ((!(decide (x29 = 0))) && x49) (slB x12)))) (gvp hb (e_ (gv ((!(decide (x29 = 0))) && x49) (I x29)))) (G.cond_pos hx50 hb))) ?_
 refine PL.gq (p := (B x50)) (c := (!(decide (x29 = 0)))) (c' := ((!(decide (x29 = 0))) && x49)) rfl rfl (e_ (gv (!(decide (x29 = 0))) (B x49))) (Ju _ _) (qm (by decide)) (fun hb => j0 (qk Qy (gvp hb (e_ (gv ((!(decide (x29 = 0))) && x49) (PV.rp (B x50).cells)))))) ?_
 refine GF (B (x49 && x50)) rfl (e_ (B (decide (x29 = 0)))) (fun hb => Yg hb (gvp hb (e_ (gv (!(decide (x29 = 0))) (B x49)))) (e_ (gv ((!(decide (x29 = 0))) && x49) (B x50))) rfl) ?_
 refine Q1 (B ((decide (x29 = 0)) || (x49 && x50))) (yi (e_ (B (decide (x29 = 0)))) rfl (e_ (gv (!(decide (x29 = 0))) (B (x49 && x50))))) ?_
 refine PL.nil (hK48 _ _ ?_)
 refine A8 1 f1 2 f2 3 f3 4 f4 5 f5 6 f6 7 f7 47 (e_ (B ((decide (x29 = 0)) || (x49 && x50)))) fun F f1 f2 f3 f4 f5 f6 f7 f47 => ?_
 rcases cz ho41 with ⟨hb51, ho41⟩ | ⟨hb51, ho41⟩
 refine PC.condTb f47 hb51 ?_
 refine SR fun K52 hK52 => ?_
 refine Q1 _ (ja f5) ?_
 refine Q1 _ (ja f7) ?_
 refine Q1 _ (ja f6) ?_
 obtain ⟨x53, hx53, ho41⟩ := bs ho41
 refine Q1 (PV.pp 1005 ((x29 : Int).toNat * 1) (vj q31)) (yj (rep := I) qy o1005 (e_ q31) (e_ (I x29)) hx53) ?_
 refine PL.stO (rep := I) (v := x28) rfl rfl (fun _ h => by cases h) (e_ (PV.pp 1005 ((x29 : Int).toNat * 1) (vj q31))) o1005 qo hx53 (e_ (I x28)) (fun _ => rfl) fun H o1005 fz54 => ?_
 have b202 := (fz54 202 (by decide)).trans b202
 refine PL.nil (hK52 _ _ ?_)
 refine A7 1 f1 2 f2 3 f3 4 f4 5 f5 6 f6 7 f7 fun F f1 f2 f3 f4 f5 f6 f7 => ?_
 refine PC.region ?_
 refine Q1 _ (ja f6) ?_
 refine Q1 _ (jj rfl (e_ (I x28)) (e_ (I 1)) j7) ?_
 refine Q1 _ (jg (e_ (I (w64 (x28 + 1))))) ?_
 refine PL.nil ?_
 have ho41 := pz ho41
 subst ho41
 exact ⟨((w64 (x28 + 1)), ((x30.set (x29 : Int).toNat (-1)).set (x29 : Int).toNat x28)), q31, rfl, f1, f2, f3, f4, f5, (e_ (I (w64 (x28 + 1)))), f7, b202, o1005⟩
 refine PC.condFb f47 hb51 ?_
 refine PC.skip ?_
 have ho41 := pz ho41
 subst ho41
 exact ⟨(x28, (x30.set (x29 : Int).toNat (-1))), q31, rfl, f1, f2, f3, f4, f5, f6, f7, b202, o1005⟩
 intro F H hI
 obtain ⟨⟨x42, x43⟩, q44, ho, f1, f2, f3, f4, f5, f6, f7, b202, o1005⟩ := hI
 have ho := ho.symm
 subst ho
 try dsimp only at hs35
 refine PC.region ?_
 refine Q1 _ (ja f7) ?_
 refine Q1 _ (jj rfl (e_ (I x29)) (e_ (I 1)) j7) ?_
 refine Q1 _ (jg (e_ (I (w64 (x29 + 1))))) ?_
 refine PL.nil ?_
 have hs35 := pz hs35
 subst hs35
 exact ⟨m36, Nat.lt_succ_self _, (x42, (w64 (x29 + 1)), x43), q44, ho32, f1, f2, f3, f4, f5, f6, (e_ (I (w64 (x29 + 1)))), b202, o1005⟩
 refine PC.condFb f28 hb39 ?_
 refine PC.exit ?_
 have hs35 := pz hs35
 subst hs35
 try dsimp only at ho32
 subst ho32
 try dsimp only at h0
 refine hK18 _ _ ?_
 refine A3 1 f1 2 f2 5 f5 fun F f1 f2 f5 => ?_
 refine SR fun K56 hK56 => ?_
 refine Q1 (PV.rp ((jb a0).cells.drop 0)) (j1 Qc yq (by decide) f1) ?_
 refine Q1 ((arV (n := 256) U8) a0.ji) (jy yq (e_ (PV.rp ((jb a0).cells.drop 0))) (yx a0)) ?_
 refine Q1 (PV.rp ((jb a0).cells.drop 256)) (j1 zn qo (by decide) f1) ?_
 refine Q1 (I a0.jf) (jy qo (e_ (PV.rp ((jb a0).cells.drop 256))) (ya a0)) ?_
 refine Q1 (PV.agg (((arV (n := 256) U8) a0.ji).cells ++ [(I a0.jf), (PV.u (.slice none 0 0)), (PV.u (.slice none 0 0))])) (Jh (bm (e_ ((arV (n := 256) U8) a0.ji)) (bm (e_ (I a0.jf)) (bm0))) (zlg (zs := (((arV (n := 256) U8) (arZ 256 0)).cells ++ [(I 0), (PV.u (.slice none 0 0)), (PV.u (.slice none 0 0))])) (places := [(0, 256), (256, 1), (257, 1), (258, 1)]) (by kernel_rfl) (by kernel_rfl) (zes (cs1 := (((arV (n := 256) U8) a0.ji).cells ++ [(I 0), (PV.u (.slice none 0 0)), (PV.u (.slice none 0 0))])) rfl (jk _ _ (fun _ => rfl)) (by rw [(j2 (jk _ _ (fun _ => rfl)) rfl)]; exact Nat.le_of_ble_eq_true rfl) (yb _ _ _ (fun _ => rfl)) (sm_l (jk _ _ (fun _ => rfl)) (jk _ _ (fun _ => rfl))) (zes (cs1 := (((arV (n := 256) U8) a0.ji).cells ++ [(I a0.jf), (PV.u (.slice none 0 0)), (PV.u (.slice none 0 0))])) rfl rfl (by rw [(j2 (jk _ _ (fun _ => rfl)) rfl)]; exact Nat.le_of_ble_eq_true rfl) rfl (zhx (m := 256) (i := 0) (jk _ _ (fun _ => rfl)) rfl) (zlj))))) ?_
 refine PL.allocA 208 (cs := (((arV (n := 256) U8) (arZ 256 0)).cells ++ [(I 0), (PV.u (.slice none 0 0)), (PV.u (.slice none 0 0))])) rfl rfl rfl (by decide) Vr (by kernel_rfl) (by kernel_rfl) fun v208 H b208 fz57 => ?_
 have b202 := (fz57 202 (by decide)).trans b202
 have o1005 := o1005.mono (fz57 1005 (by decide))
 have o1096 : ownL 24 1 slI H 1096 (PV.u (.slice none 0 0)) [] := ownL.nil _ _
 have o1102 : ownL 3 1 I H 1102 (PV.u (.slice none 0 0)) [] := ownL.nil _ _
 refine PL.storeA (ag := true) (cs' := (((arV (n := 256) U8) a0.ji).cells ++ [(I a0.jf), (PV.u (.slice none 0 0)), (PV.u (.slice none 0 0))])) (ps := (((arV (n := 256) U8) a0.ji).cells ++ [(I a0.jf), (PV.u (.slice none 0 0)), (PV.u (.slice none 0 0))])) rfl rfl (fun _ h => by cases h) (e_ (PV.pp 208 0 v208)) b208 vk (e_ (PV.agg (((arV (n := 256) U8) a0.ji).cells ++ [(I a0.jf), (PV.u (.slice none 0 0)), (PV.u (.slice none 0 0))]))) (zha (zdl _ _ _ (fun _ => rfl)) rfl) rfl (j2 (jk _ _ (fun _ => rfl)) rfl) (by rw [(j2 (jk _ _ (fun _ => rfl)) rfl)]; exact Nat.le_of_ble_eq_true rfl) (vu (N := 256 + (3)) (j2 (jk _ _ (fun _ => rfl)) rfl) (j2 (jk _ _ (fun _ => rfl)) rfl)) fun H b208 fz58 => ?_
 have b202 := (fz58 202 (by decide)).trans b202
 have o1005 := o1005.mono (fz58 1005 (by decide))
 have o1096 := o1096.mono (fz58 1096 (by decide))
 have o1102 := o1102.mono (fz58 1102 (by decide))
 have o1096 : ownL 24 1 slI H 1096 (PV.u (.slice none 0 0)) [] := ownL.nil _ _
 have o1102 : ownL 3 1 I H 1102 (PV.u (.slice none 0 0)) [] := ownL.nil _ _
 refine PL.nil (hK56 _ _ ?_)
 refine A4 1 f1 2 f2 5 f5 8 (e_ (PV.pp 208 0 v208)) fun F f1 f2 f5 f8 => ?_
 refine PC.seq fun K59 hK59 => ?_
 refine SR fun K60 hK60 => ?_
 refine Q1 _ (jg (e_ (I 0))) ?_
 refine PL.nil (hK60 _ _ ?_)
 refine A5 1 f1 2 f2 5 f5 8 f8 9 (e_ (I 0)) fun F f1 f2 f5 f8 f9 => ?_
 refine PC.block ?_
 obtain ⟨o79, ho79, h0⟩ := bs h0
 obtain ⟨B80, hB80, ho79⟩ := G.loop_some ho79
 refine PC.loop (fun m83 F H => ∃ s180 : (Int × (List (List Int)) × (List Int)), ∃ q76, ∃ q78, qu B80 m83 s180 = some o79 ∧ F 1 = (PV.rp (jb a0).cells) ∧ F 2 = (PV.pp 202 0 v202) ∧ F 5 = q31 ∧ F 8 = (PV.pp 208 0 v208) ∧ F 9 = (I s180.1) ∧ H 202 = ⟨v202, some (.box 26 (((arV (n := 256) U8) (arZ 256 0)).cells ++ [(I 0), (qd []), (slI [])]))⟩ ∧ H 208 = ⟨v208, some (.box 26 (((arV (n := 256) U8) a0.ji).cells ++ [(I a0.jf), q76, q78]))⟩ ∧ ownL 3 1 I H 1005 q31 x30 ∧ ownL 24 1 slI H 1096 q76 s180.2.1 ∧ ownL 3 1 I H 1102 q78 s180.2.2) (m := nn) ⟨(0, [], []), (PV.u (.slice none 0 0)), (PV.u (.slice none 0 0)), ho79, f1, f2, f5, f8, f9, b202, b208, o1005, o1096, o1102⟩ fun m83 F H hI => ?_
 obtain ⟨⟨x74, x75, x77⟩, q76, q78, ho79, f1, f2, f5, f8, f9, b202, b208, o1005, o1096, o1102⟩ := hI
 obtain ⟨m83, rfl, st81, hs82, ho79⟩ := jx ho79
 rw [hB80] at hs82
 try dsimp only at hs82
 refine PC.seq fun K84 hK84 => ?_
 refine SR fun K85 hK85 => ?_
 refine Q1 _ (ja f9) ?_
 refine Q1 _ (ja f5) ?_
 refine Q1 (I (x30.length : Int)) (Jm qp o1005 (e_ q31)) ?_
 refine Q1 _ (jj rfl (e_ (I x74)) (e_ (I (x30.length : Int))) jw) ?_
 refine PL.nil (hK85 _ _ ?_)
 refine A6 1 f1 2 f2 5 f5 8 f8 9 f9 62 (e_ (B (decide (x74 < (x30.length : Int))))) fun F f1 f2 f5 f8 f9 f62 => ?_
 rcases cz hs82 with ⟨hb86, hs82⟩ | ⟨hb86, hs82⟩
 refine PC.condTb f62 hb86 ?_
 refine PC.skip ?_
 refine hK84 _ _ ?_
 refine A5 1 f1 2 f2 5 f5 8 f8 9 f9 fun F f1 f2 f5 f8 f9 => ?_
 obtain ⟨o88, ho88, hs82⟩ := bs hs82
 refine PC.seqM (fun F H => ∃ s167 : ((List (List Int)) × (List Int)), ∃ q90, ∃ q92, o88 = s167 ∧ F 1 = (PV.rp (jb a0).cells) ∧ F 2 = (PV.pp 202 0 v202) ∧ F 5 = q31 ∧ F 8 = (PV.pp 208 0 v208) ∧ F 9 = (I x74) ∧ H 202 = ⟨v202, some (.box 26 (((arV (n := 256) U8) (arZ 256 0)).cells ++ [(I 0), (qd []), (slI [])]))⟩ ∧ H 208 = ⟨v208, some (.box 26 (((arV (n := 256) U8) a0.ji).cells ++ [(I a0.jf), q90, q92]))⟩ ∧ ownL 3 1 I H 1005 q31 x30 ∧ ownL 24 1 slI H 1096 q90 s167.1 ∧ ownL 3 1 I H 1102 q92 s167.2) ?_ ?_
 refine PC.block ?_
 refine PC.seq fun K93 hK93 => ?_
 refine SR fun K94 hK94 => ?_
 refine Q1 _ (ja f5) ?_
 refine Q1 _ (ja f9) ?_
 obtain ⟨x95, hx95, ho88⟩ := bs ho88
 refine Q1 (PV.pp 1005 ((x74 : Int).toNat * 1) (vj q31)) (yj (rep := I) qy o1005 (e_ q31) (e_ (I x74)) hx95) ?_
 refine Q1 (I x95) (Yz qo (e_ (PV.pp 1005 ((x74 : Int).toNat * 1) (vj q31))) o1005 hx95) ?_
 refine Q1 _ (jj rfl (e_ (I x95)) (e_ (I 0)) jw) ?_
 refine PL.nil (hK94 _ _ ?_)
 refine A6 1 f1 2 f2 5 f5 8 f8 9 f9 69 (e_ (B (decide (x95 < 0)))) fun F f1 f2 f5 f8 f9 f69 => ?_
 rcases cz ho88 with ⟨hb96, ho88⟩ | ⟨hb96, ho88⟩
 refine PC.condTb f69 hb96 ?_
 refine PC.exit ?_
 have ho88 := pz ho88
 subst ho88
 exact ⟨(x75, x77), q76, q78, rfl, f1, f2, f5, f8, f9, b202, b208, o1005, o1096, o1102⟩
 refine PC.condFb f69 hb96 ?_
 refine PC.skip ?_
 refine hK93 _ _ ?_
 refine A5 1 f1 2 f2 5 f5 8 f8 9 f9 fun F f1 f2 f5 f8 f9 => ?_
 refine SR fun K97 hK97 => ?_
 refine PL.litO (rep := I) (xs := []) 1010 rfl rfl rfl (by decide) qj rfl (by decide) (bm0) rfl rfl fun q98 H o1010 fz99 => ?_
 have b202 := (fz99 202 (by decide)).trans b202
 have o1005 := o1005.mono (fz99 1005 (by decide))
 have b208 := (fz99 208 (by decide)).trans b208
 have o1096 := o1096.mono (fz99 1096 (by decide))
 have o1102 := o1102.mono (fz99 1102 (by decide))
 refine Q1 _ (jg (e_ q98)) ?_
 refine PL.nil (hK97 _ _ ?_)
 refine A6 1 f1 2 f2 5 f5 8 f8 9 f9 10 (e_ q98) fun F f1 f2 f5 f8 f9 f10 => ?_
 refine PC.seq fun K100 hK100 => ?_
 refine SR fun K101 hK101 => ?_
 refine Q1 _ (jg (e_ (I 0))) ?_
 refine PL.nil (hK101 _ _ ?_)
 refine A7 1 f1 2 f2 5 f5 8 f8 9 f9 10 f10 11 (e_ (I 0)) fun F f1 f2 f5 f8 f9 f10 f11 => ?_
 refine PC.block ?_
 obtain ⟨o120, ho120, ho88⟩ := bs ho88
 obtain ⟨B121, hB121, ho120⟩ := G.loop_some ho120
 refine PC.loop (fun m124 F H => ∃ s166 : (Int × (List Int)), ∃ q119, qu B121 m124 s166 = some o120 ∧ F 1 = (PV.rp (jb a0).cells) ∧ F 2 = (PV.pp 202 0 v202) ∧ F 5 = q31 ∧ F 8 = (PV.pp 208 0 v208) ∧ F 9 = (I x74) ∧ F 10 = q119 ∧ F 11 = (I s166.1) ∧ H 202 = ⟨v202, some (.box 26 (((arV (n := 256) U8) (arZ 256 0)).cells ++ [(I 0), (qd []), (slI [])]))⟩ ∧ H 208 = ⟨v208, some (.box 26 (((arV (n := 256) U8) a0.ji).cells ++ [(I a0.jf), q76, q78]))⟩ ∧ ownL 3 1 I H 1005 q31 x30 ∧ ownL 3 1 I H 1010 q119 s166.2 ∧ ownL 24 1 slI H 1096 q76 x75 ∧ ownL 3 1 I H 1102 q78 x77) (m := nn) ⟨(0, []), q98, ho120, f1, f2, f5, f8, f9, f10, f11, b202, b208, o1005, o1010, o1096, o1102⟩ fun m124 F H hI => ?_
 obtain ⟨⟨x117, x118⟩, q119, ho120, f1, f2, f5, f8, f9, f10, f11, b202, b208, o1005, o1010, o1096, o1102⟩ := hI
 obtain ⟨m124, rfl, st122, hs123, ho120⟩ := jx ho120
 rw [hB121] at hs123
 try dsimp only at hs123
 refine PC.seq fun K125 hK125 => ?_
 refine SR fun K126 hK126 => ?_
 refine Q1 _ (ja f11) ?_
 refine Q1 (PV.rp ((jb a0).cells.drop 256)) (j1 zn qo (by decide) f1) ?_
 refine Q1 (I a0.jf) (jy qo (e_ (PV.rp ((jb a0).cells.drop 256))) (ya a0)) ?_
 refine Q1 _ (jj rfl (e_ (I x117)) (e_ (I a0.jf)) jw) ?_
 refine PL.nil (hK126 _ _ ?_)
 refine A8 1 f1 2 f2 5 f5 8 f8 9 f9 10 f10 11 f11 74 (e_ (B (decide (x117 < a0.jf)))) fun F f1 f2 f5 f8 f9 f10 f11 f74 => ?_
 rcases cz hs123 with ⟨hb127, hs123⟩ | ⟨hb127, hs123⟩
 refine PC.condTb f74 hb127 ?_
 refine PC.skip ?_
 refine hK125 _ _ ?_
 refine A7 1 f1 2 f2 5 f5 8 f8 9 f9 10 f10 11 f11 fun F f1 f2 f5 f8 f9 f10 f11 => ?_
 refine PC.seq fun K128 hK128 => ?_
 refine PC.block ?_
 refine SR fun K129 hK129 => ?_
 refine Q1 (PV.rp ((jb a0).cells.drop 257)) (j1 qt qa (by decide) f1) ?_
 refine Q1 (qd a0.jd) (jy qa (e_ (PV.rp ((jb a0).cells.drop 257))) (qb a0)) ?_
 refine Q1 _ (ja f9) ?_
 obtain ⟨x130, hx130, hs123⟩ := bs hs123
 refine Q1 (PV.rp (slI x130).cells) (jz (rep := slI) (xs := a0.jd) zw (e_ (qd a0.jd)) (e_ (I x74)) hx130) ?_
 refine Q1 (slI x130) (qk qe (e_ (PV.rp (slI x130).cells))) ?_
 refine Q1 _ (ja f11) ?_
 obtain ⟨x131, hx131, hs123⟩ := bs hs123
 refine Q1 (PV.rp (I x131).cells) (jz (rep := I) (xs := x130) qy (e_ (slI x130)) (e_ (I x117)) hx131) ?_
 refine Q1 (I x131) (qk qo (e_ (PV.rp (I x131).cells))) ?_
 refine Q1 _ (jg (e_ (I x131))) ?_
 refine PL.nil (hK129 _ _ ?_)
 refine A8 1 f1 2 f2 5 f5 8 f8 9 f9 10 f10 11 f11 12 (e_ (I x131)) fun F f1 f2 f5 f8 f9 f10 f11 f12 => ?_
 obtain ⟨o133, ho133, hs123⟩ := bs hs123
 refine PC.seqM (fun F H => ∃ s141 : Int, o133 = s141 ∧ F 1 = (PV.rp (jb a0).cells) ∧ F 2 = (PV.pp 202 0 v202) ∧ F 5 = q31 ∧ F 8 = (PV.pp 208 0 v208) ∧ F 9 = (I x74) ∧ F 10 = q119 ∧ F 11 = (I x117) ∧ F 12 = (I s141) ∧ H 202 = ⟨v202, some (.box 26 (((arV (n := 256) U8) (arZ 256 0)).cells ++ [(I 0), (qd []), (slI [])]))⟩ ∧ H 208 = ⟨v208, some (.box 26 (((arV (n := 256) U8) a0.ji).cells ++ [(I a0.jf), q76, q78]))⟩ ∧ ownL 3 1 I H 1005 q31 x30 ∧ ownL 3 1 I H 1010 q119 x118 ∧ ownL 24 1 slI H 1096 q76 x75 ∧ ownL 3 1 I H 1102 q78 x77) ?_ ?_
 refine SR fun K138 hK138 => ?_
 refine Q1 _ (ja f12) ?_
 refine Q1 _ (jj rfl (e_ (I x131)) (e_ (I 0)) vx) ?_
 refine PL.nil (hK138 _ _ ?_)
 refine A9 1 f1 2 f2 5 f5 8 f8 9 f9 10 f10 11 f11 12 f12 86 (e_ (B (decide (0 ≤ x131)))) fun F f1 f2 f5 f8 f9 f10 f11 f12 f86 => ?_
 rcases cz ho133 with ⟨hb139, ho133⟩ | ⟨hb139, ho133⟩
 refine PC.condTb f86 hb139 ?_
 refine PC.region ?_
 refine Q1 _ (ja f5) ?_
 refine Q1 _ (ja f12) ?_
 obtain ⟨x140, hx140, ho133⟩ := bs ho133
 refine Q1 (PV.pp 1005 ((x131 : Int).toNat * 1) (vj q31)) (yj (rep := I) qy o1005 (e_ q31) (e_ (I x131)) hx140) ?_
 refine Q1 (I x140) (Yz qo (e_ (PV.pp 1005 ((x131 : Int).toNat * 1) (vj q31))) o1005 hx140) ?_
 refine Q1 _ (jg (e_ (I x140))) ?_
 refine PL.nil ?_
 have ho133 := pz ho133
 subst ho133
 exact ⟨x140, rfl, f1, f2, f5, f8, f9, f10, f11, (e_ (I x140)), b202, b208, o1005, o1010, o1096, o1102⟩
 refine PC.condFb f86 hb139 ?_
 refine PC.skip ?_
 have ho133 := pz ho133
 subst ho133
 exact ⟨x131, rfl, f1, f2, f5, f8, f9, f10, f11, f12, b202, b208, o1005, o1010, o1096, o1102⟩
 intro F H hI
 obtain ⟨x134, ho, f1, f2, f5, f8, f9, f10, f11, f12, b202, b208, o1005, o1010, o1096, o1102⟩ := hI
 have ho := ho.symm
 subst ho
 try dsimp only at hs123
 refine PC.region ?_
 refine Q1 _ (ja f10) ?_
 refine Q1 _ (ja f12) ?_
 refine Q3 (slI ([x134] : List Int)) (y0 (rep := I) (xs := [x134]) qj rfl (by decide) (bm (e_ (I x134)) (bm0)) rfl rfl) ?_
 obtain ⟨x135, hx135, hs123⟩ := bs hs123
 refine PL.appG (rep := I) (ys := ([x134] : List Int)) rfl rfl rfl (by decide) qj (e_ q119) o1010 (e_ (slI ([x134] : List Int))) (fun _ => rfl) (lf1 (fun _ => rfl) (fun _ => rfl)) hx135 fun q136 H o1010 fz137 => ?_
 have b202 := (fz137 202 (by decide)).trans b202
 have o1005 := o1005.mono (fz137 1005 (by decide))
 have b208 := (fz137 208 (by decide)).trans b208
 have o1096 := o1096.mono (fz137 1096 (by decide))
 have o1102 := o1102.mono (fz137 1102 (by decide))
 refine Q1 _ (jg (e_ q136)) ?_
 refine PL.nil (hK128 _ _ ?_)
 refine A7 1 f1 2 f2 5 f5 8 f8 9 f9 10 (e_ q136) 11 f11 fun F f1 f2 f5 f8 f9 f10 f11 => ?_
 refine PC.region ?_
 refine Q1 _ (ja f11) ?_
 refine Q1 _ (jj rfl (e_ (I x117)) (e_ (I 1)) j7) ?_
 refine Q1 _ (jg (e_ (I (w64 (x117 + 1))))) ?_
 refine PL.nil ?_
 have hs123 := pz hs123
 subst hs123
 exact ⟨m124, Nat.lt_succ_self _, ((w64 (x117 + 1)), x135), q136, ho120, f1, f2, f5, f8, f9, f10, (e_ (I (w64 (x117 + 1)))), b202, b208, o1005, o1010, o1096, o1102⟩
 refine PC.condFb f74 hb127 ?_
 refine PC.exit ?_
 have hs123 := pz hs123
 subst hs123
 try dsimp only at ho120
 subst ho120
 try dsimp only at ho88
 refine hK100 _ _ ?_
 refine A6 1 f1 2 f2 5 f5 8 f8 9 f9 10 f10 fun F f1 f2 f5 f8 f9 f10 => ?_
 refine PC.seq fun K142 hK142 => ?_
 refine PC.freezeL (rep := I) 10 f10 o1010 (fun _ => rfl) fun H fz143 => ?_
 have b202 := (fz143 202 (by decide)).trans b202
 have o1005 := o1005.mono (fz143 1005 (by decide))
 have b208 := (fz143 208 (by decide)).trans b208
 have o1096 := o1096.mono (fz143 1096 (by decide))
 have o1102 := o1102.mono (fz143 1102 (by decide))
 refine PC.region ?_
 refine Q1 (PV.pp 208 257 v208) (yn qt qa (by decide) f8 b208) ?_
 refine Q1 q76 (vr qa (e_ (PV.pp 208 257 v208)) b208 (zfr (m := 256) (i := 1) (jk _ _ (fun _ => rfl)) rfl)) ?_
 refine Q1 _ (ja (e_ (slI x118))) ?_
 refine Q3 (qd ([x118] : List (List Int))) (y0 (rep := slI) (xs := [x118]) J0 rfl (by decide) (bm (e_ (slI x118)) (bm0)) rfl rfl) ?_
 obtain ⟨x144, hx144, ho88⟩ := bs ho88
 refine PL.appG (rep := slI) (ys := ([x118] : List (List Int))) rfl rfl rfl (by decide) J0 (e_ q76) o1096 (e_ (qd ([x118] : List (List Int)))) (fun _ => rfl) (lf1 (fun _ => rfl) (fun _ => rfl)) hx144 fun q145 H o1096 fz146 => ?_
 have b202 := (fz146 202 (by decide)).trans b202
 have o1005 := o1005.mono (fz146 1005 (by decide))
 have b208 := (fz146 208 (by decide)).trans b208
 have o1102 := o1102.mono (fz146 1102 (by decide))
 refine Q1 (PV.pp 208 257 v208) (yn qt qa (by decide) f8 b208) ?_
 refine PL.storeA (ag := false) (cs' := (((arV (n := 256) U8) a0.ji).cells ++ [(I a0.jf), q145, q78])) (ps := [q145]) rfl rfl (fun _ h => by cases h) (e_ (PV.pp 208 257 v208)) b208 qa (e_ q145) (Yu o1096) (z1 o1096) rfl (by rw [(j2 (jk _ _ (fun _ => rfl)) rfl)]; exact Nat.le_of_ble_eq_true rfl) (zhx (m := 256) (i := 1) (jk _ _ (fun _ => rfl)) rfl) fun H b208 fz147 => ?_
 have b202 := (fz147 202 (by decide)).trans b202
 have o1005 := o1005.mono (fz147 1005 (by decide))
 have o1096 := o1096.mono (fz147 1096 (by decide))
 have o1102 := o1102.mono (fz147 1102 (by decide))
 refine PL.nil (hK142 _ _ ?_)
 refine A5 1 f1 2 f2 5 f5 8 f8 9 f9 fun F f1 f2 f5 f8 f9 => ?_
 refine PC.regionT 8 mixed (by kernel_rfl) ?_
 refine Q2 (PV.pp 208 258 v208) (yn yv qe (by decide) f8 b208) ?_
 refine Q2 q78 (vr qe (e_ (PV.pp 208 258 v208)) b208 (zfr (m := 256) (i := 2) (jk _ _ (fun _ => rfl)) rfl)) ?_
 refine Q2 (PV.rp ((jb a0).cells.drop 258)) (j1 yv qe (by decide) f1) ?_
 refine Q2 (slI a0.jl) (jy qe (e_ (PV.rp ((jb a0).cells.drop 258))) (v7 a0)) ?_
 refine Q2 _ (ja f9) ?_
 obtain ⟨x148, hx148, ho88⟩ := bs ho88
 refine Q2 (PV.rp (I x148).cells) (jz (rep := I) (xs := a0.jl) qy (e_ (slI a0.jl)) (e_ (I x74)) hx148) ?_
 refine Q2 (I x148) (qk qo (e_ (PV.rp (I x148).cells))) ?_
 refine Q4 (slI ([x148] : List Int)) (y0 (rep := I) (xs := [x148]) qj rfl (by decide) (bm (e_ (I x148)) (bm0)) rfl rfl) ?_
 refine QF.nil ?_
 obtain ⟨x149, hx149, ho88⟩ := bs ho88
 refine PL.appG (rep := I) (ys := ([x148] : List Int)) rfl rfl rfl (by decide) qj (e_ q78) o1102 (e_ (slI ([x148] : List Int))) (fun _ => rfl) (lf1 (fun _ => rfl) (fun _ => rfl)) hx149 fun q150 H o1102 fz151 => ?_
 have b202 := (fz151 202 (by decide)).trans b202
 have o1005 := o1005.mono (fz151 1005 (by decide))
 have b208 := (fz151 208 (by decide)).trans b208
 have o1096 := o1096.mono (fz151 1096 (by decide))
 refine Q1 (PV.pp 208 258 v208) (yn yv qe (by decide) f8 b208) ?_
 refine PL.storeA (ag := false) (cs' := (((arV (n := 256) U8) a0.ji).cells ++ [(I a0.jf), q145, q150])) (ps := [q150]) rfl rfl (fun _ h => by cases h) (e_ (PV.pp 208 258 v208)) b208 qe (e_ q150) (Yu o1102) (z1 o1102) rfl (by rw [(j2 (jk _ _ (fun _ => rfl)) rfl)]; exact Nat.le_of_ble_eq_true rfl) (zhx (m := 256) (i := 2) (jk _ _ (fun _ => rfl)) rfl) fun H b208 fz152 => ?_
 have b202 := (fz152 202 (by decide)).trans b202
 have o1005 := o1005.mono (fz152 1005 (by decide))
 have o1096 := o1096.mono (fz152 1096 (by decide))
 have o1102 := o1102.mono (fz152 1102 (by decide))
 refine PL.nil ?_
 have ho88 := pz ho88
 subst ho88
 exact ⟨(x144, x149), q145, q150, rfl, f1, f2, f5, f8, f9, b202, b208, o1005, o1096, o1102⟩
 intro F H hI
 obtain ⟨⟨x89, x91⟩, q90, q92, ho, f1, f2, f5, f8, f9, b202, b208, o1005, o1096, o1102⟩ := hI
 have ho := ho.symm
 subst ho
 try dsimp only at hs82
 refine PC.region ?_
 refine Q1 _ (ja f9) ?_
 refine Q1 _ (jj rfl (e_ (I x74)) (e_ (I 1)) j7) ?_
 refine Q1 _ (jg (e_ (I (w64 (x74 + 1))))) ?_
 refine PL.nil ?_
 have hs82 := pz hs82
 subst hs82
 exact ⟨m83, Nat.lt_succ_self _, ((w64 (x74 + 1)), x89, x91), q90, q92, ho79, f1, f2, f5, f8, (e_ (I (w64 (x74 + 1)))), b202, b208, o1005, o1096, o1102⟩
 refine PC.condFb f62 hb86 ?_
 refine PC.exit ?_
 have hs82 := pz hs82
 subst hs82
 try dsimp only at ho79
 subst ho79
 try dsimp only at h0
 refine hK59 _ _ ?_
 refine A2 2 f2 8 f8 fun F f2 f8 => ?_
 refine PC.seq fun K168 hK168 => ?_
 refine PC.freezeC (rep := slI) (cs' := (((arV (n := 256) U8) a0.ji).cells ++ [(I a0.jf), (qd x75), q78])) (i := 257) b208 (zis (m := 256) (i := 1) (jk _ _ (fun _ => rfl)) rfl) o1096 (fun _ => rfl) (by decide) (zi1 (m := 256) (i := 1) (jk _ _ (fun _ => rfl)) rfl) fun H b208 fz169 => ?_
 have b202 := (fz169 202 (by decide) (by decide)).trans b202
 have o1102 := o1102.mono (fz169 1102 (by decide) (by decide))
 refine PC.freezeC (rep := I) (cs' := (((arV (n := 256) U8) a0.ji).cells ++ [(I a0.jf), (qd x75), (slI x77)])) (i := 258) b208 (zis (m := 256) (i := 2) (jk _ _ (fun _ => rfl)) rfl) o1102 (fun _ => rfl) (by decide) (zi1 (m := 256) (i := 2) (jk _ _ (fun _ => rfl)) rfl) fun H b208 fz170 => ?_
 have b202 := (fz170 202 (by decide) (by decide)).trans b202
 refine PC.region ?_
 refine Q1 (jb (⟨a0.ji, a0.jf, x75, x77⟩ : je)) (vr vk f8 b208 (ym (j8 (⟨a0.ji, a0.jf, x75, x77⟩ : je)))) ?_
 refine PL.storeA (ag := true) (cs' := (((arV (n := 256) U8) ((⟨a0.ji, a0.jf, x75, x77⟩ : je).ji)).cells ++ [(I ((⟨a0.ji, a0.jf, x75, x77⟩ : je).jf)), (qd ((⟨a0.ji, a0.jf, x75, x77⟩ : je).jd)), (slI ((⟨a0.ji, a0.jf, x75, x77⟩ : je).jl))])) (ps := (((arV (n := 256) U8) ((⟨a0.ji, a0.jf, x75, x77⟩ : je).ji)).cells ++ [(I ((⟨a0.ji, a0.jf, x75, x77⟩ : je).jf)), (qd ((⟨a0.ji, a0.jf, x75, x77⟩ : je).jd)), (slI ((⟨a0.ji, a0.jf, x75, x77⟩ : je).jl))])) rfl rfl (fun _ h => by cases h) f2 b202 vk (e_ (jb (⟨a0.ji, a0.jf, x75, x77⟩ : je))) (qn _ _) rfl (j2 (jk _ _ (fun _ => rfl)) rfl) (by rw [(j2 (jk _ _ (fun _ => rfl)) rfl)]; exact Nat.le_of_ble_eq_true rfl) (vu (N := 256 + (3)) (j2 (jk _ _ (fun _ => rfl)) rfl) (j2 (jk _ _ (fun _ => rfl)) rfl)) fun H b202 fz171 => ?_
 have b208 := (fz171 208 (by decide)).trans b208
 refine PL.nil (hK168 _ _ ?_)
 refine A1 2 f2 fun F f2 => ?_
 refine PC.ret ?_
 have h0 := pz h0
 subst h0
 exact fin (p0 := (jb (⟨((⟨a0.ji, a0.jf, x75, x77⟩ : je).ji), ((⟨a0.ji, a0.jf, x75, x77⟩ : je).jf), ((⟨a0.ji, a0.jf, x75, x77⟩ : je).jd), ((⟨a0.ji, a0.jf, x75, x77⟩ : je).jl)⟩ : je))) (.inr rfl) (Y1 Tryz.results14 (zc vk f2 b202 (ym (j8 (⟨((⟨a0.ji, a0.jf, x75, x77⟩ : je).ji), ((⟨a0.ji, a0.jf, x75, x77⟩ : je).jf), ((⟨a0.ji, a0.jf, x75, x77⟩ : je).jd), ((⟨a0.ji, a0.jf, x75, x77⟩ : je).jl)⟩ : je))))) (j4 _)
def Vj (a0 : je) (a1 : je) : G Bool :=
  G.bind (G.cond (!(((!(a0.ji.1 == a1.ji.1)) || (decide (¬ a0.jf = a1.jf))) || (decide (¬ (a0.jd.length : Int) = (a1.jd.length : Int))))) (zq a0.jl a1.jl) (G.pure false)) fun x4 => G.cond ((((!(a0.ji.1 == a1.ji.1)) || (decide (¬ a0.jf = a1.jf))) || (decide (¬ (a0.jd.length : Int) = (a1.jd.length : Int)))) || (!x4)) (G.pure false) (G.bind (G.loop (σ := Int) (α := Unit ⊕ Bool) (fun x10 => G.cond (decide (x10 < (a0.jd.length : Int))) (G.bind (G.lift (idx a0.jd x10)) fun x21 => G.bind (G.lift (idx a1.jd x10)) fun x22 => G.bind (zq x21 x22) fun x23 => G.cond (!x23) (G.pure (.inr (.inr false))) (G.pure (.inl (w64 (x10 + 1))))) (G.pure (.inr (.inl ())))) 0) fun o => match o with | .inl () => G.pure true | .inr r28 => G.pure r28)
theorem zhf {nn : Nat} {a0 : je} {a1 : je} {r : Bool} (h0 : Vj a0 a1 nn = some r) : PCall Tryz.prog 12 [jb a0, jb a1] (· = B r) := by
 unfold Vj at h0
 refine PCall.intro' Tryz.func12 rfl Tryz.ntmps12 (by simp) fun W => ?_
 refine A2 0 (e_ (jb a0)) 1 (e_ (jb a1)) fun F f0 f1 => ?_
 generalize PHeap.empty = H
 refine SR fun K1 hK1 => ?_
 refine Q3 (PV.rp (jb a0).cells) (zi f0 (qn _ _)) ?_
 refine Q3 (PV.rp (jb a1).cells) (zi f1 (qn _ _)) ?_
 refine Q1 _ (jg (e_ (B false))) ?_
 refine PL.nil (hK1 _ _ ?_)
 refine A2 2 (e_ (PV.rp (jb a0).cells)) 3 (e_ (PV.rp (jb a1).cells)) fun F f2 f3 => ?_
 refine PC.seq fun K2 hK2 => ?_
 refine SR fun K3 hK3 => ?_
 refine Q1 (PV.rp ((jb a0).cells.drop 0)) (j1 Qc yq (by decide) f2) ?_
 refine Q1 ((arV (n := 256) U8) a0.ji) (jy yq (e_ (PV.rp ((jb a0).cells.drop 0))) (yx a0)) ?_
 refine Q1 (PV.rp ((jb a1).cells.drop 0)) (j1 Qc yq (by decide) f3) ?_
 refine Q1 ((arV (n := 256) U8) a1.ji) (jy yq (e_ (PV.rp ((jb a1).cells.drop 0))) (yx a1)) ?_
 refine Q3 (B (!(a0.ji.1 == a1.ji.1))) (znp (e := 5) (kd := .u8) (rep := U8) (fun _ => rfl) (by kernel_rfl) (by kernel_rfl) (fun _ => by kernel_rfl) (by kernel_rfl) a0.ji a1.ji (e_ ((arV (n := 256) U8) a0.ji)) (e_ ((arV (n := 256) U8) a1.ji))) ?_
 refine Q1 _ (ja (e_ (B (!(a0.ji.1 == a1.ji.1))))) ?_
 refine GF (PV.rp ((jb a0).cells.drop 256)) rfl (e_ (B (!(a0.ji.1 == a1.ji.1)))) (fun hb => j1 zn qo (by decide) f2) ?_
 refine GF (I a0.jf) rfl (e_ (B (!(a0.ji.1 == a1.ji.1)))) (fun hb => jy qo (gvp hb (e_ (gv (!(!(a0.ji.1 == a1.ji.1))) (PV.rp ((jb a0).cells.drop 256))))) (ya a0)) ?_
 refine GF (PV.rp ((jb a1).cells.drop 256)) rfl (e_ (B (!(a0.ji.1 == a1.ji.1)))) (fun hb => j1 zn qo (by decide) f3) ?_
 refine GF (I a1.jf) rfl (e_ (B (!(a0.ji.1 == a1.ji.1)))) (fun hb => jy qo (gvp hb (e_ (gv (!(!(a0.ji.1 == a1.ji.1))) (PV.rp ((jb a1).cells.drop 256))))) (ya a1)) ?_
 refine GF (B (decide (¬ a0.jf = a1.jf))) rfl (e_ (B (!(a0.ji.1 == a1.ji.1)))) (fun hb => jj rfl (gvp hb (e_ (gv (!(!(a0.ji.1 == a1.ji.1))) (I a0.jf)))) (gvp hb (e_ (gv (!(!(a0.ji.1 == a1.ji.1))) (I a1.jf)))) yc) ?_
 refine Q1 (B ((!(a0.ji.1 == a1.ji.1)) || (decide (¬ a0.jf = a1.jf)))) (yi (e_ (B (!(a0.ji.1 == a1.ji.1)))) rfl (e_ (gv (!(!(a0.ji.1 == a1.ji.1))) (B (decide (¬ a0.jf = a1.jf)))))) ?_
 refine Q1 _ (ja (e_ (B ((!(a0.ji.1 == a1.ji.1)) || (decide (¬ a0.jf = a1.jf)))))) ?_
 refine GF (PV.rp ((jb a0).cells.drop 257)) rfl (e_ (B ((!(a0.ji.1 == a1.ji.1)) || (decide (¬ a0.jf = a1.jf))))) (fun hb => j1 qt qa (by decide) f2) ?_
 refine GF (qd a0.jd) rfl (e_ (B ((!(a0.ji.1 == a1.ji.1)) || (decide (¬ a0.jf = a1.jf))))) (fun hb => jy qa (gvp hb (e_ (gv (!((!(a0.ji.1 == a1.ji.1)) || (decide (¬ a0.jf = a1.jf)))) (PV.rp ((jb a0).cells.drop 257))))) (qb a0)) ?_
 refine GF (I (a0.jd.length : Int)) rfl (e_ (B ((!(a0.ji.1 == a1.ji.1)) || (decide (¬ a0.jf = a1.jf))))) (fun hb => qh (rep := slI) (xs := a0.jd) qx (gvp hb (e_ (gv (!((!(a0.ji.1 == a1.ji.1)) || (decide (¬ a0.jf = a1.jf)))) (qd a0.jd))))) ?_
 refine GF (PV.rp ((jb a1).cells.drop 257)) rfl (e_ (B ((!(a0.ji.1 == a1.ji.1)) || (decide (¬ a0.jf = a1.jf))))) (fun hb => j1 qt qa (by decide) f3) ?_
 refine GF (qd a1.jd) rfl (e_ (B ((!(a0.ji.1 == a1.ji.1)) || (decide (¬ a0.jf = a1.jf))))) (fun hb => jy qa (gvp hb (e_ (gv (!((!(a0.ji.1 == a1.ji.1)) || (decide (¬ a0.jf = a1.jf)))) (PV.rp ((jb a1).cells.drop 257))))) (qb a1)) ?_
 refine GF (I (a1.jd.length : Int)) rfl (e_ (B ((!(a0.ji.1 == a1.ji.1)) || (decide (¬ a0.jf = a1.jf))))) (fun hb => qh (rep := slI) (xs := a1.jd) qx (gvp hb (e_ (gv (!((!(a0.ji.1 == a1.ji.1)) || (decide (¬ a0.jf = a1.jf)))) (qd a1.jd))))) ?_
 refine GF (B (decide (¬ (a0.jd.length : Int) = (a1.jd.length : Int)))) rfl (e_ (B ((!(a0.ji.1 == a1.ji.1)) || (decide (¬ a0.jf = a1.jf))))) (fun hb => jj rfl (gvp hb (e_ (gv (!((!(a0.ji.1 == a1.ji.1)) || (decide (¬ a0.jf = a1.jf)))) (I (a0.jd.length : Int))))) (gvp hb (e_ (gv (!((!(a0.ji.1 == a1.ji.1)) || (decide (¬ a0.jf = a1.jf)))) (I (a1.jd.length : Int))))) yc) ?_
 refine Q1 (B (((!(a0.ji.1 == a1.ji.1)) || (decide (¬ a0.jf = a1.jf))) || (decide (¬ (a0.jd.length : Int) = (a1.jd.length : Int))))) (yi (e_ (B ((!(a0.ji.1 == a1.ji.1)) || (decide (¬ a0.jf = a1.jf))))) rfl (e_ (gv (!((!(a0.ji.1 == a1.ji.1)) || (decide (¬ a0.jf = a1.jf)))) (B (decide (¬ (a0.jd.length : Int) = (a1.jd.length : Int))))))) ?_
 refine Q1 _ (ja (e_ (B (((!(a0.ji.1 == a1.ji.1)) || (decide (¬ a0.jf = a1.jf))) || (decide (¬ (a0.jd.length : Int) = (a1.jd.length : Int))))))) ?_
 refine GF (PV.rp ((jb a0).cells.drop 258)) rfl (e_ (B (((!(a0.ji.1 == a1.ji.1)) || (decide (¬ a0.jf = a1.jf))) || (decide (¬ (a0.jd.length : Int) = (a1.jd.length : Int)))))) (fun hb => j1 yv qe (by decide) f2) ?_
 refine GF (slI a0.jl) rfl (e_ (B (((!(a0.ji.1 == a1.ji.1)) || (decide (¬ a0.jf = a1.jf))) || (decide (¬ (a0.jd.length : Int) = (a1.jd.length : Int)))))) (fun hb => jy qe (gvp hb (e_ (gv (!(((!(a0.ji.1 == a1.ji.1)) || (decide (¬ a0.jf = a1.jf))) || (decide (¬ (a0.jd.length : Int) = (a1.jd.length : Int))))) (PV.rp ((jb a0).cells.drop 258))))) (v7 a0)) ?_
 refine GF (PV.rp ((jb a1).cells.drop 258)) rfl (e_ (B (((!(a0.ji.1 == a1.ji.1)) || (decide (¬ a0.jf = a1.jf))) || (decide (¬ (a0.jd.length : Int) = (a1.jd.length : Int)))))) (fun hb => j1 yv qe (by decide) f3) ?_
 refine GF (slI a1.jl) rfl (e_ (B (((!(a0.ji.1 == a1.ji.1)) || (decide (¬ a0.jf = a1.jf))) || (decide (¬ (a0.jd.length : Int) = (a1.jd.length : Int)))))) (fun hb => jy qe (gvp hb (e_ (gv (!(((!(a0.ji.1 == a1.ji.1)) || (decide (¬ a0.jf = a1.jf))) || (decide (¬ (a0.jd.length : Int) = (a1.jd.length : Int))))) (PV.rp ((jb a1).cells.drop 258))))) (v7 a1)) ?_
 obtain ⟨x4, hx4, h0⟩ := bs h0
 refine GFq (B x4) rfl (e_ (B (((!(a0.ji.1 == a1.ji.1)) || (decide (¬ a0.jf = a1.jf))) || (decide (¬ (a0.jd.length : Int) = (a1.jd.length : Int)))))) (fun hb => j5 (by kernel_rfl) (am (gvp hb (e_ (gv (!(((!(a0.ji.1 == a1.ji.1)) || (decide (¬ a0.jf = a1.jf))) || (decide (¬ (a0.jd.length : Int) = (a1.jd.length : Int))))) (slI a0.jl)))) (am (gvp hb (e_ (gv (!(((!(a0.ji.1 == a1.ji.1)) || (decide (¬ a0.jf = a1.jf))) || (decide (¬ (a0.jd.length : Int) = (a1.jd.length : Int))))) (slI a1.jl)))) (am0))) (js (v6 _) (js (v6 _) (j9))) (Vk (G.cond_pos hx4 hb))) ?_
 refine GF (B (!x4)) rfl (e_ (B (((!(a0.ji.1 == a1.ji.1)) || (decide (¬ a0.jf = a1.jf))) || (decide (¬ (a0.jd.length : Int) = (a1.jd.length : Int)))))) (fun hb => yk (gvp hb (e_ (gv (!(((!(a0.ji.1 == a1.ji.1)) || (decide (¬ a0.jf = a1.jf))) || (decide (¬ (a0.jd.length : Int) = (a1.jd.length : Int))))) (B x4))))) ?_
 refine Q1 (B ((((!(a0.ji.1 == a1.ji.1)) || (decide (¬ a0.jf = a1.jf))) || (decide (¬ (a0.jd.length : Int) = (a1.jd.length : Int)))) || (!x4))) (yi (e_ (B (((!(a0.ji.1 == a1.ji.1)) || (decide (¬ a0.jf = a1.jf))) || (decide (¬ (a0.jd.length : Int) = (a1.jd.length : Int)))))) rfl (e_ (gv (!(((!(a0.ji.1 == a1.ji.1)) || (decide (¬ a0.jf = a1.jf))) || (decide (¬ (a0.jd.length : Int) = (a1.jd.length : Int))))) (B (!x4))))) ?_
 refine PL.nil (hK3 _ _ ?_)
 refine A3 2 f2 3 f3 34 (e_ (B ((((!(a0.ji.1 == a1.ji.1)) || (decide (¬ a0.jf = a1.jf))) || (decide (¬ (a0.jd.length : Int) = (a1.jd.length : Int)))) || (!x4)))) fun F f2 f3 f34 => ?_
 rcases cz h0 with ⟨hb5, h0⟩ | ⟨hb5, h0⟩
 refine PC.condTb f34 hb5 ?_
 refine SR fun K6 hK6 => ?_
 refine Q1 _ (jg (e_ (B false))) ?_
 refine PL.nil (hK6 _ _ ?_)
 refine A1 4 (e_ (B false)) fun F f4 => ?_
 refine PC.ret ?_
 have h0 := pz h0
 subst h0
 exact fin (.inr rfl) (qc Tryz.results12 f4) (.u _)
 refine PC.condFb f34 hb5 ?_
 refine PC.skip ?_
 refine hK2 _ _ ?_
 refine A2 2 f2 3 f3 fun F f2 f3 => ?_
 refine PC.seq fun K7 hK7 => ?_
 refine SR fun K8 hK8 => ?_
 refine Q1 _ (jg (e_ (I 0))) ?_
 refine PL.nil (hK8 _ _ ?_)
 refine A3 2 f2 3 f3 5 (e_ (I 0)) fun F f2 f3 f5 => ?_
 refine PC.block ?_
 obtain ⟨o11, ho11, h0⟩ := bs h0
 obtain ⟨B12, hB12, ho11⟩ := G.loop_some ho11
 refine PC.loop (fun m15 F H => ∃ s29 : Int, qu B12 m15 s29 = some o11 ∧ F 2 = (PV.rp (jb a0).cells) ∧ F 3 = (PV.rp (jb a1).cells) ∧ F 5 = (I s29)) (m := nn) ⟨0, ho11, f2, f3, f5⟩ fun m15 F H hI => ?_
 obtain ⟨x10, ho11, f2, f3, f5⟩ := hI
 obtain ⟨m15, rfl, st13, hs14, ho11⟩ := jx ho11
 rw [hB12] at hs14
 try dsimp only at hs14
 refine PC.seq fun K16 hK16 => ?_
 refine SR fun K17 hK17 => ?_
 refine Q1 _ (ja f5) ?_
 refine Q1 (PV.rp ((jb a0).cells.drop 257)) (j1 qt qa (by decide) f2) ?_
 refine Q1 (qd a0.jd) (jy qa (e_ (PV.rp ((jb a0).cells.drop 257))) (qb a0)) ?_
 refine Q1 (I (a0.jd.length : Int)) (qh (rep := slI) (xs := a0.jd) qx (e_ (qd a0.jd))) ?_
 refine Q1 _ (jj rfl (e_ (I x10)) (e_ (I (a0.jd.length : Int))) jw) ?_
 refine PL.nil (hK17 _ _ ?_)
 refine A4 2 f2 3 f3 5 f5 39 (e_ (B (decide (x10 < (a0.jd.length : Int))))) fun F f2 f3 f5 f39 => ?_
 rcases cz hs14 with ⟨hb18, hs14⟩ | ⟨hb18, hs14⟩
 refine PC.condTb f39 hb18 ?_
 refine PC.skip ?_
 refine hK16 _ _ ?_
 refine A3 2 f2 3 f3 5 f5 fun F f2 f3 f5 => ?_
 refine PC.seq fun K19 hK19 => ?_
 refine PC.block ?_
 refine PC.seq fun K20 hK20 => ?_
 refine PC.regionQ mixed (by kernel_rfl) ?_
 refine Q2 (PV.rp ((jb a0).cells.drop 257)) (j1 qt qa (by decide) f2) ?_
 refine Q2 (qd a0.jd) (jy qa (e_ (PV.rp ((jb a0).cells.drop 257))) (qb a0)) ?_
 refine Q2 _ (ja f5) ?_
 obtain ⟨x21, hx21, hs14⟩ := bs hs14
 refine Q2 (PV.rp (slI x21).cells) (jz (rep := slI) (xs := a0.jd) zw (e_ (qd a0.jd)) (e_ (I x10)) hx21) ?_
 refine Q2 (slI x21) (qk qe (e_ (PV.rp (slI x21).cells))) ?_
 refine Q2 (PV.rp ((jb a1).cells.drop 257)) (j1 qt qa (by decide) f3) ?_
 refine Q2 (qd a1.jd) (jy qa (e_ (PV.rp ((jb a1).cells.drop 257))) (qb a1)) ?_
 refine Q2 _ (ja f5) ?_
 obtain ⟨x22, hx22, hs14⟩ := bs hs14
 refine Q2 (PV.rp (slI x22).cells) (jz (rep := slI) (xs := a1.jd) zw (e_ (qd a1.jd)) (e_ (I x10)) hx22) ?_
 refine Q2 (slI x22) (qk qe (e_ (PV.rp (slI x22).cells))) ?_
 obtain ⟨x23, hx23, hs14⟩ := bs hs14
 refine Q4 (B x23) (j5 (by kernel_rfl) (am (e_ (slI x21)) (am (e_ (slI x22)) (am0))) (js (v6 _) (js (v6 _) (j9))) (Vk hx23)) ?_
 refine Q2 (B (!x23)) (yk (e_ (B x23))) ?_
 refine QF.nil ?_
 refine hK20 _ _ ?_
 refine A4 2 f2 3 f3 5 f5 53 (e_ (B (!x23))) fun F f2 f3 f5 f53 => ?_
 rcases cz hs14 with ⟨hb24, hs14⟩ | ⟨hb24, hs14⟩
 refine PC.condTb f53 hb24 ?_
 refine SR fun K25 hK25 => ?_
 refine Q1 _ (jg (e_ (B false))) ?_
 refine PL.nil (hK25 _ _ ?_)
 refine A1 4 (e_ (B false)) fun F f4 => ?_
 have hs14 := pz hs14
 subst hs14
 try dsimp only at ho11
 subst ho11
 try dsimp only at h0
 refine PC.ret ?_
 have h0 := pz h0
 subst h0
 exact fin (.inr rfl) (qc Tryz.results12 f4) (.u _)
 refine PC.condFb f53 hb24 ?_
 refine PC.skip ?_
 refine hK19 _ _ ?_
 refine A3 2 f2 3 f3 5 f5 fun F f2 f3 f5 => ?_
 refine PC.region ?_
 refine Q1 _ (ja f5) ?_
 refine Q1 _ (jj rfl (e_ (I x10)) (e_ (I 1)) j7) ?_
 refine Q1 _ (jg (e_ (I (w64 (x10 + 1))))) ?_
 refine PL.nil ?_
 have hs14 := pz hs14
 subst hs14
 exact ⟨m15, Nat.lt_succ_self _, (w64 (x10 + 1)), ho11, f2, f3, (e_ (I (w64 (x10 + 1))))⟩
 refine PC.condFb f39 hb18 ?_
 refine PC.exit ?_
 have hs14 := pz hs14
 subst hs14
 try dsimp only at ho11
 subst ho11
 try dsimp only at h0
 refine hK7 _ _ ?_
 refine PC.absF (fun F => True) trivial ?_
 intro F hI
 clear hI
 refine SR fun K26 hK26 => ?_
 refine Q1 _ (jg (e_ (B true))) ?_
 refine PL.nil (hK26 _ _ ?_)
 refine A1 4 (e_ (B true)) fun F f4 => ?_
 refine PC.ret ?_
 have h0 := pz h0
 subst h0
 exact fin (.inr rfl) (qc Tryz.results12 f4) (.u _)
def g_law15_LiveTells (a0 : je) : G Bool :=
  G.bind (Qz a0) fun x4 => G.cond ((!x4) || (decide (60 < (a0.jd.length : Int)))) (G.bind (J6) fun x7 => G.pure x7) (G.bind (zz a0) fun x9 => G.bind (zl a0) fun x10 => G.bind (y3 x9 x10) fun x11 => G.bind (G.cond x11 (Qm a0) (G.pure [])) fun x12 => G.bind (G.cond x11 (Jg a0) (G.pure [])) fun x13 => G.bind (G.cond x11 (y3 x12 x13) (G.pure false)) fun x14 => G.bind (G.cond (x11 && x14) (Vd a0) (G.pure (⟨(arZ 256 0), 0, [], []⟩))) fun x15 => G.bind (G.cond (x11 && x14) (Vm a0) (G.pure (⟨(arZ 256 0), 0, [], []⟩))) fun x16 => G.bind (G.cond (x11 && x14) (Vj x15 x16) (G.pure false)) fun x17 => G.bind (G.cond ((x11 && x14) && x17) (J6) (G.pure false)) fun x18 => G.pure (((x11 && x14) && x17) && x18))
theorem g_law15_LiveTells_w {nn : Nat} {a0 : je} {r : Bool} (h0 : g_law15_LiveTells a0 nn = some r) : PCall Tryz.prog 3 [jb a0] (· = B r) := by
 unfold g_law15_LiveTells at h0
 refine PCall.intro' Tryz.func3 rfl Tryz.ntmps3 (by simp) fun W => ?_
 refine A1 0 (e_ (jb a0)) fun F f0 => ?_
 generalize PHeap.empty = H
 refine SR fun K1 hK1 => ?_
 refine Q3 (PV.rp (jb a0).cells) (zi f0 (qn _ _)) ?_
 refine Q1 _ (jg (e_ (B false))) ?_
 refine PL.nil (hK1 _ _ ?_)
 refine A1 1 (e_ (PV.rp (jb a0).cells)) fun F f1 => ?_
 refine PC.seq fun K2 hK2 => ?_
 refine SR fun K3 hK3 => ?_
 refine Q1 (jb a0) (vt vk f1 (j8 _)) ?_
 obtain ⟨x4, hx4, h0⟩ := bs h0
 refine Q3 (B x4) (j5 (by kernel_rfl) (am (e_ (jb a0)) (am0)) (js (j4 _) (j9)) (zf3 hx4)) ?_
 refine Q1 (B (!x4)) (yk (e_ (B x4))) ?_
 refine Q1 _ (ja (e_ (B (!x4)))) ?_
 refine GF (PV.rp ((jb a0).cells.drop 257)) rfl (e_ (B (!x4))) (fun hb => j1 qt qa (by decide) f1) ?_
 refine GF (qd a0.jd) rfl (e_ (B (!x4))) (fun hb => jy qa (gvp hb (e_ (gv (!(!x4)) (PV.rp ((jb a0).cells.drop 257))))) (qb a0)) ?_
 refine GF (I (a0.jd.length : Int)) rfl (e_ (B (!x4))) (fun hb => qh (rep := slI) (xs := a0.jd) qx (gvp hb (e_ (gv (!(!x4)) (qd a0.jd))))) ?_
 refine GF (B (decide (60 < (a0.jd.length : Int)))) rfl (e_ (B (!x4))) (fun hb => jj rfl (gvp hb (e_ (gv (!(!x4)) (I (a0.jd.length : Int))))) (e_ (I 60)) Qu) ?_
 refine Q1 (B ((!x4) || (decide (60 < (a0.jd.length : Int))))) (yi (e_ (B (!x4))) rfl (e_ (gv (!(!x4)) (B (decide (60 < (a0.jd.length : Int))))))) ?_
 refine PL.nil (hK3 _ _ ?_)
 refine A2 1 f1 11 (e_ (B ((!x4) || (decide (60 < (a0.jd.length : Int)))))) fun F f1 f11 => ?_
 rcases cz h0 with ⟨hb5, h0⟩ | ⟨hb5, h0⟩
 refine PC.condTb f11 hb5 ?_
 refine SR fun K6 hK6 => ?_
 obtain ⟨x7, hx7, h0⟩ := bs h0
 refine Q3 (B x7) (j5 (by kernel_rfl) (am0) (j9) (zbl hx7)) ?_
 refine Q1 _ (jg (e_ (B x7))) ?_
 refine PL.nil (hK6 _ _ ?_)
 refine A1 2 (e_ (B x7)) fun F f2 => ?_
 refine PC.ret ?_
 have h0 := pz h0
 subst h0
 exact fin (.inr rfl) (qc Tryz.results3 f2) (.u _)
 refine PC.condFb f11 hb5 ?_
 refine PC.skip ?_
 refine hK2 _ _ ?_
 refine A1 1 f1 fun F f1 => ?_
 refine PC.seq fun K8 hK8 => ?_
 refine PC.regionQ mixed (by kernel_rfl) ?_
 refine Q2 (jb a0) (vt vk f1 (j8 _)) ?_
 obtain ⟨x9, hx9, h0⟩ := bs h0
 refine Q4 (slB x9) (j5 (by kernel_rfl) (am (e_ (jb a0)) (am0)) (js (j4 _) (j9)) (V1 hx9)) ?_
 refine Q2 (jb a0) (vt vk f1 (j8 _)) ?_
 obtain ⟨x10, hx10, h0⟩ := bs h0
 refine Q4 (slB x10) (j5 (by kernel_rfl) (am (e_ (jb a0)) (am0)) (js (j4 _) (j9)) (Z9 hx10)) ?_
 obtain ⟨x11, hx11, h0⟩ := bs h0
 refine Q4 (B x11) (j5 (by kernel_rfl) (am (e_ (slB x9)) (am (e_ (slB x10)) (am0))) (js (Yi _) (js (Yi _) (j9))) (Y4 hx11)) ?_
 refine Q2 _ (ja (e_ (B x11))) ?_
 refine HT (jb a0) rfl (e_ (B x11)) (fun hb => vt vk f1 (j8 _)) ?_
 obtain ⟨x12, hx12, h0⟩ := bs h0
 refine HTq (slB x12) rfl (e_ (B x11)) (fun hb => j5 (by kernel_rfl) (am (gvp hb (e_ (gv x11 (jb a0)))) (am0)) (js (j4 _) (j9)) (zci (G.cond_pos hx12 hb))) ?_
 refine HT (jb a0) rfl (e_ (B x11)) (fun hb => vt vk f1 (j8 _)) ?_
 obtain ⟨x13, hx13, h0⟩ := bs h0
 refine HTq (slB x13) rfl (e_ (B x11)) (fun hb => j5 (by kernel_rfl) (am (gvp hb (e_ (gv x11 (jb a0)))) (am0)) (js (j4 _) (j9)) (zbo (G.cond_pos hx13 hb))) ?_
 obtain ⟨x14, hx14, h0⟩ := bs h0
 refine HTq (B x14) rfl (e_ (B x11)) (fun hb => j5 (by kernel_rfl) (am (gvp hb (e_ (gv x11 (slB x12)))) (am (gvp hb (e_ (gv x11 (slB x13)))) (am0))) (js (Yi _) (js (Yi _) (j9))) (Y4 (G.cond_pos hx14 hb))) ?_
 refine Q2 (B (x11 && x14)) (vz (e_ (B x11)) (e_ (gv x11 (B x14))) rfl) ?_
 refine Q2 _ (ja (e_ (B (x11 && x14)))) ?_
 refine HT (jb a0) rfl (e_ (B (x11 && x14))) (fun hb => vt vk f1 (j8 _)) ?_
 obtain ⟨x15, hx15, h0⟩ := bs h0
 refine HTq (jb x15) rfl (e_ (B (x11 && x14))) (fun hb => j5 (by kernel_rfl) (am (gvp hb (e_ (gv (x11 && x14) (jb a0)))) (am0)) (js (j4 _) (j9)) (zc7 (G.cond_pos hx15 hb))) ?_
 refine HT (jb a0) rfl (e_ (B (x11 && x14))) (fun hb => vt vk f1 (j8 _)) ?_
 obtain ⟨x16, hx16, h0⟩ := bs h0
 refine HTq (jb x16) rfl (e_ (B (x11 && x14))) (fun hb => j5 (by kernel_rfl) (am (gvp hb (e_ (gv (x11 && x14) (jb a0)))) (am0)) (js (j4 _) (j9)) (zhm (G.cond_pos hx16 hb))) ?_
 obtain ⟨x17, hx17, h0⟩ := bs h0
 refine HTq (B x17) rfl (e_ (B (x11 && x14))) (fun hb => j5 (by kernel_rfl) (am (gvp hb (e_ (gv (x11 && x14) (jb x15)))) (am (gvp hb (e_ (gv (x11 && x14) (jb x16)))) (am0))) (js (j4 _) (js (j4 _) (j9))) (zhf (G.cond_pos hx17 hb))) ?_
 refine Q2 (B ((x11 && x14) && x17)) (vz (e_ (B (x11 && x14))) (e_ (gv (x11 && x14) (B x17))) rfl) ?_
 refine Q2 _ (ja (e_ (B ((x11 && x14) && x17)))) ?_
 obtain ⟨x18, hx18, h0⟩ := bs h0
 refine HTq (B x18) rfl (e_ (B ((x11 && x14) && x17))) (fun hb => j5 (by kernel_rfl) (am0) (j9) (zbl (G.cond_pos hx18 hb))) ?_
 refine Q2 (B (((x11 && x14) && x17) && x18)) (vz (e_ (B ((x11 && x14) && x17))) (e_ (gv ((x11 && x14) && x17) (B x18))) rfl) ?_
 refine Q2 _ (jg (e_ (B (((x11 && x14) && x17) && x18)))) ?_
 refine QF.nil ?_
 refine hK8 _ _ ?_
 refine A1 2 (e_ (B (((x11 && x14) && x17) && x18))) fun F f2 => ?_
 refine PC.ret ?_
 have h0 := pz h0
 subst h0
 exact fin (.inr rfl) (qc Tryz.results3 f2) (.u _)
end Go.Proofs.YtpohfkgjghiofaaGreat

namespace Go.Proofs.YtpohfkgjghiofaaGreat
open Go Go.RowKit L
set_option linter.unusedVariables false
set_option linter.unusedSimpArgs false
def ziu (l : List Int) : Prop := ∀ x ∈ l, 0 ≤ x ∧ x < 256
theorem zc0 {x : Int} (h0 : -9223372036854775808 ≤ x) (h1 : x ≤ 9223372036854775807) : w64 x = x := zkf h0 h1
theorem zgi (a : Arr 256 Int) (ha : ziu a.1) : Tot (Qv a) (· = V5 0 a.1) := by
  unfold Qv
  refine Tot.bind ?_
  refine Tot.forC (fun s => s.2) 256 (fun k s => s.2 = (k : Int) ∧ 0 ≤ s.1 ∧ s.1 ≤ (k : Int) ∧ V5 0 a.1 = V5 s.1 (a.1.drop k)) (fun k s h => h.1) ?_ ?_ ⟨rfl, by decide, by decide, by simp⟩
  · rintro k ⟨n, i⟩ hk ⟨h1, h2, h3, h4⟩
    simp only at h1 h2 h3 h4 ⊢
    subst h1
    have hkl : k < a.1.length := by rw [a.2]; exact hk
    have hb := ha _ (List.getElem_mem hkl)
    have hd : a.1.drop k = a.1[k] :: a.1.drop (k + 1) := List.drop_eq_getElem_cons hkl
    have hix : idx a.1 (k : Int) = some a.1[k] := za4 (List.getElem?_eq_getElem hkl)
    have hw : w64 a.1[k] = a.1[k] := zc0 (by omega) (by omega)
    have hwn : w64 (n + 1) = n + 1 := zc0 (by omega) (by omega)
    have hwk : w64 ((k : Int) + 1) = ((k + 1 : Nat) : Int) := qw (by omega)
    rw [hd] at h4
    simp only [V5] at h4
    have hdec : decide ((k : Int) < 256) = true := by simp; omega
    rw [hdec, G.ct]
    refine Tot.bindE (a := if n < a.1[k] then Sum.inr false else Sum.inl (if a.1[k] = n then n + 1 else n)) ?_ ?_
    · refine Tot.bind (Tot.lift hix ?_)
      rw [hw]
      refine Tot.cond (fun hb1 => Tot.pure ?_) fun hb1 => ?_
      · simp only [decide_eq_true_eq] at hb1; rw [if_pos hb1]
      · simp only [decide_eq_false_iff_not] at hb1
        rw [if_neg hb1]
        refine Tot.bind (Tot.lift hix ?_)
        rw [hw]
        refine Tot.cond (fun hb2 => Tot.pure ?_) fun hb2 => Tot.pure ?_
        · simp only [decide_eq_true_eq] at hb2; rw [if_pos hb2, hwn]
        · simp only [decide_eq_false_iff_not] at hb2; rw [if_neg hb2]
    · by_cases hlt : n < a.1[k]
      · rw [if_pos hlt] at h4 ⊢
        exact Tot.pure (Tot.pure h4.symm)
      · rw [if_neg hlt] at h4 ⊢
        refine Tot.pure ⟨hwk, ?_, ?_, h4⟩
        · split <;> omega
        · split <;> omega
  · rintro ⟨n, i⟩ ⟨h1, h2, h3, h4⟩
    simp only at h1 h2 h3 h4 ⊢
    subst h1
    refine Tot.pure (Tot.pure ?_)
    rw [h4, List.drop_of_length_le (by rw [a.2]; exact Nat.le_refl _)]; rfl
end Go.Proofs.YtpohfkgjghiofaaGreat

namespace Go.Proofs.YtpohfkgjghiofaaGreat
open Go Go.RowKit L
set_option linter.unusedVariables false
set_option linter.unusedSimpArgs false
theorem zn3 : ((List.range 256).all fun b => Zn (arZ 4 0) (b : Int) 0 == some false) = true := by kernel_rfl
theorem zmk {b : Nat} (hb : b < 256) : Tot (Zn (arZ 4 0) (b : Int)) (· = false) := ⟨false, 0, fun n _ => by
  have := List.all_eq_true.1 zn3 b (List.mem_range.2 hb)
  exact beq_iff_eq.1 this, rfl⟩
def Yx (x : Int) : List Int → Option Nat
  | [] => none
  | y :: ys => if y = x then some 0 else (Yx x ys).map (· + 1)
def zcs (m : List Int) : List Int → List Int
  | [] => []
  | x :: xs => match Yx x m with
    | some j => (j : Int) :: zcs m xs
    | none => (m.length : Int) :: zcs (m ++ [x]) xs
def Y5 : Nat → List Int → List (jm × Int)
  | _, [] => []
  | j, c :: cs => (⟨c, false⟩, (j : Int)) :: Y5 (j + 1) cs
theorem zem : ∀ (j : Nat) (m : List Int), (Y5 j m).length = m.length
  | _, [] => rfl
  | j, c :: cs => by simp [Y5, zem (j + 1) cs]
theorem zea : ∀ (j : Nat) (m : List Int) (c : Int), Y5 j (m ++ [c]) = Y5 j m ++ [(⟨c, false⟩, ((j + m.length : Nat) : Int))]
  | _, [], _ => rfl
  | j, d :: cs, c => by
    simp only [List.cons_append, Y5, zea (j + 1) cs c, List.length_cons]
    rw [show j + 1 + cs.length = j + (cs.length + 1) by omega]
theorem zdk (x : Int) : ∀ (j i : Nat) (m : List Int), Zz (fun a b => (j6 a b).all id) (⟨x, false⟩ : jm) (Y5 j m) i = (Yx x m).map fun p => (i + p, ((j + p : Nat) : Int))
  | _, _, [] => rfl
  | j, i, c :: cs => by
    simp only [Y5, Zz, Yx]
    have e : ((j6 ⟨x, false⟩ ⟨c, false⟩).all id) = decide (x = c) := by
      simp [j6, BEq.beq]
    rw [e]
    by_cases h : c = x
    · subst h; simp
    · have h2 : ¬ x = c := fun e => h e.symm
      simp only [h, h2, decide_false, if_false, zdk x (j + 1) (i + 1) cs]
      cases Yx x cs with
      | none => rfl
      | some p => simp; omega
theorem ze4 {x : Int} : ∀ {m : List Int}, Yx x m = none → Yx x (m ++ [x]) = some m.length
  | [], _ => by simp [Yx]
  | c :: cs, h => by
    simp only [Yx] at h
    split at h
    · cases h
    · rename_i hc
      have h2 : Yx x cs = none := by cases hp : Yx x cs <;> simp [hp] at h ⊢
      simp only [List.cons_append, Yx, if_neg hc, ze4 h2, Option.map_some, List.length_cons]
theorem zey (x : Int) (m : List Int) : Qq (fun a b => (j6 a b).all id) (Y5 0 m) (⟨x, false⟩ : jm) = (Yx x m).map fun p => (p : Int) := by
  unfold Qq
  rw [zdk x 0 0 m]
  cases Yx x m with
  | none => rfl
  | some p => simp
theorem zl6 (a : Arr 256 Int) : Tot (Vn a (arZ 4 0)) (fun r => r.1 = zcs [] a.1) := by
  unfold Vn
  refine Tot.bind ?_
  refine Tot.forC (fun s => s.1) 256 (fun k s => s.1 = (k : Int) ∧ ∃ m done, s.2.2 = Y5 0 m ∧ m.length ≤ k ∧ s.2.1.1 = done ++ a.1.drop k ∧ done.length = k ∧ done ++ zcs m (a.1.drop k) = zcs [] a.1) (fun k s h => h.1) ?_ ?_ ⟨rfl, [], [], rfl, Nat.le_refl _, by simp, rfl, by simp⟩
  · rintro k ⟨i, b, mp⟩ hk ⟨h1, m, done, h2, h3, h4, h5, h6⟩
    simp only at h1 h2 h4 ⊢
    subst h1; subst h2
    have hkl : k < a.1.length := by rw [a.2]; exact hk
    have hd : a.1.drop k = a.1[k] :: a.1.drop (k + 1) := List.drop_eq_getElem_cons hkl
    rw [hd] at h4 h6
    have hix : idx b.1 (k : Int) = some a.1[k] := za4 (by rw [h4, List.getElem?_append_right (by omega)]; simp [h5])
    have hwk : w64 ((k : Int) + 1) = ((k + 1 : Nat) : Int) := qw (by omega)
    have hu : IntKind.u8.wrap (k : Int) = (k : Int) := by
      unfold IntKind.wrap; simp [IntKind.signed, IntKind.bits]; omega
    have hdec : decide ((k : Int) < 256) = true := by simp; omega
    rw [hdec, G.ct]
    refine Tot.bind (Tot.lift hix ?_)
    rw [hu]
    refine Tot.bindE (zmk hk) ?_
    have hset : ∀ v : Int, (arS b (k : Int) v).1 = (done ++ [v]) ++ a.1.drop (k + 1) := fun v => by
      show b.1.set (k : Int).toNat v = _
      rw [h4, Int.toNat_natCast, List.set_append_right _ _ (by omega), h5, Nat.sub_self, List.append_assoc]
      rfl
    rw [zey]
    cases hp : Yx a.1[k] m with
    | some p =>
      simp only [zcs, hp] at h6
      refine Tot.bind (Tot.pure ?_)
      refine Tot.bind (Tot.lift hix ?_)
      refine Tot.pure ⟨hwk, m, done ++ [(p : Int)], rfl, by omega, ?_, by simp [h5], by simpa using h6⟩
      show (arS b (k : Int) _).1 = _
      rw [hset, zey, hp]; rfl
    | none =>
      simp only [zcs, hp] at h6
      refine Tot.bind (Tot.pure ?_)
      refine Tot.bind (Tot.lift hix ?_)
      have hl : IntKind.u8.wrap ((Y5 0 m).length : Int) = (m.length : Int) := by
        rw [zem]
        unfold IntKind.wrap; simp [IntKind.signed, IntKind.bits]; omega
      have hput : zia (fun a b => (j6 a b).all id) (Y5 0 m) (⟨a.1[k], false⟩ : jm) (IntKind.u8.wrap ((Y5 0 m).length : Int)) = Y5 0 (m ++ [a.1[k]]) := by
        unfold zia
        rw [zdk, hp, hl, zea]
        simp
      refine Tot.pure ⟨hwk, m ++ [a.1[k]], done ++ [(m.length : Int)], hput, by simp; omega, ?_, by simp [h5], by simpa using h6⟩
      show (arS b (k : Int) _).1 = _
      rw [hset]
      have : Qq (fun a b => (j6 a b).all id) (zia (fun a b => (j6 a b).all id) (Y5 0 m) (⟨a.1[k], false⟩ : jm) (IntKind.u8.wrap ((Y5 0 m).length : Int))) (⟨a.1[k], false⟩ : jm) = some (m.length : Int) := by
        rw [hput, zey, ze4 hp]; rfl
      rw [this]; rfl
  · rintro ⟨i, b, mp⟩ ⟨h1, m, done, h2, h3, h4, h5, h6⟩
    simp only at h1 h2 h4 ⊢
    subst h1
    have hd : a.1.drop 256 = [] := List.drop_of_length_le (by rw [a.2]; exact Nat.le_refl _)
    rw [hd] at h4 h6
    refine Tot.pure (Tot.pure ?_)
    rw [h4, ← h6]; simp [zcs]
def zjt (n : Nat) : List Int := (List.range n).map fun (i : Nat) => (i : Int)
theorem zi0 (n : Nat) : zjt (n + 1) = zjt n ++ [(n : Int)] := by simp [zjt, List.range_succ]
theorem zit (x : Int) (hx : 0 ≤ x) : ∀ n : Nat, Yx x (zjt n) = if x < n then some x.toNat else none
  | 0 => by
    have : ¬ x < ((0 : Nat) : Int) := by omega
    rw [if_neg this]; rfl
  | n + 1 => by
    rw [zi0]
    have ih := zit x hx n
    by_cases h : x < (n : Int)
    · rw [if_pos h] at ih
      rw [if_pos (by omega)]
      have key : ∀ (m : List Int) (p : Nat) (c : Int), Yx x m = some p → Yx x (m ++ [c]) = some p := by
        intro m
        induction m with
        | nil => intro p c h; cases h
        | cons d m ihm =>
          intro p c h
          simp only [Yx, List.cons_append] at h ⊢
          split at h
          · rename_i hd; rw [if_pos hd]; exact h
          · rename_i hd
            rw [if_neg hd]
            obtain ⟨q, hq, rfl⟩ := Option.map_eq_some_iff.1 h
            rw [ihm q c hq]; rfl
      exact key _ _ _ ih
    · rw [if_neg h] at ih
      by_cases h2 : x = (n : Int)
      · subst h2
        rw [ze4 ih, if_pos (by omega)]
        simp [zjt]
      · have h3 : ¬ x < ((n + 1 : Nat) : Int) := by omega
        rw [if_neg h3]
        have key : ∀ (m : List Int) (c : Int), Yx x m = none → ¬ c = x → Yx x (m ++ [c]) = none := by
          intro m
          induction m with
          | nil => intro c _ hc; simp [Yx, hc]
          | cons d m ihm =>
            intro c h hc
            simp only [Yx, List.cons_append] at h ⊢
            split at h
            · cases h
            · rename_i hd
              rw [if_neg hd]
              have : Yx x m = none := by cases hq : Yx x m <;> simp [hq] at h ⊢
              rw [ihm c this hc]; rfl
        exact key _ _ ih (fun e => h2 e.symm)
theorem zcf : ∀ (l : List Int) (n : Nat), (∀ x ∈ l, 0 ≤ x) → (zcs (zjt n) l = l ↔ V5 n l = true)
  | [], n, _ => by simp [zcs, V5]
  | x :: xs, n, h => by
    have hx := h x (by simp)
    have hxs : ∀ y ∈ xs, 0 ≤ y := fun y hy => h y (by simp [hy])
    simp only [zcs, V5, zit x hx n]
    by_cases h1 : x < (n : Int)
    · rw [if_pos h1, if_neg (by omega), if_neg (by omega)]
      have ih := zcf xs n hxs
      simp only [List.cons.injEq]
      have : ((x.toNat : Nat) : Int) = x := by omega
      rw [ih]; simp [this]
    · rw [if_neg h1]
      have hlen : (zjt n).length = n := by simp [zjt]
      simp only [List.cons.injEq, hlen]
      by_cases h2 : x = (n : Int)
      · subst h2
        have ih := zcf xs (n + 1) hxs
        rw [zi0] at ih
        rw [if_neg (by omega), if_pos rfl, ih]
        simp
      · rw [if_pos (by omega)]
        constructor
        · rintro ⟨e, _⟩; exact absurd e.symm h2
        · intro e; cases e
theorem zh8 (a : Arr 256 Int) (ha : ziu a.1) : Tot (Vt a) (· = V5 0 a.1) := by
  unfold Vt
  refine Tot.bind ((zl6 a).mono fun r hr => Tot.pure ?_)
  have h := zcf a.1 0 (fun x hx => (ha x hx).1)
  rw [show zjt 0 = [] from rfl, ← hr] at h
  rw [Bool.eq_iff_iff, beq_iff_eq]
  exact h
end Go.Proofs.YtpohfkgjghiofaaGreat

namespace Go.Proofs.YtpohfkgjghiofaaGreat
open Go Go.RowKit L
set_option linter.unusedVariables false
set_option linter.unusedSimpArgs false
def zah (l : List Int) : Int := l.foldl (fun n c => max n (c + 1)) 0
theorem zlq (a : Arr 256 Int) : Vs a = J5 a := rfl
theorem zio (a : Arr 256 Int) (ha : ziu a.1) : Tot (J5 a) (· = zah a.1) := by
  unfold J5
  refine Tot.bind ?_
  refine Tot.forC (fun s => s.2) 256 (fun k s => s.2 = (k : Int) ∧ 0 ≤ s.1 ∧ s.1 ≤ 256 ∧ (a.1.drop k).foldl (fun n c => max n (c + 1)) s.1 = zah a.1) (fun k s h => h.1) ?_ ?_ ⟨rfl, by decide, by decide, by simp [zah]⟩
  · rintro k ⟨n, i⟩ hk ⟨h1, h2, h3, h4⟩
    simp only at h1 h2 h3 h4 ⊢
    subst h1
    have hkl : k < a.1.length := by rw [a.2]; exact hk
    have hb := ha _ (List.getElem_mem hkl)
    have hd : a.1.drop k = a.1[k] :: a.1.drop (k + 1) := List.drop_eq_getElem_cons hkl
    have hix : idx a.1 (k : Int) = some a.1[k] := za4 (List.getElem?_eq_getElem hkl)
    have hw : w64 a.1[k] = a.1[k] := zc0 (by omega) (by omega)
    have hw1 : w64 (a.1[k] + 1) = a.1[k] + 1 := zc0 (by omega) (by omega)
    have hwk : w64 ((k : Int) + 1) = ((k + 1 : Nat) : Int) := qw (by omega)
    rw [hd, List.foldl_cons] at h4
    have hdec : decide ((k : Int) < 256) = true := by simp; omega
    rw [hdec, G.ct]
    refine Tot.bind (Tot.lift hix (Tot.pure ?_))
    rw [hw, hw1]
    exact ⟨hwk, by omega, by omega, h4⟩
  · rintro ⟨n, i⟩ ⟨h1, h2, h3, h4⟩
    simp only at h1 h2 h3 h4 ⊢
    subst h1
    refine Tot.pure (Tot.pure ?_)
    rw [← h4, List.drop_of_length_le (by rw [a.2]; exact Nat.le_refl _)]; rfl
theorem zhw (a : Arr 256 Int) (ha : ziu a.1) : Tot (Vs a) (· = zah a.1) := zlq a ▸ zio a ha
end Go.Proofs.YtpohfkgjghiofaaGreat

namespace Go.Proofs.YtpohfkgjghiofaaGreat
open Go Go.RowKit L
set_option linter.unusedVariables false
set_option linter.unusedSimpArgs false
def zid (n : Int) (row : List Int) : Bool := row.all fun c => !(decide (c < -1) || decide (n ≤ c))
theorem zlo (row : List Int) (n : Int) (b0 : Bool) (hl : row.length ≤ 9223372036854775807) :
    Tot (G.loop (σ := (Bool × Int)) (α := Bool ⊕ Bool) (fun (x39, x40) => G.cond (decide (x40 < (row.length : Int))) (G.bind (G.lift (idx row x40)) fun x51 => G.cond ((decide (x51 < (-1))) || (decide (n ≤ x51))) (G.pure (.inr (.inl false))) (G.pure (.inl (x39, (w64 (x40 + 1)))))) (G.pure (.inr (.inr x39)))) (b0, 0)) (· = if zid n row then .inr b0 else .inl false) := by
  refine Tot.forC (fun s => s.2) row.length (fun k s => s.2 = (k : Int) ∧ s.1 = b0 ∧ zid n row = zid n (row.drop k)) (fun k s h => h.1) ?_ ?_ ⟨rfl, rfl, by simp⟩
  · rintro k ⟨b, i⟩ hk ⟨h1, h2, h3⟩
    simp only at h1 h2 h3 ⊢
    subst h1; subst h2
    have hd : row.drop k = row[k] :: row.drop (k + 1) := List.drop_eq_getElem_cons hk
    have hix : idx row (k : Int) = some row[k] := za4 (List.getElem?_eq_getElem hk)
    have hwk : w64 ((k : Int) + 1) = ((k + 1 : Nat) : Int) := qw (by omega)
    have hdec : decide ((k : Int) < (row.length : Int)) = true := by simp; omega
    rw [hd] at h3
    have h4 : zid n (row[k] :: row.drop (k + 1)) = (!(decide (row[k] < -1) || decide (n ≤ row[k])) && zid n (row.drop (k + 1))) := rfl
    rw [h4] at h3
    rw [hdec, G.ct]
    refine Tot.bind (Tot.lift hix ?_)
    refine Tot.cond (fun hb => Tot.pure ?_) fun hb => Tot.pure ?_
    · rw [hb] at h3
      simp only [Bool.not_true, Bool.false_and] at h3
      rw [h3]; rfl
    · rw [hb] at h3
      exact ⟨hwk, rfl, by simpa using h3⟩
  · rintro ⟨b, i⟩ ⟨h1, h2, h3⟩
    simp only at h1 h2 h3 ⊢
    subst h1; subst h2
    have hdec : decide ((row.length : Int) < (row.length : Int)) = false := by simp
    rw [hdec]
    have h5 : zid n row = true := by rw [h3, List.drop_length]; rfl
    refine Tot.pure ?_
    rw [h5]; rfl
end Go.Proofs.YtpohfkgjghiofaaGreat

namespace Go.Proofs.YtpohfkgjghiofaaGreat
open Go Go.RowKit L
set_option linter.unusedVariables false
set_option linter.unusedSimpArgs false
def zda (n w : Int) : List (List Int) → List Int → Bool
  | [], _ => true
  | r :: rs, t :: ts => !(decide (¬ (r.length : Int) = w) || decide (t < -1)) && zid n r && zda n w rs ts
  | _ :: _, [] => false
def zr (d : je) : Bool := !(decide ((d.jd.length : Int) = 0) || decide (¬ (d.jl.length : Int) = (d.jd.length : Int))) && V5 0 d.ji.1 && decide (zah d.ji.1 = d.jf) && zda d.jd.length d.jf d.jd d.jl
structure DOk (d : je) : Prop where
  cls : ziu d.ji.1
  next : d.jd.length ≤ 9223372036854775807
  rows : ∀ r ∈ d.jd, r.length ≤ 9223372036854775807
theorem zau (d : je) (hd : DOk d) : Tot (Jv d) (· = zr d) := by
  unfold Jv
  by_cases hA : ((decide ((d.jd.length : Int) = 0)) || (decide (¬ (d.jl.length : Int) = (d.jd.length : Int)))) = true
  · have hR : zr d = false := by unfold zr; rw [hA]; rfl
    rw [hA, hR]
    exact Tot.pure rfl
  · simp only [Bool.not_eq_true] at hA
    have hlen : d.jl.length = d.jd.length := by
      rw [Bool.or_eq_false_iff] at hA
      have := hA.2
      simp at this
      omega
    rw [hA]
    refine Tot.bindE (zh8 d.ji hd.cls) ?_
    by_cases hB : V5 0 d.ji.1 = true
    · rw [hB]
      refine Tot.bindE (zhw d.ji hd.cls) ?_
      by_cases hC : zah d.ji.1 = d.jf
      · have hR : zr d = zda d.jd.length d.jf d.jd d.jl := by unfold zr; rw [hA, hB, hC]; simp
        rw [hR, hC]
        refine Tot.cond (fun h => by simp at h) fun _ => ?_
        refine Tot.bind (Tot.bind ?_)
        refine Tot.forC (fun s => s.2) d.jd.length (fun k s => s.2 = (k : Int) ∧ s.1 = true ∧ zda d.jd.length d.jf d.jd d.jl = zda d.jd.length d.jf (d.jd.drop k) (d.jl.drop k)) (fun k s h => h.1) ?_ ?_ ⟨rfl, rfl, by simp⟩
        · rintro k ⟨b, i⟩ hk ⟨h1, h2, h3⟩
          simp only at h1 h2 h3 ⊢
          subst h1; subst h2
          have hkl : k < d.jl.length := by omega
          have e1 : d.jd.drop k = d.jd[k] :: d.jd.drop (k + 1) := List.drop_eq_getElem_cons hk
          have e2 : d.jl.drop k = d.jl[k] :: d.jl.drop (k + 1) := List.drop_eq_getElem_cons hkl
          have hix : idx d.jd (k : Int) = some d.jd[k] := za4 (List.getElem?_eq_getElem hk)
          have hil : idx d.jl (k : Int) = some d.jl[k] := za4 (List.getElem?_eq_getElem hkl)
          have hwk : w64 ((k : Int) + 1) = ((k + 1 : Nat) : Int) := qw (by have := hd.next; omega)
          have hdec : decide ((k : Int) < (d.jd.length : Int)) = true := by simp; omega
          rw [e1, e2] at h3
          simp only [zda] at h3
          rw [hdec, G.ct]
          refine Tot.bind (Tot.lift hix ?_)
          by_cases hw : ((d.jd[k]).length : Int) = d.jf
          · have hw2 : decide (¬ ((d.jd[k]).length : Int) = d.jf) = false := by simp [hw]
            simp only [hw2, Bool.not_false, Bool.false_or] at h3 ⊢
            refine Tot.bind (Tot.lift hil ?_)
            refine Tot.cond (fun hb => Tot.pure (Tot.pure (Tot.pure ?_))) fun hb => ?_
            · rw [hb] at h3; rw [h3]; rfl
            · rw [hb] at h3
              refine Tot.bindE (zlo d.jd[k] d.jd.length true (hd.rows _ (List.getElem_mem hk))) ?_
              by_cases hr : zid d.jd.length d.jd[k] = true
              · rw [hr] at h3 ⊢
                exact Tot.pure ⟨hwk, rfl, by simpa using h3⟩
              · simp only [Bool.not_eq_true] at hr
                rw [hr] at h3 ⊢
                refine Tot.pure (Tot.pure (Tot.pure ?_))
                rw [h3]; rfl
          · have hw2 : decide (¬ ((d.jd[k]).length : Int) = d.jf) = true := by simp [hw]
            simp only [hw2, Bool.not_true, Bool.true_or] at h3 ⊢
            refine Tot.bind (Tot.pure (Tot.pure (Tot.pure (Tot.pure ?_))))
            rw [h3]; rfl
        · rintro ⟨b, i⟩ ⟨h1, h2, h3⟩
          simp only at h1 h2 h3 ⊢
          subst h1; subst h2
          have hdec : decide ((d.jd.length : Int) < (d.jd.length : Int)) = false := by simp
          rw [hdec]
          refine Tot.pure (Tot.pure (Tot.pure ?_))
          rw [h3, List.drop_length]; rfl
      · have hR : zr d = false := by unfold zr; simp [hC]
        rw [hR]
        refine Tot.cond (fun _ => Tot.pure rfl) fun h => ?_
        simp [hC] at h
    · simp only [Bool.not_eq_true] at hB
      have hR : zr d = false := by unfold zr; rw [hB]; simp
      rw [hB, hR]
      exact Tot.pure rfl
end Go.Proofs.YtpohfkgjghiofaaGreat

namespace Go.Proofs.YtpohfkgjghiofaaGreat
open Go Go.RowKit L
set_option linter.unusedVariables false
set_option linter.unusedSimpArgs false
inductive Rch (E : Nat → Nat → Prop) (S : Nat → Prop) : Nat → Prop
  | base {i : Nat} : S i → Rch E S i
  | step {i j : Nat} : Rch E S i → E i j → Rch E S j
def onB (l : List Bool) (i : Nat) : Prop := l[i]? = some true
theorem znm {l : List Bool} {i : Nat} (h : onB l i) : i < l.length := (List.getElem?_eq_some_iff.1 h).1
theorem zl1 {l : List Bool} {i j : Nat} (hi : i < l.length) : onB (l.set i true) j ↔ i = j ∨ onB l j := by
  unfold onB
  by_cases h : i = j
  · subst h; simp [List.getElem?_set_self hi]
  · rw [List.getElem?_set_ne h]; simp [h]
theorem zjl {n i : Nat} : ¬ onB (List.replicate n false) i := by
  unfold onB
  intro h
  obtain ⟨h1, h2⟩ := List.getElem?_eq_some_iff.1 h
  simp at h2
def offs (l : List Bool) : Nat := l.count false
theorem zjk (l : List Bool) : offs l ≤ l.length := List.count_le_length
theorem zcu (b : Bool) (l : List Bool) : offs (b :: l) = offs l + (if b then 0 else 1) := by
  unfold offs; cases b <;> simp
theorem zj6 : ∀ {l : List Bool} {i : Nat}, l[i]? = some false → offs (l.set i true) + 1 = offs l
  | [], i, h => by simp at h
  | b :: l, 0, h => by
    simp at h; subst h
    simp [zcu]
  | b :: l, i + 1, h => by
    simp only [List.getElem?_cons_succ] at h
    have := zj6 h
    simp only [List.set_cons_succ, zcu]; omega
def LeB (a b : List Bool) : Prop := a.length = b.length ∧ ∀ i, onB a i → onB b i
theorem LeB.refl (a : List Bool) : LeB a a := ⟨rfl, fun _ h => h⟩
theorem LeB.trans {a b c : List Bool} (h : LeB a b) (h2 : LeB b c) : LeB a c := ⟨h.1.trans h2.1, fun i hi => h2.2 i (h.2 i hi)⟩
theorem LeB.set {a : List Bool} {i : Nat} (hi : i < a.length) : LeB a (a.set i true) := ⟨by simp, fun j hj => (zl1 hi).2 (.inr hj)⟩
theorem zna {a b : List Bool} (hl : a.length = b.length) (h : ∀ i, onB a i ↔ onB b i) : a = b := by
  refine List.ext_getElem hl fun i h1 h2 => ?_
  have := h i
  unfold onB at this
  rw [List.getElem?_eq_getElem h1, List.getElem?_eq_getElem h2] at this
  cases e1 : a[i] <;> cases e2 : b[i] <;> simp [e1, e2] at this <;> rfl
theorem LeB.antisymm {a b : List Bool} (h : LeB a b) (h2 : LeB b a) : a = b := zna h.1 fun i => ⟨h.2 i, h2.2 i⟩
theorem LeB.offs : ∀ {a b : List Bool}, LeB a b → a = b ∨ offs b < offs a := by
  intro a
  induction a with
  | nil => intro b h; cases b with
    | nil => exact .inl rfl
    | cons x b => exact absurd h.1 (by simp)
  | cons x a ih =>
    intro b h
    cases b with
    | nil => exact absurd h.1 (by simp)
    | cons y b =>
      have h1 : LeB a b := ⟨by simpa using h.1, fun i hi => by have := h.2 (i + 1); unfold onB at *; simpa using this (by simpa using hi)⟩
      have h0 : x = true → y = true := fun e => by have := h.2 0; unfold onB at this; simpa [e] using this
      rw [zcu, zcu]
      rcases ih h1 with e | e
      · subst e
        cases x with
        | true => rw [h0 rfl]; exact .inl rfl
        | false => cases y with
          | false => exact .inl rfl
          | true => right; simp
      · right
        cases x with
        | true => rw [h0 rfl]; simpa using e
        | false => cases y <;> simp <;> omega
noncomputable def zbq (n : Nat) (E : Nat → Nat → Prop) (S : Nat → Prop) : List Bool := by
  classical exact (List.range n).map fun i => decide (Rch E S i)
theorem zbs (n : Nat) (E : Nat → Nat → Prop) (S : Nat → Prop) : (zbq n E S).length = n := by unfold zbq; simp
theorem zi3 {n : Nat} {E : Nat → Nat → Prop} {S : Nat → Prop} {i : Nat} : onB (zbq n E S) i ↔ i < n ∧ Rch E S i := by
  classical
  unfold onB zbq
  by_cases h : i < n
  · simp [h]
  · simp [h]
theorem zl2 {n : Nat} {E : Nat → Nat → Prop} {S : Nat → Prop} {l : List Bool} (hl : l.length = n) (hs : ∀ i, onB l i → Rch E S i) (h1 : ∀ i, S i → onB l i) (h2 : ∀ i j, onB l i → E i j → onB l j) : l = zbq n E S := by
  refine zna (by rw [hl, zbs]) fun i => ⟨fun h => zi3.2 ⟨hl ▸ znm h, hs i h⟩, fun h => ?_⟩
  have := (zi3.1 h).2
  clear h
  induction this with
  | base h => exact h1 _ h
  | step _ h ih => exact h2 _ _ ih h
structure Round (E : Nat → Nat → Prop) (S : Nat → Prop) (a b : List Bool) : Prop where
  le : LeB a b
  sound : ∀ i, onB b i → Rch E S i
  closed : a = b → (∀ i, S i → onB a i) ∧ ∀ i j, onB a i → E i j → onB a j
theorem Round.next {n : Nat} {E : Nat → Nat → Prop} {S : Nat → Prop} {a b : List Bool} {m k : Nat} (h : Round E S a b) (hl : a.length = n) (hk : a = zbq n E S ∨ offs a + k ≤ m) : b = zbq n E S ∨ offs b + (k + 1) ≤ m := by
  rcases hk with hk | hk
  · left
    refine h.le.antisymm ⟨h.le.1.symm, fun i hi => ?_⟩ |>.symm.trans hk
    rw [hk]
    exact zi3.2 ⟨hl ▸ (h.le.1 ▸ znm hi), h.sound i hi⟩
  · rcases h.le.offs with e | e
    · left
      obtain ⟨h1, h2⟩ := h.closed e
      subst e
      exact zl2 hl h.sound h1 h2
    · right; omega
end Go.Proofs.YtpohfkgjghiofaaGreat

namespace Go.Proofs.YtpohfkgjghiofaaGreat
open Go Go.RowKit L
set_option linter.unusedVariables false
set_option linter.unusedSimpArgs false
def at' {α : Type} [Inhabited α] (l : List α) (z : Int) : α := l.getD z.toNat default
theorem J7 {α : Type} [Inhabited α] {l : List α} {k : Nat} (h : k < l.length) : at' l (k : Int) = l[k] := by
  unfold at'; simp [h]
theorem at_get {α : Type} [Inhabited α] {l : List α} {k : Nat} {x : α} (h : l[k]? = some x) : at' l (k : Int) = x := by
  unfold at'; simp [h]
theorem idx_at {α : Type} [Inhabited α] {l : List α} {z : Int} (h0 : 0 ≤ z) (h1 : z < l.length) : idx l z = some (at' l z) := by
  obtain ⟨k, rfl⟩ := Int.eq_ofNat_of_zero_le h0
  have hk : k < l.length := by omega
  rw [J7 hk]; exact za4 (List.getElem?_eq_getElem hk)
theorem zdm {α : Type} [Inhabited α] {l : List α} {z : Int} (h0 : 0 ≤ z) (h1 : z < l.length) : at' l z ∈ l := by
  obtain ⟨k, rfl⟩ := Int.eq_ofNat_of_zero_le h0
  have hk : k < l.length := by omega
  rw [J7 hk]; exact List.getElem_mem hk
theorem zoa {α : Type} [Inhabited α] {l : List α} {z : Int} {v : α} (h0 : 0 ≤ z) (h1 : z < l.length) : at' (l.set z.toNat v) z = v := by
  unfold at'; simp [show z.toNat < l.length by omega]
theorem at_ne {α : Type} [Inhabited α] {l : List α} {z y : Int} {v : α} (h0 : 0 ≤ z) (hy : 0 ≤ y) (h : z ≠ y) : at' (l.set z.toNat v) y = at' l y := by
  unfold at'; simp only [List.getD_eq_getElem?_getD]; rw [List.getElem?_set_ne (by omega)]
theorem zd4 {l : List Bool} {k : Nat} : at' l (k : Int) = true ↔ onB l k := by
  unfold at' onB
  simp only [Int.toNat_natCast, List.getD_eq_getElem?_getD]
  cases h : l[k]? with
  | none => simp
  | some b => simp
theorem zk0 {l : List Bool} {z : Int} (h0 : 0 ≤ z) : at' l z = true ↔ onB l z.toNat := by
  obtain ⟨k, rfl⟩ := Int.eq_ofNat_of_zero_le h0
  exact zd4
theorem jt {p : Prop} [Decidable p] (h : p) : decide p = true := decide_eq_true h
theorem ju {p : Prop} [Decidable p] (h : ¬p) : decide p = false := decide_eq_false h
section
variable {α β γ : Type} {Q : γ → Prop}
theorem Tot.idx [Inhabited α] {l : List α} {z : Int} {f : α → G γ} (h0 : 0 ≤ z) (h1 : z < l.length) (h : Tot (f (at' l z)) Q) : Tot (G.bind (G.lift (L.idx l z)) f) Q := .bind (.lift (idx_at h0 h1) h)
theorem Tot.someB {o : Option α} {a : α} {f : α → G γ} (h : o = some a) (h2 : Tot (f a) Q) : Tot (G.bind (G.lift o) f) Q := .bind (.lift h h2)
theorem Tot.apnd {b : Nat} {xs ys : List α} {f : List α → G γ} (h1 : (xs.length + ys.length) * b ≤ 140737488355328) (h2 : xs.length + ys.length ≤ 140737488355328) (h : Tot (f (xs ++ ys)) Q) : Tot (G.bind (G.lift (app b xs ys)) f) Q := Tot.someB (app_of h1 h2) h
theorem Tot.mk {b : Nat} {z : α} {n : Int} {f : List α → G γ} (h0 : 0 ≤ n) (h1 : b * n.toNat ≤ 281474976710656) (h2 : n.toNat ≤ 281474976710656) (h : Tot (f (List.replicate n.toNat z)) Q) : Tot (G.bind (G.lift (mkS b z n)) f) Q := by
  obtain ⟨k, rfl⟩ := Int.eq_ofNat_of_zero_le h0
  exact Tot.someB (mkS_of (by simpa using h1) (by simpa using h2)) h
theorem Tot.bp {a : α} {f : α → G γ} (h : Tot (f a) Q) : Tot (G.bind (G.pure a) f) Q := h
theorem G.bb {m : G α} {f : α → G β} {g : β → G γ} : G.bind (G.bind m f) g = G.bind m fun a => G.bind (f a) g := by
  funext n
  unfold G.bind
  cases m n <;> rfl
theorem Tot.bb {m : G α} {f : α → G β} {g : β → G γ} (h : Tot (G.bind m fun a => G.bind (f a) g) Q) : Tot (G.bind (G.bind m f) g) Q := by rw [G.bb]; exact h
theorem Tot.bc {b : Bool} {x y : G α} {f : α → G γ} (h : Tot (G.cond b (G.bind x f) (G.bind y f)) Q) : Tot (G.bind (G.cond b x y) f) Q := by
  cases b <;> exact h
theorem Tot.ct {b : Bool} {x y : G γ} (hb : b = true) (h : Tot x Q) : Tot (G.cond b x y) Q := by subst hb; exact h
theorem Tot.cf {b : Bool} {x y : G γ} (hb : b = false) (h : Tot y Q) : Tot (G.cond b x y) Q := by subst hb; exact h
theorem Tot.rdx [Inhabited α] {l : List α} {z : Int} {f : α → G γ} (h : 0 ≤ z ∧ z < l.length) (h2 : Tot (f (at' l z)) Q) : Tot (G.bind (G.lift (L.idx l z)) f) Q := Tot.idx h.1 h.2 h2
theorem Tot.apx {b : Nat} {xs ys : List α} {f : List α → G γ} (h : (xs.length + ys.length) * b ≤ 140737488355328 ∧ xs.length + ys.length ≤ 140737488355328) (h2 : Tot (f (xs ++ ys)) Q) : Tot (G.bind (G.lift (app b xs ys)) f) Q := Tot.apnd h.1 h.2 h2
theorem Tot.mkx {b : Nat} {z : α} {n : Int} {f : List α → G γ} (h : 0 ≤ n ∧ b * n.toNat ≤ 281474976710656 ∧ n.toNat ≤ 281474976710656) (h2 : Tot (f (List.replicate n.toNat z)) Q) : Tot (G.bind (G.lift (mkS b z n)) f) Q := Tot.mk h.1 h.2.1 h.2.2 h2
theorem bl_ : ((!true) = false) ∧ ((!false) = true) ∧ (∀ b, (true && b) = b) ∧ (∀ b, (b && true) = b) ∧ (∀ b, (false && b) = false) ∧ (∀ b, (b && false) = false) ∧ (∀ b, (true || b) = true) ∧ (∀ b, (b || true) = true) ∧ (∀ b, (false || b) = b) ∧ (∀ b, (b || false) = b) ∧ (∀ (α : Type) (a : α) (l : List α), (a :: l).length = l.length + 1) ∧ (∀ (α : Type) (l m : List α), (l ++ m).length = l.length + m.length) ∧ (∀ (α : Type) (l : List α) (i : Nat) (a : α), (l.set i a).length = l.length) ∧ (∀ (α : Type), ([] : List α).length = 0) ∧ (∀ (α : Type) (n : Nat) (a : α), (List.replicate n a).length = n) ∧ (∀ (α β : Type) (f : α → β) (l : List α), (l.map f).length = l.length) ∧ (∀ n : Nat, (n : Int).toNat = n) := by
  refine ⟨rfl, rfl, ?_, ?_, ?_, ?_, ?_, ?_, ?_, ?_, ?_, ?_, ?_, ?_, ?_, ?_, ?_⟩ <;> intros <;> simp
theorem Tot.part {m : G α} {f : α → G γ} (R : α → Prop) (hm : Tot m R) (h : ∀ a, R a → Tot (f a) Q) : Tot (G.bind m f) Q := .bind (hm.mono h)
end
theorem zml {α : Type} {x : α} {l : List α} : zh9 (x :: l) 1 ((x :: l).length : Int) = some l := by
  unfold zh9
  rw [if_pos ⟨by omega, by omega, by simp, by simp⟩]
  simp
theorem zm1 {α : Type} {xs ys : List α} (h : xs.length ≤ 10000000) : zaw xs ys = some ys := if_pos h
end Go.Proofs.YtpohfkgjghiofaaGreat

namespace Go.Proofs.YtpohfkgjghiofaaGreat
open Go Go.RowKit L
set_option linter.unusedVariables false
set_option linter.unusedSimpArgs false
structure MOk (d : je) : Prop where
  n0 : 0 < d.jd.length
  lab : d.jl.length = d.jd.length
  cls : V5 0 d.ji.1 = true
  wid : zah d.ji.1 = d.jf
  row : ∀ i : Int, 0 ≤ i → i < d.jd.length → ((at' d.jd i).length : Int) = d.jf
  lb : ∀ i : Int, 0 ≤ i → i < d.jd.length → -1 ≤ at' d.jl i
  nx : ∀ i c : Int, 0 ≤ i → i < d.jd.length → 0 ≤ c → c < d.jf → -1 ≤ at' (at' d.jd i) c ∧ at' (at' d.jd i) c < d.jd.length
theorem zij : ∀ (l : List Int) (n : Int), (∀ x ∈ l, 0 ≤ x ∧ x < 256) → 0 ≤ n → n ≤ 256 → n ≤ l.foldl (fun n c => max n (c + 1)) n ∧ l.foldl (fun n c => max n (c + 1)) n ≤ 256 ∧ ∀ x ∈ l, x < l.foldl (fun n c => max n (c + 1)) n
  | [], n, _, h0, h1 => ⟨Int.le_refl _, h1, fun x h => by cases h⟩
  | c :: cs, n, h, h0, h1 => by
    have hc := h c (by simp)
    obtain ⟨a, b, e⟩ := zij cs (max n (c + 1)) (fun x hx => h x (by simp [hx])) (by omega) (by omega)
    simp only [List.foldl_cons]
    refine ⟨by omega, b, fun x hx => ?_⟩
    rcases List.mem_cons.1 hx with rfl | hx
    · omega
    · exact e x hx
theorem ze2 {l : List Int} (h : ziu l) : 0 ≤ zah l ∧ zah l ≤ 256 ∧ ∀ x ∈ l, x < zah l := by
  have := zij l 0 h (by decide) (by decide)
  exact this
theorem zeu (n w : Int) : ∀ (rs : List (List Int)) (ts : List Int), ts.length = rs.length → (zda n w rs ts = true ↔ ∀ k : Nat, k < rs.length → ((at' rs k).length : Int) = w ∧ -1 ≤ at' ts k ∧ ∀ c : Nat, c < (at' rs k).length → -1 ≤ at' (at' rs k) c ∧ at' (at' rs k) c < n)
  | [], _, _ => by simp [zda]
  | r :: rs, [], h => by simp at h
  | r :: rs, t :: ts, h => by
    have ih := zeu n w rs ts (by simpa using h)
    have e1 : ∀ k : Nat, at' (r :: rs) ((k + 1 : Nat) : Int) = at' rs (k : Int) := fun k => by unfold at'; simp
    have e2 : ∀ k : Nat, at' (t :: ts) ((k + 1 : Nat) : Int) = at' ts (k : Int) := fun k => by unfold at'; simp
    have e3 : at' (r :: rs) ((0 : Nat) : Int) = r := rfl
    have e4 : at' (t :: ts) ((0 : Nat) : Int) = t := rfl
    have hr : zid n r = true ↔ ∀ c : Nat, c < r.length → -1 ≤ at' r c ∧ at' r c < n := by
      unfold zid
      rw [List.all_eq_true]
      constructor
      · intro h c hc
        have := h _ (List.getElem_mem hc)
        rw [J7 hc]
        simp at this; omega
      · intro h x hx
        obtain ⟨c, hc, rfl⟩ := List.getElem_of_mem hx
        have := h c hc
        rw [J7 hc] at this
        simp; omega
    simp only [zda, Bool.and_eq_true, ih, hr]
    constructor
    · rintro ⟨⟨ha, hb⟩, hc⟩ k hk
      cases k with
      | zero => rw [e3, e4]; simp at ha; exact ⟨by omega, by omega, hb⟩
      | succ k => rw [e1, e2]; exact hc k (by simpa using hk)
    · intro hall
      have h0 := hall 0 (by simp)
      rw [e3, e4] at h0
      refine ⟨⟨by simp; omega, h0.2.2⟩, fun k hk => ?_⟩
      have := hall (k + 1) (by simpa using hk)
      rwa [e1, e2] at this
theorem Q9 (d : je) : zr d = true ↔ MOk d := by
  unfold zr
  constructor
  · intro h
    simp only [Bool.and_eq_true, Bool.not_eq_true', Bool.or_eq_false_iff, decide_eq_false_iff_not, decide_eq_true_eq, Decidable.not_not] at h
    obtain ⟨⟨⟨⟨h1, h2⟩, h3⟩, h4⟩, h5⟩ := h
    have h6 := (zeu _ _ _ _ (by omega)).1 h5
    refine ⟨by omega, by omega, h3, h4, ?_, ?_, ?_⟩
    · intro i h0 hi
      obtain ⟨k, rfl⟩ := Int.eq_ofNat_of_zero_le h0
      exact (h6 k (by omega)).1
    · intro i h0 hi
      obtain ⟨k, rfl⟩ := Int.eq_ofNat_of_zero_le h0
      exact (h6 k (by omega)).2.1
    · intro i c h0 hi hc0 hc
      obtain ⟨k, rfl⟩ := Int.eq_ofNat_of_zero_le h0
      obtain ⟨c, rfl⟩ := Int.eq_ofNat_of_zero_le hc0
      have := h6 k (by omega)
      exact this.2.2 c (by omega)
  · intro h
    have h5 : zda d.jd.length d.jf d.jd d.jl = true := by
      refine (zeu _ _ _ _ h.lab).2 fun k hk => ?_
      have h1 := h.row k (by omega) (by omega)
      have h2 := h.lb k (by omega) (by omega)
      exact ⟨h1, h2, fun c hc => h.nx k c (by omega) (by omega) (by omega) (by omega)⟩
    have := h.n0
    have := h.lab
    simp only [h5, h.cls, h.wid, Bool.and_true, decide_true, Bool.not_eq_true', Bool.or_eq_false_iff, decide_eq_false_iff_not, Decidable.not_not]
    omega
theorem Zt (d : je) (hd : DOk d) : Tot (zu d) (· = zr d) := by
  have key : Tot (zu d) (fun b => b = true ↔ MOk d) := by
    unfold zu
    refine Tot.bindE (zgi d.ji hd.cls) ?_
    cases hB : V5 0 d.ji.1
    · repeat (first | with_reducible (refine Tot.bp ?_) | with_reducible (refine Tot.bb ?_) | (refine Tot.ct ?_ ?_; focus (first | rfl | (simp (disch := omega) only [jt, ju, bl_]; done))) | (refine Tot.cf ?_ ?_; focus (first | rfl | (simp (disch := omega) only [jt, ju, bl_]; done))) | with_reducible (refine Tot.bc ?_) | ((first | refine Tot.rdx ?_ ?_ | refine Tot.apx ?_ ?_ | refine Tot.mkx ?_ ?_); focus (first | omega | (simp; done) | (simp; omega))))
      refine Tot.pure ?_
      simp; intro h; rw [h.cls] at hB; cases hB
    repeat (first | with_reducible (refine Tot.bp ?_) | with_reducible (refine Tot.bb ?_) | (refine Tot.ct ?_ ?_; focus (first | rfl | (simp (disch := omega) only [jt, ju, bl_]; done))) | (refine Tot.cf ?_ ?_; focus (first | rfl | (simp (disch := omega) only [jt, ju, bl_]; done))) | with_reducible (refine Tot.bc ?_) | ((first | refine Tot.rdx ?_ ?_ | refine Tot.apx ?_ ?_ | refine Tot.mkx ?_ ?_); focus (first | omega | (simp; done) | (simp; omega))))
    refine Tot.bindE (zio d.ji hd.cls) ?_
    refine Tot.cond (fun hb => Tot.pure ?_) fun hb => ?_
    · simp
      intro h
      have h1 := h.n0
      have h2 := h.lab
      have h3 := h.wid
      simp only [Bool.not_true, Bool.false_or, Bool.or_eq_true, decide_eq_true_eq] at hb
      omega
    simp only [Bool.not_true, Bool.false_or, Bool.or_eq_false_iff, decide_eq_false_iff_not, Decidable.not_not] at hb
    obtain ⟨⟨b1, b2⟩, b3⟩ := hb
    obtain ⟨w0, w1, _⟩ := ze2 hd.cls
    have hn := hd.next
    refine Tot.bind ?_
    refine Tot.forC (fun s => s) d.jd.length (fun k s => s = (k : Int) ∧ ∀ i : Int, 0 ≤ i → i < k → ((at' d.jd i).length : Int) = d.jf ∧ -1 ≤ at' d.jl i ∧ ∀ c : Int, 0 ≤ c → c < d.jf → -1 ≤ at' (at' d.jd i) c ∧ at' (at' d.jd i) c < d.jd.length) (fun k s h => h.1) ?_ ?_ ⟨rfl, fun i h0 h1 => by omega⟩
    · rintro k _ hk ⟨rfl, hI⟩
      repeat (first | with_reducible (refine Tot.bp ?_) | with_reducible (refine Tot.bb ?_) | (refine Tot.ct ?_ ?_; focus (first | rfl | (simp (disch := omega) only [jt, ju, bl_]; done))) | (refine Tot.cf ?_ ?_; focus (first | rfl | (simp (disch := omega) only [jt, ju, bl_]; done))) | with_reducible (refine Tot.bc ?_) | ((first | refine Tot.rdx ?_ ?_ | refine Tot.apx ?_ ?_ | refine Tot.mkx ?_ ?_); focus (first | omega | (simp; done) | (simp; omega))))
      refine Tot.cond (fun hw => ?_) fun hw => ?_
      · simp only [Bool.not_eq_true', decide_eq_false_iff_not, Decidable.not_not] at hw
        repeat (first | with_reducible (refine Tot.bp ?_) | with_reducible (refine Tot.bb ?_) | (refine Tot.ct ?_ ?_; focus (first | rfl | (simp (disch := omega) only [jt, ju, bl_]; done))) | (refine Tot.cf ?_ ?_; focus (first | rfl | (simp (disch := omega) only [jt, ju, bl_]; done))) | with_reducible (refine Tot.bc ?_) | ((first | refine Tot.rdx ?_ ?_ | refine Tot.apx ?_ ?_ | refine Tot.mkx ?_ ?_); focus (first | omega | (simp; done) | (simp; omega))))
        refine Tot.cond (fun hl => Tot.pure (Tot.pure ?_)) fun hl => ?_
        · simp
          intro h
          have := h.lb k (by omega) (by omega)
          simp only [Bool.or_eq_true, decide_eq_true_eq] at hl
          omega
        simp only [Bool.or_eq_false_iff, decide_eq_false_iff_not, Decidable.not_not] at hl
        refine Tot.bind ?_
        refine Tot.forC (fun s => s) d.jf.toNat (fun c s => s = (c : Int) ∧ ∀ i : Int, 0 ≤ i → i < c → -1 ≤ at' (at' d.jd k) i ∧ at' (at' d.jd k) i < d.jd.length) (fun k s h => h.1) ?_ ?_ ⟨rfl, fun i h0 h1 => by omega⟩
        · rintro c _ hc ⟨rfl, hJ⟩
          have bad : ¬ (-1 ≤ at' (at' d.jd k) c ∧ at' (at' d.jd k) c < d.jd.length) → ¬ MOk d := fun hx h => hx (h.nx k c (by omega) (by omega) (by omega) (by omega))
          repeat (first | with_reducible (refine Tot.bp ?_) | with_reducible (refine Tot.bb ?_) | (refine Tot.ct ?_ ?_; focus (first | rfl | (simp (disch := omega) only [jt, ju, bl_]; done))) | (refine Tot.cf ?_ ?_; focus (first | rfl | (simp (disch := omega) only [jt, ju, bl_]; done))) | with_reducible (refine Tot.bc ?_) | ((first | refine Tot.rdx ?_ ?_ | refine Tot.apx ?_ ?_ | refine Tot.mkx ?_ ?_); focus (first | omega | (simp; done) | (simp; omega))))
          refine Tot.cond (fun h1 => ?_) fun h1 => ?_
          · simp only [Bool.not_eq_true', decide_eq_false_iff_not] at h1
            repeat (first | with_reducible (refine Tot.bp ?_) | with_reducible (refine Tot.bb ?_) | (refine Tot.ct ?_ ?_; focus (first | rfl | (simp (disch := omega) only [jt, ju, bl_]; done))) | (refine Tot.cf ?_ ?_; focus (first | rfl | (simp (disch := omega) only [jt, ju, bl_]; done))) | with_reducible (refine Tot.bc ?_) | ((first | refine Tot.rdx ?_ ?_ | refine Tot.apx ?_ ?_ | refine Tot.mkx ?_ ?_); focus (first | omega | (simp; done) | (simp; omega))))
            refine Tot.cond (fun h2 => Tot.pure (Tot.pure (Tot.pure ?_))) fun h2 => Tot.pure ?_
            · simp
              simp only [Bool.or_eq_true, decide_eq_true_eq] at h2
              exact bad (by omega)
            · simp only [Bool.or_eq_false_iff, decide_eq_false_iff_not] at h2
              refine ⟨qw (by omega), fun i h0 h3 => ?_⟩
              by_cases hi : i = c
              · subst hi; omega
              · exact hJ i h0 (by omega)
          · simp only [Bool.not_eq_false', decide_eq_true_eq] at h1
            repeat (first | with_reducible (refine Tot.bp ?_) | with_reducible (refine Tot.bb ?_) | (refine Tot.ct ?_ ?_; focus (first | rfl | (simp (disch := omega) only [jt, ju, bl_]; done))) | (refine Tot.cf ?_ ?_; focus (first | rfl | (simp (disch := omega) only [jt, ju, bl_]; done))) | with_reducible (refine Tot.bc ?_) | ((first | refine Tot.rdx ?_ ?_ | refine Tot.apx ?_ ?_ | refine Tot.mkx ?_ ?_); focus (first | omega | (simp; done) | (simp; omega))))
            refine Tot.pure (Tot.pure (Tot.pure ?_))
            simp
            exact bad (by omega)
        · rintro _ ⟨rfl, hJ⟩
          repeat (first | with_reducible (refine Tot.bp ?_) | with_reducible (refine Tot.bb ?_) | (refine Tot.ct ?_ ?_; focus (first | rfl | (simp (disch := omega) only [jt, ju, bl_]; done))) | (refine Tot.cf ?_ ?_; focus (first | rfl | (simp (disch := omega) only [jt, ju, bl_]; done))) | with_reducible (refine Tot.bc ?_) | ((first | refine Tot.rdx ?_ ?_ | refine Tot.apx ?_ ?_ | refine Tot.mkx ?_ ?_); focus (first | omega | (simp; done) | (simp; omega))))
          refine Tot.pure (Tot.pure ⟨qw (by omega), fun i h0 h3 => ?_⟩)
          by_cases hi : i = k
          · subst hi
            exact ⟨hw, by omega, fun c hc hc2 => hJ c hc (by omega)⟩
          · exact hI i h0 (by omega)
      · simp only [Bool.not_eq_false', decide_eq_true_eq] at hw
        repeat (first | with_reducible (refine Tot.bp ?_) | with_reducible (refine Tot.bb ?_) | (refine Tot.ct ?_ ?_; focus (first | rfl | (simp (disch := omega) only [jt, ju, bl_]; done))) | (refine Tot.cf ?_ ?_; focus (first | rfl | (simp (disch := omega) only [jt, ju, bl_]; done))) | with_reducible (refine Tot.bc ?_) | ((first | refine Tot.rdx ?_ ?_ | refine Tot.apx ?_ ?_ | refine Tot.mkx ?_ ?_); focus (first | omega | (simp; done) | (simp; omega))))
        refine Tot.pure (Tot.pure ?_)
        simp
        intro h
        exact hw (h.row k (by omega) (by omega))
    · rintro _ ⟨rfl, hI⟩
      repeat (first | with_reducible (refine Tot.bp ?_) | with_reducible (refine Tot.bb ?_) | (refine Tot.ct ?_ ?_; focus (first | rfl | (simp (disch := omega) only [jt, ju, bl_]; done))) | (refine Tot.cf ?_ ?_; focus (first | rfl | (simp (disch := omega) only [jt, ju, bl_]; done))) | with_reducible (refine Tot.bc ?_) | ((first | refine Tot.rdx ?_ ?_ | refine Tot.apx ?_ ?_ | refine Tot.mkx ?_ ?_); focus (first | omega | (simp; done) | (simp; omega))))
      refine Tot.pure (Tot.pure ?_)
      simp
      exact ⟨by omega, by omega, hB, b1.symm, fun i h0 h1 => (hI i h0 h1).1, fun i h0 h1 => (hI i h0 h1).2.1, fun i c h0 h1 => (hI i h0 h1).2.2 c⟩
  refine key.mono fun b hb => ?_
  rw [Bool.eq_iff_iff, hb, Q9]
end Go.Proofs.YtpohfkgjghiofaaGreat

namespace Go.Proofs.YtpohfkgjghiofaaGreat
open Go Go.RowKit L
set_option linter.unusedVariables false
set_option linter.unusedSimpArgs false
theorem Qw {α : Type} [Inhabited α] {l : List α} {k : Nat} (h : k < l.length) (x : α) : x ∈ l.take (k + 1) ↔ x ∈ l.take k ∨ x = at' l (k : Int) := by
  rw [List.take_succ_eq_append_getElem h, J7 h, List.mem_append]; simp
theorem Js {l : List Bool} {z : Int} {j : Nat} (h0 : 0 ≤ z) (h1 : z < l.length) : onB (l.set z.toNat true) j ↔ (j : Int) = z ∨ onB l j := by
  rw [zl1 (by omega)]
  constructor
  · rintro (rfl | h)
    · left; omega
    · exact .inr h
  · rintro (h | h)
    · left; omega
    · exact .inr h
theorem ziv {l : List Bool} {z : Int} (h0 : 0 ≤ z) (h1 : z < l.length) (h : at' l z = false) : offs (l.set z.toNat true) + 1 = offs l := by
  refine zj6 ?_
  obtain ⟨k, rfl⟩ := Int.eq_ofNat_of_zero_le h0
  have hk : k < l.length := by omega
  rw [J7 hk] at h
  simp [hk, h]
theorem zhq (n : Nat) (beg : List Int) (to : Int → G (List Int)) (E : Nat → Nat → Prop) (hn : n ≤ 100000) (hbl : beg.length ≤ 100000) (hb : ∀ x ∈ beg, 0 ≤ x ∧ x < n)
    (hto : ∀ i : Nat, i < n → Tot (to i) (fun l => l.length ≤ 1000000000 ∧ (∀ x ∈ l, 0 ≤ x ∧ x < n) ∧ ∀ j : Nat, (j : Int) ∈ l ↔ E i j)) : Tot (J1 n beg to) (· = zbq n E fun i => (i : Int) ∈ beg) := by
  unfold J1
  repeat (first | with_reducible (refine Tot.bp ?_) | with_reducible (refine Tot.bb ?_) | (refine Tot.ct ?_ ?_; focus (first | rfl | (simp (disch := omega) only [jt, ju, bl_]; done))) | (refine Tot.cf ?_ ?_; focus (first | rfl | (simp (disch := omega) only [jt, ju, bl_]; done))) | with_reducible (refine Tot.bc ?_) | ((first | refine Tot.rdx ?_ ?_ | refine Tot.apx ?_ ?_ | refine Tot.mkx ?_ ?_); focus (first | omega | (simp; done) | (simp; omega))))
  refine Tot.someB (zm1 (by omega)) ?_
  refine Tot.part (fun r => r.length = n ∧ ∀ i : Nat, onB r i ↔ (i : Int) ∈ beg) ?_ ?_
  · refine Tot.forC (fun s => s.1) beg.length (fun k s => s.1 = (k : Int) ∧ s.2.length = n ∧ ∀ i : Nat, onB s.2 i ↔ (i : Int) ∈ beg.take k) (fun k s h => h.1) ?_ ?_ ⟨rfl, by simp, fun i => by simp [zjl]⟩
    · rintro k ⟨_, l⟩ hk ⟨rfl, h1, h2⟩
      simp only at h1 h2
      have hx := hb _ (zdm (l := beg) (z := (k : Int)) (by omega) (by omega))
      repeat (first | with_reducible (refine Tot.bp ?_) | with_reducible (refine Tot.bb ?_) | (refine Tot.ct ?_ ?_; focus (first | rfl | (simp (disch := omega) only [jt, ju, bl_]; done))) | (refine Tot.cf ?_ ?_; focus (first | rfl | (simp (disch := omega) only [jt, ju, bl_]; done))) | with_reducible (refine Tot.bc ?_) | ((first | refine Tot.rdx ?_ ?_ | refine Tot.apx ?_ ?_ | refine Tot.mkx ?_ ?_); focus (first | omega | (simp; done) | (simp; omega))))
      refine Tot.pure ⟨qw (by omega), by simp [h1], fun i => ?_⟩
      simp only
      rw [Js hx.1 (by omega), h2, Qw hk]
      constructor <;> (rintro (h | h) <;> simp [h])
    · rintro ⟨_, l⟩ ⟨rfl, h1, h2⟩
      simp only at h1 h2
      repeat (first | with_reducible (refine Tot.bp ?_) | with_reducible (refine Tot.bb ?_) | (refine Tot.ct ?_ ?_; focus (first | rfl | (simp (disch := omega) only [jt, ju, bl_]; done))) | (refine Tot.cf ?_ ?_; focus (first | rfl | (simp (disch := omega) only [jt, ju, bl_]; done))) | with_reducible (refine Tot.bc ?_) | ((first | refine Tot.rdx ?_ ?_ | refine Tot.apx ?_ ?_ | refine Tot.mkx ?_ ?_); focus (first | omega | (simp; done) | (simp; omega))))
      refine Tot.pure ⟨h1, fun i => ?_⟩
      rw [h2, List.take_length]
  · rintro m ⟨m1, m2⟩
    refine Tot.part (· = zbq n E fun i => (i : Int) ∈ beg) ?_ (fun a ha => Tot.pure ha)
    refine Tot.loop (fun s : List Bool × List Int => s.1.length = n ∧ (∀ x ∈ s.2, 0 ≤ x ∧ x < n ∧ onB s.1 x.toNat) ∧ (∀ i, onB s.1 i → Rch E (fun i => (i : Int) ∈ beg) i) ∧ (∀ i : Nat, (i : Int) ∈ beg → onB s.1 i) ∧ (∀ i j, onB s.1 i → E i j → onB s.1 j ∨ (i : Int) ∈ s.2) ∧ offs s.1 + s.2.length ≤ n + beg.length) (fun s : List Bool × List Int => 2 * offs s.1 + s.2.length) ?_ ⟨m1, ?_, fun i hi => .base ((m2 i).1 hi), fun i hi => (m2 i).2 hi, fun i j hi _ => .inr ((m2 i).1 hi), ?_⟩
    · rintro ⟨l, wait⟩ ⟨h1, h2, h3, h4, h5, h6⟩
      simp only at h1 h2 h3 h4 h5 h6
      cases wait with
      | nil =>
        repeat (first | with_reducible (refine Tot.bp ?_) | with_reducible (refine Tot.bb ?_) | (refine Tot.ct ?_ ?_; focus (first | rfl | (simp (disch := omega) only [jt, ju, bl_]; done))) | (refine Tot.cf ?_ ?_; focus (first | rfl | (simp (disch := omega) only [jt, ju, bl_]; done))) | with_reducible (refine Tot.bc ?_) | ((first | refine Tot.rdx ?_ ?_ | refine Tot.apx ?_ ?_ | refine Tot.mkx ?_ ?_); focus (first | omega | (simp; done) | (simp; omega))))
        refine Tot.pure (zl2 h1 h3 h4 fun i j hi he => ?_)
        rcases h5 i j hi he with h | h
        · exact h
        · simp at h
      | cons x rest =>
        have hx := h2 x (by simp)
        obtain ⟨q, rfl⟩ := Int.eq_ofNat_of_zero_le hx.1
        simp only [List.length_cons] at h6
        repeat (first | with_reducible (refine Tot.bp ?_) | with_reducible (refine Tot.bb ?_) | (refine Tot.ct ?_ ?_; focus (first | rfl | (simp (disch := omega) only [jt, ju, bl_]; done))) | (refine Tot.cf ?_ ?_; focus (first | rfl | (simp (disch := omega) only [jt, ju, bl_]; done))) | with_reducible (refine Tot.bc ?_) | ((first | refine Tot.rdx ?_ ?_ | refine Tot.apx ?_ ?_ | refine Tot.mkx ?_ ?_); focus (first | omega | (simp; done) | (simp; omega))))
        refine Tot.someB zml ?_
        refine Tot.bind ((hto q (by omega)).mono fun nx hnx => ?_)
        obtain ⟨n0, n1, n2⟩ := hnx
        refine Tot.part (fun (r : List Bool × List Int) => r.1.length = n ∧ LeB l r.1 ∧ (∀ y ∈ r.2, 0 ≤ y ∧ y < n ∧ onB r.1 y.toNat) ∧ (∀ i, onB r.1 i → Rch E (fun i => (i : Int) ∈ beg) i) ∧ (∀ y ∈ nx, onB r.1 y.toNat) ∧ (∀ i, onB r.1 i → onB l i ∨ (i : Int) ∈ r.2) ∧ (∀ y ∈ rest, y ∈ r.2) ∧ offs r.1 + r.2.length = offs l + rest.length ∧ offs r.1 ≤ offs l) ?_ ?_
        · refine Tot.forC (fun s => s.1) nx.length (fun k (s : Int × List Bool × List Int) => s.1 = (k : Int) ∧ s.2.1.length = n ∧ LeB l s.2.1 ∧ (∀ y ∈ s.2.2, 0 ≤ y ∧ y < n ∧ onB s.2.1 y.toNat) ∧ (∀ i, onB s.2.1 i → Rch E (fun i => (i : Int) ∈ beg) i) ∧ (∀ y ∈ nx.take k, onB s.2.1 y.toNat) ∧ (∀ i, onB s.2.1 i → onB l i ∨ (i : Int) ∈ s.2.2) ∧ (∀ y ∈ rest, y ∈ s.2.2) ∧ offs s.2.1 + s.2.2.length = offs l + rest.length ∧ offs s.2.1 ≤ offs l) (fun k s h => h.1) ?_ ?_ ⟨rfl, h1, LeB.refl _, fun y hy => h2 y (by simp [hy]), h3, by simp, fun i hi => .inl hi, fun y hy => hy, rfl, Nat.le_refl _⟩
          · rintro k ⟨_, a, w⟩ hk ⟨rfl, k1, k2, k3, k4, k5, k6, k7, k8, k9⟩
            simp only at k1 k2 k3 k4 k5 k6 k7 k8 k9
            have hmem := zdm (l := nx) (z := (k : Int)) (by omega) (by omega)
            have hy := n1 _ hmem
            have ho := zjk l
            repeat (first | with_reducible (refine Tot.bp ?_) | with_reducible (refine Tot.bb ?_) | (refine Tot.ct ?_ ?_; focus (first | rfl | (simp (disch := omega) only [jt, ju, bl_]; done))) | (refine Tot.cf ?_ ?_; focus (first | rfl | (simp (disch := omega) only [jt, ju, bl_]; done))) | with_reducible (refine Tot.bc ?_) | ((first | refine Tot.rdx ?_ ?_ | refine Tot.apx ?_ ?_ | refine Tot.mkx ?_ ?_); focus (first | omega | (simp; done) | (simp; omega))))
            refine Tot.cond (fun hb => ?_) fun hb => ?_
            · simp only [Bool.not_eq_true'] at hb
              repeat (first | with_reducible (refine Tot.bp ?_) | with_reducible (refine Tot.bb ?_) | (refine Tot.ct ?_ ?_; focus (first | rfl | (simp (disch := omega) only [jt, ju, bl_]; done))) | (refine Tot.cf ?_ ?_; focus (first | rfl | (simp (disch := omega) only [jt, ju, bl_]; done))) | with_reducible (refine Tot.bc ?_) | ((first | refine Tot.rdx ?_ ?_ | refine Tot.apx ?_ ?_ | refine Tot.mkx ?_ ?_); focus (first | omega | (simp; done) | (simp; omega))))
              have hof := ziv hy.1 (by omega) hb
              obtain ⟨j, hj⟩ := Int.eq_ofNat_of_zero_le hy.1
              refine Tot.pure ⟨qw (by omega), by simp [k1], k2.trans (LeB.set (by omega)), ?_, ?_, ?_, ?_, ?_, ?_, ?_⟩
              all_goals simp only
              · intro y hy2
                rcases List.mem_append.1 hy2 with h | h
                · have := k3 y h
                  exact ⟨this.1, this.2.1, (Js hy.1 (by omega)).2 (.inr this.2.2)⟩
                · simp at h; subst h
                  exact ⟨hy.1, hy.2, (Js hy.1 (by omega)).2 (.inl (by omega))⟩
              · intro i hi
                rcases (Js hy.1 (by omega)).1 hi with h | h
                · exact .step (h3 q (by simpa using hx.2.2)) ((n2 i).1 (h ▸ hmem))
                · exact k4 i h
              · intro y hy2
                refine (Js hy.1 (by omega)).2 ?_
                rcases (Qw hk y).1 hy2 with h | h
                · exact .inr (k5 y h)
                · left; subst h; omega
              · intro i hi
                rcases (Js hy.1 (by omega)).1 hi with h | h
                · right; simp [h]
                · rcases k6 i h with h | h
                  · exact .inl h
                  · right; simp [h]
              · intro y hy2; simp [k7 y hy2]
              · simp; omega
              · omega
            · simp only [Bool.not_eq_false'] at hb
              refine Tot.pure ⟨qw (by omega), k1, k2, k3, k4, ?_, k6, k7, k8, k9⟩
              intro y hy2
              rcases (Qw hk y).1 hy2 with h | h
              · exact k5 y h
              · subst h; exact (zk0 hy.1).1 hb
          · rintro ⟨_, a, w⟩ ⟨rfl, k1, k2, k3, k4, k5, k6, k7, k8, k9⟩
            repeat (first | with_reducible (refine Tot.bp ?_) | with_reducible (refine Tot.bb ?_) | (refine Tot.ct ?_ ?_; focus (first | rfl | (simp (disch := omega) only [jt, ju, bl_]; done))) | (refine Tot.cf ?_ ?_; focus (first | rfl | (simp (disch := omega) only [jt, ju, bl_]; done))) | with_reducible (refine Tot.bc ?_) | ((first | refine Tot.rdx ?_ ?_ | refine Tot.apx ?_ ?_ | refine Tot.mkx ?_ ?_); focus (first | omega | (simp; done) | (simp; omega))))
            rw [List.take_length] at k5
            exact Tot.pure ⟨k1, k2, k3, k4, k5, k6, k7, k8, k9⟩
        · rintro ⟨a, w⟩ ⟨k1, k2, k3, k4, k5, k6, k7, k8, k9⟩
          simp only at k1 k2 k3 k4 k5 k6 k7 k8 k9
          refine Tot.pure ⟨⟨k1, k3, k4, fun i hi => k2.2 i (h4 i hi), ?_, ?_⟩, ?_⟩
          · intro i j hi he
            simp only at hi ⊢
            rcases k6 i hi with h | h
            · rcases h5 i j h he with h | h
              · exact .inl (k2.2 j h)
              · rcases List.mem_cons.1 h with h | h
                · left
                  have : i = q := by omega
                  subst this
                  have := k5 _ ((n2 j).2 he)
                  simpa using this
                · exact .inr (k7 _ h)
            · exact .inr h
          · simp only; omega
          · simp only [List.length_cons]; omega
    · intro x hx
      have := hb x hx
      obtain ⟨q, rfl⟩ := Int.eq_ofNat_of_zero_le this.1
      exact ⟨this.1, this.2, by simpa using (m2 q).2 hx⟩
    · have := zjk m
      simp only; omega
end Go.Proofs.YtpohfkgjghiofaaGreat

namespace Go.Proofs.YtpohfkgjghiofaaGreat
open Go Go.RowKit L
set_option linter.unusedVariables false
set_option linter.unusedSimpArgs false
def nxt (d : je) (i : Nat) (c : Int) : Int := at' (at' d.jd i) c
def dE (d : je) (i j : Nat) : Prop := i < d.jd.length ∧ ∃ c : Int, 0 ≤ c ∧ c < d.jf ∧ nxt d i c = j
def Y3 (d : je) (i : Nat) : Int := at' d.jl i
noncomputable def Je (d : je) : List Bool := if zr d then zbq d.jd.length (dE d) (fun i => i = 0) else []
noncomputable def Vq (d : je) : List Bool := if zr d then zbq d.jd.length (fun i j => dE d j i) (fun i => i < d.jd.length ∧ 0 ≤ Y3 d i) else []
theorem Ya {d : je} (hd : DOk d) (hm : MOk d) : 0 ≤ d.jf ∧ d.jf ≤ 256 := by
  have := ze2 hd.cls
  rw [← hm.wid]; exact ⟨this.1, this.2.1⟩
theorem ze5 {α : Type} [Inhabited α] {l : List α} {k : Nat} (h : k < l.length) (p : α → Bool) : (l.take (k + 1)).filter p = if p (at' l (k : Int)) then (l.take k).filter p ++ [at' l (k : Int)] else (l.take k).filter p := by
  rw [List.take_succ_eq_append_getElem h, J7 h, List.filter_append]
  by_cases hp : p l[k] <;> simp [hp]
theorem znj (d : je) (hd : DOk d) (hm : MOk d) (i : Nat) (hi : i < d.jd.length) : Tot (Vx d i) (· = (at' d.jd i).filter fun x => decide (0 ≤ x)) := by
  unfold Vx
  have hw := Ya hd hm
  have hr := hm.row i (by omega) (by omega)
  repeat (first | with_reducible (refine Tot.bp ?_) | with_reducible (refine Tot.bb ?_) | (refine Tot.ct ?_ ?_; focus (first | rfl | (simp (disch := omega) only [jt, ju, bl_]; done))) | (refine Tot.cf ?_ ?_; focus (first | rfl | (simp (disch := omega) only [jt, ju, bl_]; done))) | with_reducible (refine Tot.bc ?_) | ((first | refine Tot.rdx ?_ ?_ | refine Tot.apx ?_ ?_ | refine Tot.mkx ?_ ?_); focus (first | omega | (simp; done) | (simp; omega))))
  refine Tot.part (· = (at' d.jd i).filter fun x => decide (0 ≤ x)) ?_ fun a ha => Tot.pure ha
  refine Tot.forC (fun s => s.1) (at' d.jd i).length (fun k (s : Int × List Int) => s.1 = (k : Int) ∧ s.2 = ((at' d.jd i).take k).filter fun x => decide (0 ≤ x)) (fun k s h => h.1) ?_ ?_ ⟨rfl, by simp⟩
  · rintro k ⟨_, l⟩ hk ⟨rfl, h⟩
    simp only at h
    have hl : l.length ≤ k := by rw [h]; exact Nat.le_trans (List.length_filter_le ..) (by simp; omega)
    have hs := ze5 hk (fun x => decide (0 ≤ x))
    rw [← h] at hs
    repeat (first | with_reducible (refine Tot.bp ?_) | with_reducible (refine Tot.bb ?_) | (refine Tot.ct ?_ ?_; focus (first | rfl | (simp (disch := omega) only [jt, ju, bl_]; done))) | (refine Tot.cf ?_ ?_; focus (first | rfl | (simp (disch := omega) only [jt, ju, bl_]; done))) | with_reducible (refine Tot.bc ?_) | ((first | refine Tot.rdx ?_ ?_ | refine Tot.apx ?_ ?_ | refine Tot.mkx ?_ ?_); focus (first | omega | (simp; done) | (simp; omega))))
    refine Tot.cond (fun hb => ?_) fun hb => ?_
    · repeat (first | with_reducible (refine Tot.bp ?_) | with_reducible (refine Tot.bb ?_) | (refine Tot.ct ?_ ?_; focus (first | rfl | (simp (disch := omega) only [jt, ju, bl_]; done))) | (refine Tot.cf ?_ ?_; focus (first | rfl | (simp (disch := omega) only [jt, ju, bl_]; done))) | with_reducible (refine Tot.bc ?_) | ((first | refine Tot.rdx ?_ ?_ | refine Tot.apx ?_ ?_ | refine Tot.mkx ?_ ?_); focus (first | omega | (simp; done) | (simp; omega))))
      rw [hb, if_pos rfl] at hs
      exact Tot.pure ⟨qw (by omega), hs.symm⟩
    · rw [hb] at hs
      exact Tot.pure ⟨qw (by omega), hs.symm⟩
  · rintro ⟨_, l⟩ ⟨rfl, h⟩
    repeat (first | with_reducible (refine Tot.bp ?_) | with_reducible (refine Tot.bb ?_) | (refine Tot.ct ?_ ?_; focus (first | rfl | (simp (disch := omega) only [jt, ju, bl_]; done))) | (refine Tot.cf ?_ ?_; focus (first | rfl | (simp (disch := omega) only [jt, ju, bl_]; done))) | with_reducible (refine Tot.bc ?_) | ((first | refine Tot.rdx ?_ ?_ | refine Tot.apx ?_ ?_ | refine Tot.mkx ?_ ?_); focus (first | omega | (simp; done) | (simp; omega))))
    rw [List.take_length] at h
    exact Tot.pure h
theorem zl0 {d : je} (hm : MOk d) {i : Nat} (hi : i < d.jd.length) {x : Int} : x ∈ at' d.jd i ↔ ∃ c : Int, 0 ≤ c ∧ c < d.jf ∧ nxt d i c = x := by
  have hr := hm.row i (by omega) (by omega)
  constructor
  · intro h
    obtain ⟨c, hc, rfl⟩ := List.getElem_of_mem h
    exact ⟨c, by omega, by omega, by unfold nxt; rw [J7 hc]⟩
  · rintro ⟨c, h0, h1, rfl⟩
    exact zdm h0 (by omega)
theorem zka (d : je) (hd : DOk d) (hm : MOk d) (i : Nat) (hi : i < d.jd.length) : ((at' d.jd i).filter fun x => decide (0 ≤ x)).length ≤ 256 ∧ (∀ x ∈ (at' d.jd i).filter fun x => decide (0 ≤ x), 0 ≤ x ∧ x < d.jd.length) ∧ ∀ j : Nat, (j : Int) ∈ ((at' d.jd i).filter fun x => decide (0 ≤ x)) ↔ dE d i j := by
  have hw := Ya hd hm
  have hr := hm.row i (by omega) (by omega)
  refine ⟨Nat.le_trans (List.length_filter_le ..) (by omega), fun x hx => ?_, fun j => ?_⟩
  · obtain ⟨h1, h2⟩ := List.mem_filter.1 hx
    obtain ⟨c, h3, h4, rfl⟩ := (zl0 hm hi).1 h1
    have := hm.nx i c (by omega) (by omega) h3 h4
    simp at h2
    exact ⟨h2, this.2⟩
  · rw [List.mem_filter, zl0 hm hi]
    unfold dE
    simp [hi]
theorem zbd (d : je) (hd : DOk d) (hn : d.jd.length ≤ 300) : Tot (zz d) (· = Je d) := by
  unfold zz Je
  refine Tot.bindE (zau d hd) ?_
  cases hR : zr d
  · repeat (first | with_reducible (refine Tot.bp ?_) | with_reducible (refine Tot.bb ?_) | (refine Tot.ct ?_ ?_; focus (first | rfl | (simp (disch := omega) only [jt, ju, bl_]; done))) | (refine Tot.cf ?_ ?_; focus (first | rfl | (simp (disch := omega) only [jt, ju, bl_]; done))) | with_reducible (refine Tot.bc ?_) | ((first | refine Tot.rdx ?_ ?_ | refine Tot.apx ?_ ?_ | refine Tot.mkx ?_ ?_); focus (first | omega | (simp; done) | (simp; omega))))
    exact Tot.pure rfl
  have hm := (Q9 d).1 hR
  have := hm.n0
  repeat (first | with_reducible (refine Tot.bp ?_) | with_reducible (refine Tot.bb ?_) | (refine Tot.ct ?_ ?_; focus (first | rfl | (simp (disch := omega) only [jt, ju, bl_]; done))) | (refine Tot.cf ?_ ?_; focus (first | rfl | (simp (disch := omega) only [jt, ju, bl_]; done))) | with_reducible (refine Tot.bc ?_) | ((first | refine Tot.rdx ?_ ?_ | refine Tot.apx ?_ ?_ | refine Tot.mkx ?_ ?_); focus (first | omega | (simp; done) | (simp; omega))))
  refine Tot.part (· = zbq d.jd.length (dE d) (fun i => i = 0)) ?_ (fun a ha => Tot.pure ha)
  have h := zhq d.jd.length [0] (fun y => Jp y d) (dE d) (by omega) (by simp) (fun x hx => by simp at hx; subst hx; omega) (fun i hi => by
    unfold Jp
    refine Tot.bindE (znj d hd hm i hi) (Tot.pure ?_)
    obtain ⟨h1, h2, h3⟩ := zka d hd hm i hi
    exact ⟨by omega, h2, h3⟩)
  refine h.mono fun a ha => ?_
  rw [ha]
  congr 1
  funext i
  simp
theorem zb6 (d : je) (hd : DOk d) (hn : d.jd.length ≤ 300) : Tot (zl d) (· = Je d) := by
  unfold zl Je
  refine Tot.bindE (Zt d hd) ?_
  cases hR : zr d
  · repeat (first | with_reducible (refine Tot.bp ?_) | with_reducible (refine Tot.bb ?_) | (refine Tot.ct ?_ ?_; focus (first | rfl | (simp (disch := omega) only [jt, ju, bl_]; done))) | (refine Tot.cf ?_ ?_; focus (first | rfl | (simp (disch := omega) only [jt, ju, bl_]; done))) | with_reducible (refine Tot.bc ?_) | ((first | refine Tot.rdx ?_ ?_ | refine Tot.apx ?_ ?_ | refine Tot.mkx ?_ ?_); focus (first | omega | (simp; done) | (simp; omega))))
    exact Tot.pure rfl
  have hm := (Q9 d).1 hR
  have hn0 := hm.n0
  have hw := Ya hd hm
  repeat (first | with_reducible (refine Tot.bp ?_) | with_reducible (refine Tot.bb ?_) | (refine Tot.ct ?_ ?_; focus (first | rfl | (simp (disch := omega) only [jt, ju, bl_]; done))) | (refine Tot.cf ?_ ?_; focus (first | rfl | (simp (disch := omega) only [jt, ju, bl_]; done))) | with_reducible (refine Tot.bc ?_) | ((first | refine Tot.rdx ?_ ?_ | refine Tot.apx ?_ ?_ | refine Tot.mkx ?_ ?_); focus (first | omega | (simp; done) | (simp; omega))))
  refine Tot.part (· = zbq d.jd.length (dE d) (fun i => i = 0)) ?_ (fun a ha => Tot.pure ha)
  generalize hA : (List.replicate (d.jd.length : Int).toNat false).set (0 : Int).toNat true = A
  have hA1 : A.length = d.jd.length := by rw [← hA]; simp
  have hA2 : ∀ i, onB A i ↔ i = 0 := fun i => by
    rw [← hA, Js (by omega) (by simp; omega)]
    simp [zjl]
  have hA3 : offs A + 1 = d.jd.length := by
    rw [← hA, ziv (by omega) (by simp; omega) (by rw [show ((0 : Int)) = ((0 : Nat) : Int) from rfl, J7 (by simp; omega)]; simp)]
    unfold offs; simp
  refine Tot.forC (fun s => s.1) d.jd.length (fun k (s : Int × List Bool) => s.1 = (k : Int) ∧ s.2.length = d.jd.length ∧ onB s.2 0 ∧ (∀ i, onB s.2 i → Rch (dE d) (fun i => i = 0) i) ∧ (s.2 = zbq d.jd.length (dE d) (fun i => i = 0) ∨ offs s.2 + k ≤ offs A)) (fun k s h => h.1) ?_ ?_ ⟨rfl, hA1, (hA2 0).2 rfl, fun i hi => .base ((hA2 i).1 hi), .inr (Nat.le_refl _)⟩
  · rintro k ⟨_, a⟩ hk ⟨rfl, h1, h0, h2, h3⟩
    simp only at h1 h0 h2 h3
    repeat (first | with_reducible (refine Tot.bp ?_) | with_reducible (refine Tot.bb ?_) | (refine Tot.ct ?_ ?_; focus (first | rfl | (simp (disch := omega) only [jt, ju, bl_]; done))) | (refine Tot.cf ?_ ?_; focus (first | rfl | (simp (disch := omega) only [jt, ju, bl_]; done))) | with_reducible (refine Tot.bc ?_) | ((first | refine Tot.rdx ?_ ?_ | refine Tot.apx ?_ ?_ | refine Tot.mkx ?_ ?_); focus (first | omega | (simp; done) | (simp; omega))))
    refine Tot.part (fun b => Round (dE d) (fun i => i = 0) a b) ?_ fun b hb => Tot.pure ⟨qw (by omega), hb.le.1 ▸ h1, hb.le.2 _ h0, hb.sound, hb.next h1 h3⟩
    refine Tot.forC (fun s => s.1) d.jd.length (fun i (s : Int × List Bool) => s.1 = (i : Int) ∧ s.2.length = d.jd.length ∧ LeB a s.2 ∧ (∀ i, onB s.2 i → Rch (dE d) (fun i => i = 0) i) ∧ (a = s.2 → ∀ i' < i, ∀ j, onB a i' → dE d i' j → onB a j)) (fun k s h => h.1) ?_ ?_ ⟨rfl, h1, LeB.refl _, h2, fun _ i' h => by omega⟩
    · rintro i ⟨_, b⟩ hi ⟨rfl, g1, g2, g3, g4⟩
      simp only at g1 g2 g3 g4
      repeat (first | with_reducible (refine Tot.bp ?_) | with_reducible (refine Tot.bb ?_) | (refine Tot.ct ?_ ?_; focus (first | rfl | (simp (disch := omega) only [jt, ju, bl_]; done))) | (refine Tot.cf ?_ ?_; focus (first | rfl | (simp (disch := omega) only [jt, ju, bl_]; done))) | with_reducible (refine Tot.bc ?_) | ((first | refine Tot.rdx ?_ ?_ | refine Tot.apx ?_ ?_ | refine Tot.mkx ?_ ?_); focus (first | omega | (simp; done) | (simp; omega))))
      refine Tot.part (fun b => b.length = d.jd.length ∧ LeB a b ∧ (∀ i, onB b i → Rch (dE d) (fun i => i = 0) i) ∧ (a = b → ∀ i' < i + 1, ∀ j, onB a i' → dE d i' j → onB a j)) ?_ fun b hb => Tot.pure ⟨qw (by omega), hb⟩
      refine Tot.forC (fun s => s.1) d.jf.toNat (fun c (s : Int × List Bool) => s.1 = (c : Int) ∧ s.2.length = d.jd.length ∧ LeB a s.2 ∧ (∀ i, onB s.2 i → Rch (dE d) (fun i => i = 0) i) ∧ (a = s.2 → (∀ i' < i, ∀ j, onB a i' → dE d i' j → onB a j) ∧ (onB a i → ∀ c' : Int, 0 ≤ c' → c' < c → ∀ j : Nat, nxt d i c' = j → onB a j))) (fun k s h => h.1) ?_ ?_ ⟨rfl, g1, g2, g3, fun e => ⟨g4 e, fun _ c' h h' => by omega⟩⟩
      · rintro c ⟨_, b⟩ hc ⟨rfl, k1, k2, k3, k4⟩
        simp only at k1 k2 k3 k4
        have hrow := hm.row i (by omega) (by omega)
        have hnx := hm.nx i c (by omega) (by omega) (by omega) (by omega)
        repeat (first | with_reducible (refine Tot.bp ?_) | with_reducible (refine Tot.bb ?_) | (refine Tot.ct ?_ ?_; focus (first | rfl | (simp (disch := omega) only [jt, ju, bl_]; done))) | (refine Tot.cf ?_ ?_; focus (first | rfl | (simp (disch := omega) only [jt, ju, bl_]; done))) | with_reducible (refine Tot.bc ?_) | ((first | refine Tot.rdx ?_ ?_ | refine Tot.apx ?_ ?_ | refine Tot.mkx ?_ ?_); focus (first | omega | (simp; done) | (simp; omega))))
        cases hon : at' b (i : Int)
        · repeat (first | with_reducible (refine Tot.bp ?_) | with_reducible (refine Tot.bb ?_) | (refine Tot.ct ?_ ?_; focus (first | rfl | (simp (disch := omega) only [jt, ju, bl_]; done))) | (refine Tot.cf ?_ ?_; focus (first | rfl | (simp (disch := omega) only [jt, ju, bl_]; done))) | with_reducible (refine Tot.bc ?_) | ((first | refine Tot.rdx ?_ ?_ | refine Tot.apx ?_ ?_ | refine Tot.mkx ?_ ?_); focus (first | omega | (simp; done) | (simp; omega))))
          refine Tot.pure ⟨k1, k2, k3, fun e i' h' j => ?_⟩
          intro ho he
          by_cases hii : i' = i
          · subst hii
            have := k2.2 _ ho
            rw [← zd4, hon] at this; cases this
          · exact (k4 e).1 i' (by omega) j ho he
        · repeat (first | with_reducible (refine Tot.bp ?_) | with_reducible (refine Tot.bb ?_) | (refine Tot.ct ?_ ?_; focus (first | rfl | (simp (disch := omega) only [jt, ju, bl_]; done))) | (refine Tot.cf ?_ ?_; focus (first | rfl | (simp (disch := omega) only [jt, ju, bl_]; done))) | with_reducible (refine Tot.bc ?_) | ((first | refine Tot.rdx ?_ ?_ | refine Tot.apx ?_ ?_ | refine Tot.mkx ?_ ?_); focus (first | omega | (simp; done) | (simp; omega))))
          refine Tot.cond (fun hb => ?_) fun hb => ?_
          · simp only [decide_eq_true_eq] at hb
            repeat (first | with_reducible (refine Tot.bp ?_) | with_reducible (refine Tot.bb ?_) | (refine Tot.ct ?_ ?_; focus (first | rfl | (simp (disch := omega) only [jt, ju, bl_]; done))) | (refine Tot.cf ?_ ?_; focus (first | rfl | (simp (disch := omega) only [jt, ju, bl_]; done))) | with_reducible (refine Tot.bc ?_) | ((first | refine Tot.rdx ?_ ?_ | refine Tot.apx ?_ ?_ | refine Tot.mkx ?_ ?_); focus (first | omega | (simp; done) | (simp; omega))))
            refine Tot.pure ⟨qw (by omega), by simp [k1], k2.trans (LeB.set (by omega)), ?_, ?_⟩
            · intro j hj
              rcases (Js hb (by omega)).1 hj with h | h
              · exact .step (k3 i (zd4.1 hon)) ⟨by omega, c, by omega, by omega, h.symm⟩
              · exact k3 j h
            · intro e
              simp only at e
              have e2 : a = b := k2.antisymm (e ▸ LeB.set (by omega))
              refine ⟨(k4 e2).1, fun ho c' h0 h1 j hj => ?_⟩
              by_cases hcc : c' = c
              · subst hcc
                rw [e]
                refine (Js hb (by omega)).2 (.inl ?_)
                unfold nxt at hj
                omega
              · exact (k4 e2).2 ho c' h0 (by omega) j hj
          · simp only [decide_eq_false_iff_not] at hb
            refine Tot.pure ⟨qw (by omega), k1, k2, k3, fun e => ⟨(k4 e).1, fun ho c' h0 h1 j hj => ?_⟩⟩
            by_cases hcc : c' = c
            · subst hcc
              unfold nxt at hj
              omega
            · exact (k4 e).2 ho c' h0 (by omega) j hj
      · rintro ⟨_, b⟩ ⟨rfl, k1, k2, k3, k4⟩
        simp only at k1 k2 k3 k4
        have fin : a = b → ∀ i' < i + 1, ∀ j, onB a i' → dE d i' j → onB a j := fun e i' hi' j ho he => by
          by_cases hii : i' = i
          · subst hii
            obtain ⟨_, c, h0, h1, h2⟩ := he
            exact (k4 e).2 ho c h0 (by omega) j h2
          · exact (k4 e).1 i' (by omega) j ho he
        repeat (first | with_reducible (refine Tot.bp ?_) | with_reducible (refine Tot.bb ?_) | (refine Tot.ct ?_ ?_; focus (first | rfl | (simp (disch := omega) only [jt, ju, bl_]; done))) | (refine Tot.cf ?_ ?_; focus (first | rfl | (simp (disch := omega) only [jt, ju, bl_]; done))) | with_reducible (refine Tot.bc ?_) | ((first | refine Tot.rdx ?_ ?_ | refine Tot.apx ?_ ?_ | refine Tot.mkx ?_ ?_); focus (first | omega | (simp; done) | (simp; omega))))
        cases hon : at' b (i : Int)
        · repeat (first | with_reducible (refine Tot.bp ?_) | with_reducible (refine Tot.bb ?_) | (refine Tot.ct ?_ ?_; focus (first | rfl | (simp (disch := omega) only [jt, ju, bl_]; done))) | (refine Tot.cf ?_ ?_; focus (first | rfl | (simp (disch := omega) only [jt, ju, bl_]; done))) | with_reducible (refine Tot.bc ?_) | ((first | refine Tot.rdx ?_ ?_ | refine Tot.apx ?_ ?_ | refine Tot.mkx ?_ ?_); focus (first | omega | (simp; done) | (simp; omega))))
          exact Tot.pure ⟨k1, k2, k3, fin⟩
        · repeat (first | with_reducible (refine Tot.bp ?_) | with_reducible (refine Tot.bb ?_) | (refine Tot.ct ?_ ?_; focus (first | rfl | (simp (disch := omega) only [jt, ju, bl_]; done))) | (refine Tot.cf ?_ ?_; focus (first | rfl | (simp (disch := omega) only [jt, ju, bl_]; done))) | with_reducible (refine Tot.bc ?_) | ((first | refine Tot.rdx ?_ ?_ | refine Tot.apx ?_ ?_ | refine Tot.mkx ?_ ?_); focus (first | omega | (simp; done) | (simp; omega))))
          exact Tot.pure ⟨k1, k2, k3, fin⟩
    · rintro ⟨_, b⟩ ⟨rfl, g1, g2, g3, g4⟩
      simp only at g1 g2 g3 g4
      repeat (first | with_reducible (refine Tot.bp ?_) | with_reducible (refine Tot.bb ?_) | (refine Tot.ct ?_ ?_; focus (first | rfl | (simp (disch := omega) only [jt, ju, bl_]; done))) | (refine Tot.cf ?_ ?_; focus (first | rfl | (simp (disch := omega) only [jt, ju, bl_]; done))) | with_reducible (refine Tot.bc ?_) | ((first | refine Tot.rdx ?_ ?_ | refine Tot.apx ?_ ?_ | refine Tot.mkx ?_ ?_); focus (first | omega | (simp; done) | (simp; omega))))
      refine Tot.pure ⟨g2, g3, fun e => ⟨fun i hi => hi ▸ h0, fun i j ho he => g4 e i he.1 j ho he⟩⟩
  · rintro ⟨_, a⟩ ⟨rfl, h1, h0, h2, h3⟩
    simp only at h1 h0 h2 h3
    repeat (first | with_reducible (refine Tot.bp ?_) | with_reducible (refine Tot.bb ?_) | (refine Tot.ct ?_ ?_; focus (first | rfl | (simp (disch := omega) only [jt, ju, bl_]; done))) | (refine Tot.cf ?_ ?_; focus (first | rfl | (simp (disch := omega) only [jt, ju, bl_]; done))) | with_reducible (refine Tot.bc ?_) | ((first | refine Tot.rdx ?_ ?_ | refine Tot.apx ?_ ?_ | refine Tot.mkx ?_ ?_); focus (first | omega | (simp; done) | (simp; omega))))
    refine Tot.pure ?_
    rcases h3 with h | h
    · exact h
    · omega
end Go.Proofs.YtpohfkgjghiofaaGreat

namespace Go.Proofs.YtpohfkgjghiofaaGreat
open Go Go.RowKit L
set_option linter.unusedVariables false
set_option linter.unusedSimpArgs false
theorem za1 {α : Type} [Inhabited α] {l : List α} {z : Int} {j : Nat} {v : α} (h0 : 0 ≤ z) (h1 : z < l.length) : at' (l.set z.toNat v) (j : Int) = if (j : Int) = z then v else at' l (j : Int) := by
  by_cases h : (j : Int) = z
  · rw [if_pos h, h]; exact zoa h0 h1
  · rw [if_neg h]; exact at_ne h0 (by omega) (fun e => h e.symm)
theorem at_rep {α : Type} [Inhabited α] {n j : Nat} {v : α} (h : j < n) : at' (List.replicate n v) (j : Int) = v := by
  rw [J7 (by simpa using h)]; simp
theorem zdf (d : je) (hd : DOk d) (hn : d.jd.length ≤ 300) : Tot (Qm d) (· = Vq d) := by
  unfold Qm Vq
  refine Tot.bindE (zau d hd) ?_
  cases hR : zr d
  · repeat (first | with_reducible (refine Tot.bp ?_) | with_reducible (refine Tot.bb ?_) | (refine Tot.ct ?_ ?_; focus (first | rfl | (simp (disch := omega) only [jt, ju, bl_]; done))) | (refine Tot.cf ?_ ?_; focus (first | rfl | (simp (disch := omega) only [jt, ju, bl_]; done))) | with_reducible (refine Tot.bc ?_) | ((first | refine Tot.rdx ?_ ?_ | refine Tot.apx ?_ ?_ | refine Tot.mkx ?_ ?_); focus (first | omega | (simp; done) | (simp; omega))))
    exact Tot.pure rfl
  have hm := (Q9 d).1 hR
  have hn0 := hm.n0
  have hlab := hm.lab
  have hw := Ya hd hm
  repeat (first | with_reducible (refine Tot.bp ?_) | with_reducible (refine Tot.bb ?_) | (refine Tot.ct ?_ ?_; focus (first | rfl | (simp (disch := omega) only [jt, ju, bl_]; done))) | (refine Tot.cf ?_ ?_; focus (first | rfl | (simp (disch := omega) only [jt, ju, bl_]; done))) | with_reducible (refine Tot.bc ?_) | ((first | refine Tot.rdx ?_ ?_ | refine Tot.apx ?_ ?_ | refine Tot.mkx ?_ ?_); focus (first | omega | (simp; done) | (simp; omega))))
  generalize hA : List.replicate (d.jd.length : Int).toNat ([] : List Int) = A
  have hA1 : A.length = d.jd.length := by rw [← hA]; simp
  have hA2 : ∀ j : Nat, j < d.jd.length → at' A (j : Int) = [] := fun j hj => by rw [← hA]; exact at_rep (by simpa using hj)
  refine Tot.part (fun (r : List Int × List (List Int)) => r.1.length ≤ d.jd.length ∧ (∀ x ∈ r.1, 0 ≤ x) ∧ (∀ i : Nat, (i : Int) ∈ r.1 ↔ i < d.jd.length ∧ 0 ≤ Y3 d i) ∧ r.2.length = d.jd.length ∧ ∀ j : Nat, j < d.jd.length → (at' r.2 j).length ≤ d.jd.length * 256 ∧ (∀ x ∈ at' r.2 j, 0 ≤ x) ∧ ∀ i : Nat, (i : Int) ∈ at' r.2 j ↔ dE d i j) ?_ ?_
  · refine Tot.forC (fun s => s.1) d.jd.length (fun k (s : Int × List Int × List (List Int)) => s.1 = (k : Int) ∧ s.2.1.length ≤ k ∧ (∀ x ∈ s.2.1, 0 ≤ x) ∧ (∀ i : Nat, (i : Int) ∈ s.2.1 ↔ i < k ∧ 0 ≤ Y3 d i) ∧ s.2.2.length = d.jd.length ∧ ∀ j : Nat, j < d.jd.length → (at' s.2.2 j).length ≤ k * 256 ∧ (∀ x ∈ at' s.2.2 j, 0 ≤ x) ∧ ∀ i : Nat, (i : Int) ∈ at' s.2.2 j ↔ i < k ∧ dE d i j) (fun k s h => h.1) ?_ ?_ ⟨rfl, by simp, by simp, by simp, hA1, fun j hj => by rw [hA2 j hj]; simp⟩
    · rintro k ⟨_, lab, back⟩ hk ⟨rfl, h1, h2, h3, h4, h5⟩
      simp only at h1 h2 h3 h4 h5
      obtain ⟨o1, o2, o3⟩ := zka d hd hm k hk
      repeat (first | with_reducible (refine Tot.bp ?_) | with_reducible (refine Tot.bb ?_) | (refine Tot.ct ?_ ?_; focus (first | rfl | (simp (disch := omega) only [jt, ju, bl_]; done))) | (refine Tot.cf ?_ ?_; focus (first | rfl | (simp (disch := omega) only [jt, ju, bl_]; done))) | with_reducible (refine Tot.bc ?_) | ((first | refine Tot.rdx ?_ ?_ | refine Tot.apx ?_ ?_ | refine Tot.mkx ?_ ?_); focus (first | omega | (simp; done) | (simp; omega))))
      refine Tot.bindE (znj d hd hm k hk) ?_
      generalize (at' d.jd k).filter (fun x => decide (0 ≤ x)) = on at o1 o2 o3 ⊢
      refine Tot.bb ?_
      refine Tot.part (fun (b : List (List Int)) => b.length = d.jd.length ∧ ∀ j : Nat, j < d.jd.length → (at' b j).length ≤ (k + 1) * 256 ∧ (∀ x ∈ at' b j, 0 ≤ x) ∧ ∀ i : Nat, (i : Int) ∈ at' b j ↔ i < k + 1 ∧ dE d i j) ?_ ?_
      · refine Tot.forC (fun s => s.1) on.length (fun c (s : Int × List (List Int)) => s.1 = (c : Int) ∧ s.2.length = d.jd.length ∧ ∀ j : Nat, j < d.jd.length → (at' s.2 j).length ≤ k * 256 + c ∧ (∀ x ∈ at' s.2 j, 0 ≤ x) ∧ ∀ i : Nat, (i : Int) ∈ at' s.2 j ↔ (i < k ∧ dE d i j) ∨ (i = k ∧ (j : Int) ∈ on.take c)) (fun k s h => h.1) ?_ ?_ ⟨rfl, h4, fun j hj => by simpa using h5 j hj⟩
        · rintro c ⟨_, b⟩ hc ⟨rfl, g1, g2⟩
          simp only at g1 g2
          have hmem := zdm (l := on) (z := (c : Int)) (by omega) (by omega)
          have hy := o2 _ hmem
          obtain ⟨q, hq⟩ := Int.eq_ofNat_of_zero_le hy.1
          have g3 := g2 q (by omega)
          repeat (first | with_reducible (refine Tot.bp ?_) | with_reducible (refine Tot.bb ?_) | (refine Tot.ct ?_ ?_; focus (first | rfl | (simp (disch := omega) only [jt, ju, bl_]; done))) | (refine Tot.cf ?_ ?_; focus (first | rfl | (simp (disch := omega) only [jt, ju, bl_]; done))) | with_reducible (refine Tot.bc ?_) | ((first | refine Tot.rdx ?_ ?_ | refine Tot.apx ?_ ?_ | refine Tot.mkx ?_ ?_); focus (first | omega | (simp; done) | (simp; omega))))
          rw [hq] at hy ⊢
          repeat (first | with_reducible (refine Tot.bp ?_) | with_reducible (refine Tot.bb ?_) | (refine Tot.ct ?_ ?_; focus (first | rfl | (simp (disch := omega) only [jt, ju, bl_]; done))) | (refine Tot.cf ?_ ?_; focus (first | rfl | (simp (disch := omega) only [jt, ju, bl_]; done))) | with_reducible (refine Tot.bc ?_) | ((first | refine Tot.rdx ?_ ?_ | refine Tot.apx ?_ ?_ | refine Tot.mkx ?_ ?_); focus (first | omega | (simp; done) | (simp; omega))))
          refine Tot.pure ⟨qw (by omega), by simp [g1], fun j hj => ?_⟩
          simp only
          rw [za1 hy.1 (by omega)]
          by_cases hjq : (j : Int) = q
          · rw [if_pos hjq]
            have hjq2 : j = q := by omega
            subst hjq2
            refine ⟨by simp; omega, fun x hx => ?_, fun i => ?_⟩
            · rcases List.mem_append.1 hx with h | h
              · exact g3.2.1 x h
              · simp at h; omega
            · rw [List.mem_append, g3.2.2 i, Qw hc, hq]
              simp only [List.mem_singleton]
              constructor
              · rintro ((h | h) | h)
                · exact .inl h
                · exact .inr ⟨h.1, .inl h.2⟩
                · exact .inr ⟨by omega, .inr trivial⟩
              · rintro (h | ⟨h, h2 | h2⟩)
                · exact .inl (.inl h)
                · exact .inl (.inr ⟨h, h2⟩)
                · exact .inr (by omega)
          · rw [if_neg hjq]
            have g4 := g2 j hj
            refine ⟨by omega, g4.2.1, fun i => ?_⟩
            rw [g4.2.2 i, Qw hc, hq]
            constructor
            · rintro (h | h)
              · exact .inl h
              · exact .inr ⟨h.1, .inl h.2⟩
            · rintro (h | ⟨h, h2 | h2⟩)
              · exact .inl h
              · exact .inr ⟨h, h2⟩
              · omega
        · rintro ⟨_, b⟩ ⟨rfl, g1, g2⟩
          simp only at g1 g2
          repeat (first | with_reducible (refine Tot.bp ?_) | with_reducible (refine Tot.bb ?_) | (refine Tot.ct ?_ ?_; focus (first | rfl | (simp (disch := omega) only [jt, ju, bl_]; done))) | (refine Tot.cf ?_ ?_; focus (first | rfl | (simp (disch := omega) only [jt, ju, bl_]; done))) | with_reducible (refine Tot.bc ?_) | ((first | refine Tot.rdx ?_ ?_ | refine Tot.apx ?_ ?_ | refine Tot.mkx ?_ ?_); focus (first | omega | (simp; done) | (simp; omega))))
          refine Tot.pure ⟨g1, fun j hj => ?_⟩
          have g3 := g2 j hj
          refine ⟨by omega, g3.2.1, fun i => ?_⟩
          rw [g3.2.2 i, List.take_length, o3 j]
          constructor
          · rintro (h | h)
            · exact ⟨by omega, h.2⟩
            · exact ⟨by omega, h.1 ▸ h.2⟩
          · rintro ⟨h, h2⟩
            by_cases hik : i = k
            · subst hik; exact .inr ⟨rfl, h2⟩
            · exact .inl ⟨by omega, h2⟩
      · rintro b ⟨g1, g2⟩
        refine Tot.bc ?_
        refine Tot.cond (fun hb => ?_) fun hb => ?_
        · simp only [decide_eq_true_eq] at hb
          repeat (first | with_reducible (refine Tot.bp ?_) | with_reducible (refine Tot.bb ?_) | (refine Tot.ct ?_ ?_; focus (first | rfl | (simp (disch := omega) only [jt, ju, bl_]; done))) | (refine Tot.cf ?_ ?_; focus (first | rfl | (simp (disch := omega) only [jt, ju, bl_]; done))) | with_reducible (refine Tot.bc ?_) | ((first | refine Tot.rdx ?_ ?_ | refine Tot.apx ?_ ?_ | refine Tot.mkx ?_ ?_); focus (first | omega | (simp; done) | (simp; omega))))
          refine Tot.pure ⟨qw (by omega), by simp; omega, ?_, ?_, g1, g2⟩
          · intro x hx
            rcases List.mem_append.1 hx with h | h
            · exact h2 x h
            · simp at h; omega
          · intro i
            simp only
            rw [List.mem_append, h3 i, List.mem_singleton]
            constructor
            · rintro (h | h)
              · exact ⟨by omega, h.2⟩
              · have : i = k := by omega
                subst this; exact ⟨by omega, hb⟩
            · rintro ⟨h, h2⟩
              by_cases hik : i = k
              · right; omega
              · exact .inl ⟨by omega, h2⟩
        · simp only [decide_eq_false_iff_not] at hb
          refine Tot.pure ⟨qw (by omega), by simp only; omega, h2, ?_, g1, g2⟩
          intro i
          simp only
          rw [h3 i]
          constructor
          · rintro ⟨h, h2⟩; exact ⟨by omega, h2⟩
          · rintro ⟨h, h2⟩
            by_cases hik : i = k
            · subst hik; exact absurd h2 hb
            · exact ⟨by omega, h2⟩
    · rintro ⟨_, lab, back⟩ ⟨rfl, h1, h2, h3, h4, h5⟩
      simp only at h1 h2 h3 h4 h5
      repeat (first | with_reducible (refine Tot.bp ?_) | with_reducible (refine Tot.bb ?_) | (refine Tot.ct ?_ ?_; focus (first | rfl | (simp (disch := omega) only [jt, ju, bl_]; done))) | (refine Tot.cf ?_ ?_; focus (first | rfl | (simp (disch := omega) only [jt, ju, bl_]; done))) | with_reducible (refine Tot.bc ?_) | ((first | refine Tot.rdx ?_ ?_ | refine Tot.apx ?_ ?_ | refine Tot.mkx ?_ ?_); focus (first | omega | (simp; done) | (simp; omega))))
      refine Tot.pure ⟨h1, h2, h3, h4, fun j hj => ?_⟩
      have := h5 j hj
      refine ⟨this.1, this.2.1, fun i => ?_⟩
      simp only
      rw [this.2.2 i]
      exact ⟨fun h => h.2, fun h => ⟨h.1, h⟩⟩
  · rintro ⟨lab, back⟩ ⟨h1, h2, h3, h4, h5⟩
    simp only at h1 h2 h3 h4 h5
    refine Tot.part (· = zbq d.jd.length (fun i j => dE d j i) (fun i => i < d.jd.length ∧ 0 ≤ Y3 d i)) ?_ (fun a ha => Tot.pure ha)
    have h := zhq d.jd.length lab (fun y => Qk y back) (fun i j => dE d j i) (by omega) (by omega) (fun x hx => by
      have := h2 x hx
      obtain ⟨q, rfl⟩ := Int.eq_ofNat_of_zero_le this
      exact ⟨this, by have := ((h3 q).1 hx).1; omega⟩) (fun i hi => by
      unfold Qk
      repeat (first | with_reducible (refine Tot.bp ?_) | with_reducible (refine Tot.bb ?_) | (refine Tot.ct ?_ ?_; focus (first | rfl | (simp (disch := omega) only [jt, ju, bl_]; done))) | (refine Tot.cf ?_ ?_; focus (first | rfl | (simp (disch := omega) only [jt, ju, bl_]; done))) | with_reducible (refine Tot.bc ?_) | ((first | refine Tot.rdx ?_ ?_ | refine Tot.apx ?_ ?_ | refine Tot.mkx ?_ ?_); focus (first | omega | (simp; done) | (simp; omega))))
      obtain ⟨k1, k2, k3⟩ := h5 i hi
      refine Tot.pure ⟨by omega, fun x hx => ⟨k2 x hx, ?_⟩, fun j => k3 j⟩
      obtain ⟨q, rfl⟩ := Int.eq_ofNat_of_zero_le (k2 x hx)
      have := ((k3 q).1 hx).1
      omega)
    refine h.mono fun a ha => ?_
    rw [ha]
    congr 1
    funext i
    rw [h3 i]
theorem zdu (d : je) (hd : DOk d) (hn : d.jd.length ≤ 300) : Tot (Jg d) (· = Vq d) := by
  unfold Jg Vq
  refine Tot.bindE (Zt d hd) ?_
  cases hR : zr d
  · repeat (first | with_reducible (refine Tot.bp ?_) | with_reducible (refine Tot.bb ?_) | (refine Tot.ct ?_ ?_; focus (first | rfl | (simp (disch := omega) only [jt, ju, bl_]; done))) | (refine Tot.cf ?_ ?_; focus (first | rfl | (simp (disch := omega) only [jt, ju, bl_]; done))) | with_reducible (refine Tot.bc ?_) | ((first | refine Tot.rdx ?_ ?_ | refine Tot.apx ?_ ?_ | refine Tot.mkx ?_ ?_); focus (first | omega | (simp; done) | (simp; omega))))
    exact Tot.pure rfl
  have hm := (Q9 d).1 hR
  have hn0 := hm.n0
  have hlab := hm.lab
  have hw := Ya hd hm
  repeat (first | with_reducible (refine Tot.bp ?_) | with_reducible (refine Tot.bb ?_) | (refine Tot.ct ?_ ?_; focus (first | rfl | (simp (disch := omega) only [jt, ju, bl_]; done))) | (refine Tot.cf ?_ ?_; focus (first | rfl | (simp (disch := omega) only [jt, ju, bl_]; done))) | with_reducible (refine Tot.bc ?_) | ((first | refine Tot.rdx ?_ ?_ | refine Tot.apx ?_ ?_ | refine Tot.mkx ?_ ?_); focus (first | omega | (simp; done) | (simp; omega))))
  let E : Nat → Nat → Prop := fun i j => dE d j i
  let S : Nat → Prop := fun i => i < d.jd.length ∧ 0 ≤ Y3 d i
  change Tot _ (· = zbq d.jd.length E S)
  refine Tot.part (· = zbq d.jd.length E S) ?_ (fun a ha => Tot.pure ha)
  generalize hA : List.replicate (d.jd.length : Int).toNat false = A
  have hA1 : A.length = d.jd.length := by rw [← hA]; simp
  have hA2 : ∀ i, ¬ onB A i := fun i => by rw [← hA]; exact zjl
  have hA3 := zjk A
  refine Tot.forC (fun s => s.1) (d.jd.length + 1) (fun k (s : Int × List Bool) => s.1 = (k : Int) ∧ s.2.length = d.jd.length ∧ (∀ i, onB s.2 i → Rch E S i) ∧ (s.2 = zbq d.jd.length E S ∨ offs s.2 + k ≤ offs A)) (fun k s h => h.1) ?_ ?_ ⟨rfl, hA1, fun i hi => absurd hi (hA2 i), .inr (Nat.le_refl _)⟩
  · rintro k ⟨_, a⟩ hk ⟨rfl, h1, h2, h3⟩
    simp only at h1 h2 h3
    repeat (first | with_reducible (refine Tot.bp ?_) | with_reducible (refine Tot.bb ?_) | (refine Tot.ct ?_ ?_; focus (first | rfl | (simp (disch := omega) only [jt, ju, bl_]; done))) | (refine Tot.cf ?_ ?_; focus (first | rfl | (simp (disch := omega) only [jt, ju, bl_]; done))) | with_reducible (refine Tot.bc ?_) | ((first | refine Tot.rdx ?_ ?_ | refine Tot.apx ?_ ?_ | refine Tot.mkx ?_ ?_); focus (first | omega | (simp; done) | (simp; omega))))
    refine Tot.part (fun b => Round E S a b) ?_ fun b hb => Tot.pure ⟨qw (by omega), hb.le.1 ▸ h1, hb.sound, hb.next h1 h3⟩
    refine Tot.forC (fun s => s.1) d.jd.length (fun i (s : Int × List Bool) => s.1 = (i : Int) ∧ s.2.length = d.jd.length ∧ LeB a s.2 ∧ (∀ i, onB s.2 i → Rch E S i) ∧ (a = s.2 → ∀ i' < i, (0 ≤ Y3 d i' → onB a i') ∧ ∀ j, onB a j → dE d i' j → onB a i')) (fun k s h => h.1) ?_ ?_ ⟨rfl, h1, LeB.refl _, h2, fun _ i' h => by omega⟩
    · rintro i ⟨_, b0⟩ hi ⟨rfl, g1, g2, g3, g4⟩
      simp only at g1 g2 g3 g4
      have start : ∀ v : Bool, (at' b0 (i : Int) = true → v = true) → (0 ≤ Y3 d i → v = true) → (v = true → at' b0 (i : Int) = true ∨ 0 ≤ Y3 d i) → (b0.set (i : Int).toNat v).length = d.jd.length ∧ LeB a (b0.set (i : Int).toNat v) ∧ (∀ i', onB (b0.set (i : Int).toNat v) i' → Rch E S i') ∧ (a = b0.set (i : Int).toNat v → (∀ i' < i, (0 ≤ Y3 d i' → onB a i') ∧ ∀ j, onB a j → dE d i' j → onB a i') ∧ (0 ≤ Y3 d i → onB a i)) := by
        intro v v1 v2 v3
        cases v with
        | false =>
          have e0 : at' b0 (i : Int) = false := by cases h : at' b0 (i : Int) <;> simp [h] at v1 ⊢
          have e1 : ¬ 0 ≤ Y3 d i := fun h => by simp [h] at v2
          have : b0.set (i : Int).toNat false = b0 := by
            rw [J7 (by omega)] at e0
            refine List.ext_getElem (by simp) fun j hj1 hj2 => ?_
            rw [List.getElem_set]
            split
            · rename_i h; simp at h; subst h; exact e0.symm
            · rfl
          rw [this]
          exact ⟨g1, g2, g3, fun e => ⟨g4 e, fun h => absurd h e1⟩⟩
        | true =>
          refine ⟨by simp [g1], g2.trans (LeB.set (by simp; omega)), fun j hj => ?_, fun e => ?_⟩
          · rcases (Js (by omega) (by omega)).1 hj with h | h
            · have : j = i := by omega
              subst this
              rcases v3 rfl with h | h
              · exact g3 j (zd4.1 h)
              · exact .base ⟨hi, h⟩
            · exact g3 j h
          · have e2 : a = b0 := g2.antisymm (e ▸ LeB.set (by simp; omega))
            refine ⟨g4 e2, fun _ => ?_⟩
            rw [e]
            exact (Js (by omega) (by omega)).2 (.inl rfl)
      repeat (first | with_reducible (refine Tot.bp ?_) | with_reducible (refine Tot.bb ?_) | (refine Tot.ct ?_ ?_; focus (first | rfl | (simp (disch := omega) only [jt, ju, bl_]; done))) | (refine Tot.cf ?_ ?_; focus (first | rfl | (simp (disch := omega) only [jt, ju, bl_]; done))) | with_reducible (refine Tot.bc ?_) | ((first | refine Tot.rdx ?_ ?_ | refine Tot.apx ?_ ?_ | refine Tot.mkx ?_ ?_); focus (first | omega | (simp; done) | (simp; omega))))
      have inner : ∀ b : List Bool, b.length = d.jd.length ∧ LeB a b ∧ (∀ i', onB b i' → Rch E S i') ∧ (a = b → (∀ i' < i, (0 ≤ Y3 d i' → onB a i') ∧ ∀ j, onB a j → dE d i' j → onB a i') ∧ (0 ≤ Y3 d i → onB a i)) → Tot (G.loop (σ := (Int × (List Bool))) (α := (List Bool)) (fun (x55, x56) => G.cond (decide (x55 < d.jf)) (G.bind (α := (List Bool)) (G.bind (G.lift (idx d.jd i)) fun x71 => G.bind (G.lift (idx x71 x55)) fun x72 => G.bind (G.cond (decide (0 ≤ x72)) (G.lift (idx d.jd i)) (G.pure [])) fun x73 => G.bind (G.cond (decide (0 ≤ x72)) (G.lift (idx x73 x55)) (G.pure 0)) fun x74 => G.bind (G.cond (decide (0 ≤ x72)) (G.lift (idx x56 x74)) (G.pure false)) fun x75 => G.cond ((decide (0 ≤ x72)) && x75) (G.bind (G.lift (idx x56 i)) fun x77 => G.pure (x56.set (i : Int).toNat true)) (G.pure x56)) fun x68 => G.pure (.inl ((w64 (x55 + 1)), x68))) (G.pure (.inr x56))) (0, b)) (fun b => b.length = d.jd.length ∧ LeB a b ∧ (∀ i, onB b i → Rch E S i) ∧ (a = b → ∀ i' < i + 1, (0 ≤ Y3 d i' → onB a i') ∧ ∀ j, onB a j → dE d i' j → onB a i')) := by
        rintro b ⟨f1, f2, f3, f4⟩
        refine Tot.forC (fun s => s.1) d.jf.toNat (fun c (s : Int × List Bool) => s.1 = (c : Int) ∧ s.2.length = d.jd.length ∧ LeB a s.2 ∧ (∀ i, onB s.2 i → Rch E S i) ∧ (a = s.2 → (∀ i' < i, (0 ≤ Y3 d i' → onB a i') ∧ ∀ j, onB a j → dE d i' j → onB a i') ∧ (0 ≤ Y3 d i → onB a i) ∧ ∀ c' : Int, 0 ≤ c' → c' < c → ∀ j : Nat, nxt d i c' = j → onB a j → onB a i)) (fun k s h => h.1) ?_ ?_ ⟨rfl, f1, f2, f3, fun e => ⟨(f4 e).1, (f4 e).2, fun c' h h' => by omega⟩⟩
        · rintro c ⟨_, b⟩ hc ⟨rfl, k1, k2, k3, k4⟩
          simp only at k1 k2 k3 k4
          have hrow := hm.row i (by omega) (by omega)
          have hnx := hm.nx i c (by omega) (by omega) (by omega) (by omega)
          repeat (first | with_reducible (refine Tot.bp ?_) | with_reducible (refine Tot.bb ?_) | (refine Tot.ct ?_ ?_; focus (first | rfl | (simp (disch := omega) only [jt, ju, bl_]; done))) | (refine Tot.cf ?_ ?_; focus (first | rfl | (simp (disch := omega) only [jt, ju, bl_]; done))) | with_reducible (refine Tot.bc ?_) | ((first | refine Tot.rdx ?_ ?_ | refine Tot.apx ?_ ?_ | refine Tot.mkx ?_ ?_); focus (first | omega | (simp; done) | (simp; omega))))
          refine Tot.cond (fun hb => ?_) fun hb => ?_
          · simp only [decide_eq_true_eq] at hb
            repeat (first | with_reducible (refine Tot.bp ?_) | with_reducible (refine Tot.bb ?_) | (refine Tot.ct ?_ ?_; focus (first | rfl | (simp (disch := omega) only [jt, ju, bl_]; done))) | (refine Tot.cf ?_ ?_; focus (first | rfl | (simp (disch := omega) only [jt, ju, bl_]; done))) | with_reducible (refine Tot.bc ?_) | ((first | refine Tot.rdx ?_ ?_ | refine Tot.apx ?_ ?_ | refine Tot.mkx ?_ ?_); focus (first | omega | (simp; done) | (simp; omega))))
            cases hon : at' b (at' (at' d.jd i) (c : Int))
            · repeat (first | with_reducible (refine Tot.bp ?_) | with_reducible (refine Tot.bb ?_) | (refine Tot.ct ?_ ?_; focus (first | rfl | (simp (disch := omega) only [jt, ju, bl_]; done))) | (refine Tot.cf ?_ ?_; focus (first | rfl | (simp (disch := omega) only [jt, ju, bl_]; done))) | with_reducible (refine Tot.bc ?_) | ((first | refine Tot.rdx ?_ ?_ | refine Tot.apx ?_ ?_ | refine Tot.mkx ?_ ?_); focus (first | omega | (simp; done) | (simp; omega))))
              refine Tot.pure ⟨qw (by omega), k1, k2, k3, fun e => ⟨(k4 e).1, (k4 e).2.1, fun c' h0 h1 j hj ho => ?_⟩⟩
              simp only at e
              by_cases hcc : c' = c
              · subst hcc
                exfalso
                unfold nxt at hj
                rw [hj, ← Bool.not_eq_true, zd4] at hon
                exact hon (e ▸ ho)
              · exact (k4 e).2.2 c' h0 (by omega) j hj ho
            · repeat (first | with_reducible (refine Tot.bp ?_) | with_reducible (refine Tot.bb ?_) | (refine Tot.ct ?_ ?_; focus (first | rfl | (simp (disch := omega) only [jt, ju, bl_]; done))) | (refine Tot.cf ?_ ?_; focus (first | rfl | (simp (disch := omega) only [jt, ju, bl_]; done))) | with_reducible (refine Tot.bc ?_) | ((first | refine Tot.rdx ?_ ?_ | refine Tot.apx ?_ ?_ | refine Tot.mkx ?_ ?_); focus (first | omega | (simp; done) | (simp; omega))))
              refine Tot.pure ⟨qw (by omega), by simp [k1], k2.trans (LeB.set (by simp; omega)), fun j hj => ?_, fun e => ?_⟩
              · rcases (Js (by omega) (by omega)).1 hj with h | h
                · have : j = i := by omega
                  subst this
                  exact .step (k3 _ ((zk0 hb).1 hon)) ⟨by omega, c, by omega, by omega, by unfold nxt; omega⟩
                · exact k3 j h
              · simp only at e
                have e2 : a = b := k2.antisymm (e ▸ LeB.set (by simp; omega))
                refine ⟨(k4 e2).1, (k4 e2).2.1, fun c' h0 h1 j hj ho => ?_⟩
                rw [e]
                exact (Js (by omega) (by omega)).2 (.inl rfl)
          · simp only [decide_eq_false_iff_not] at hb
            repeat (first | with_reducible (refine Tot.bp ?_) | with_reducible (refine Tot.bb ?_) | (refine Tot.ct ?_ ?_; focus (first | rfl | (simp (disch := omega) only [jt, ju, bl_]; done))) | (refine Tot.cf ?_ ?_; focus (first | rfl | (simp (disch := omega) only [jt, ju, bl_]; done))) | with_reducible (refine Tot.bc ?_) | ((first | refine Tot.rdx ?_ ?_ | refine Tot.apx ?_ ?_ | refine Tot.mkx ?_ ?_); focus (first | omega | (simp; done) | (simp; omega))))
            refine Tot.pure ⟨qw (by omega), k1, k2, k3, fun e => ⟨(k4 e).1, (k4 e).2.1, fun c' h0 h1 j hj ho => ?_⟩⟩
            by_cases hcc : c' = c
            · subst hcc
              unfold nxt at hj
              omega
            · exact (k4 e).2.2 c' h0 (by omega) j hj ho
        · rintro ⟨_, b⟩ ⟨rfl, k1, k2, k3, k4⟩
          simp only at k1 k2 k3 k4
          repeat (first | with_reducible (refine Tot.bp ?_) | with_reducible (refine Tot.bb ?_) | (refine Tot.ct ?_ ?_; focus (first | rfl | (simp (disch := omega) only [jt, ju, bl_]; done))) | (refine Tot.cf ?_ ?_; focus (first | rfl | (simp (disch := omega) only [jt, ju, bl_]; done))) | with_reducible (refine Tot.bc ?_) | ((first | refine Tot.rdx ?_ ?_ | refine Tot.apx ?_ ?_ | refine Tot.mkx ?_ ?_); focus (first | omega | (simp; done) | (simp; omega))))
          refine Tot.pure ⟨k1, k2, k3, fun e i' hi' => ?_⟩
          by_cases hii : i' = i
          · subst hii
            refine ⟨(k4 e).2.1, fun j ho he => ?_⟩
            obtain ⟨_, c, h0, h1, h2⟩ := he
            exact (k4 e).2.2 c h0 (by omega) j h2 ho
          · exact (k4 e).1 i' (by omega)
      cases hon : at' b0 (i : Int)
      · repeat (first | with_reducible (refine Tot.bp ?_) | with_reducible (refine Tot.bb ?_) | (refine Tot.ct ?_ ?_; focus (first | rfl | (simp (disch := omega) only [jt, ju, bl_]; done))) | (refine Tot.cf ?_ ?_; focus (first | rfl | (simp (disch := omega) only [jt, ju, bl_]; done))) | with_reducible (refine Tot.bc ?_) | ((first | refine Tot.rdx ?_ ?_ | refine Tot.apx ?_ ?_ | refine Tot.mkx ?_ ?_); focus (first | omega | (simp; done) | (simp; omega))))
        refine Tot.part _ (inner _ (start _ ?_ ?_ ?_)) fun b hb => Tot.pure ⟨qw (by omega), hb⟩
        · simp [hon]
        · simp [Y3]
        · simp [Y3]; exact .inr
      · repeat (first | with_reducible (refine Tot.bp ?_) | with_reducible (refine Tot.bb ?_) | (refine Tot.ct ?_ ?_; focus (first | rfl | (simp (disch := omega) only [jt, ju, bl_]; done))) | (refine Tot.cf ?_ ?_; focus (first | rfl | (simp (disch := omega) only [jt, ju, bl_]; done))) | with_reducible (refine Tot.bc ?_) | ((first | refine Tot.rdx ?_ ?_ | refine Tot.apx ?_ ?_ | refine Tot.mkx ?_ ?_); focus (first | omega | (simp; done) | (simp; omega))))
        refine Tot.part _ (inner _ (start _ ?_ ?_ ?_)) fun b hb => Tot.pure ⟨qw (by omega), hb⟩
        · simp [hon]
        · simp
        · simp [hon]
    · rintro ⟨_, b⟩ ⟨rfl, g1, g2, g3, g4⟩
      simp only at g1 g2 g3 g4
      repeat (first | with_reducible (refine Tot.bp ?_) | with_reducible (refine Tot.bb ?_) | (refine Tot.ct ?_ ?_; focus (first | rfl | (simp (disch := omega) only [jt, ju, bl_]; done))) | (refine Tot.cf ?_ ?_; focus (first | rfl | (simp (disch := omega) only [jt, ju, bl_]; done))) | with_reducible (refine Tot.bc ?_) | ((first | refine Tot.rdx ?_ ?_ | refine Tot.apx ?_ ?_ | refine Tot.mkx ?_ ?_); focus (first | omega | (simp; done) | (simp; omega))))
      refine Tot.pure ⟨g2, g3, fun e => ⟨fun i hi => (g4 e i hi.1).1 hi.2, fun i j ho he => (g4 e j he.1).2 i ho he⟩⟩
  · rintro ⟨_, a⟩ ⟨rfl, h1, h2, h3⟩
    simp only at h1 h2 h3
    repeat (first | with_reducible (refine Tot.bp ?_) | with_reducible (refine Tot.bb ?_) | (refine Tot.ct ?_ ?_; focus (first | rfl | (simp (disch := omega) only [jt, ju, bl_]; done))) | (refine Tot.cf ?_ ?_; focus (first | rfl | (simp (disch := omega) only [jt, ju, bl_]; done))) | with_reducible (refine Tot.bc ?_) | ((first | refine Tot.rdx ?_ ?_ | refine Tot.apx ?_ ?_ | refine Tot.mkx ?_ ?_); focus (first | omega | (simp; done) | (simp; omega))))
    refine Tot.pure ?_
    rcases h3 with h | h
    · exact h
    · omega
end Go.Proofs.YtpohfkgjghiofaaGreat

namespace Go.Proofs.YtpohfkgjghiofaaGreat
open Go Go.RowKit L
set_option linter.unusedVariables false
set_option linter.unusedSimpArgs false
def zm (r a : List Bool) (i : Nat) : Bool := decide (i = 0) || (at' r (i : Int) && at' a (i : Int))
def yr (r a : List Bool) (k : Nat) : List Nat := (List.range k).filter (zm r a)
def Zy (r a : List Bool) (i : Nat) : Int := if zm r a i then ((yr r a i).length : Int) else -1
def zgx (r a : List Bool) (x : Int) : Int := if 0 ≤ x then Zy r a x.toNat else x
def zhy (d : je) (r a : List Bool) (i : Nat) : List Int := (at' d.jd (i : Int)).map (zgx r a)
def zlv (d : je) (r a : List Bool) : je := ⟨d.ji, d.jf, (yr r a d.jd.length).map (zhy d r a), (yr r a d.jd.length).map (Y3 d)⟩
noncomputable def zdt (d : je) : je := if zr d then zlv d (Je d) (Vq d) else ⟨arZ 256 0, 0, [], []⟩
theorem zdr (r a : List Bool) (k : Nat) : yr r a (k + 1) = if zm r a k then yr r a k ++ [k] else yr r a k := by
  unfold yr
  rw [List.range_succ, List.filter_append]
  by_cases h : zm r a k <;> simp [h]
theorem zao (r a : List Bool) (k : Nat) : (yr r a k).length ≤ k := by
  unfold yr
  exact Nat.le_trans (List.length_filter_le ..) (by simp)
theorem zig {r a : List Bool} {k i : Nat} : i ∈ yr r a k ↔ i < k ∧ zm r a i = true := by
  unfold yr; simp [List.mem_filter]
theorem zel {d : je} (h : zr d = true) : (Je d).length = d.jd.length := by
  unfold Je; rw [h, if_pos rfl, zbs]
theorem zhb {d : je} (h : zr d = true) : (Vq d).length = d.jd.length := by
  unfold Vq; rw [h, if_pos rfl, zbs]
theorem zlr {d : je} (hd : DOk d) (hm : MOk d) : 1 ≤ d.jf := by
  have h := ze2 hd.cls
  have hl : 0 < d.ji.1.length := by rw [d.ji.2]; decide
  have h1 := h.2.2 _ (List.getElem_mem hl)
  have h2 := hd.cls _ (List.getElem_mem hl)
  rw [← hm.wid]; omega
theorem Yl {α β : Type} [Inhabited α] (f : α → β) {l : List α} {k : Nat} (h : k < l.length) : (l.take (k + 1)).map f = (l.take k).map f ++ [f (at' l (k : Int))] := by
  rw [List.take_succ_eq_append_getElem h, J7 h, List.map_append]; rfl
theorem zjr (d : je) (hd : DOk d) (hn : d.jd.length ≤ 300) : Tot (Vd d) (· = zdt d) := by
  unfold Vd zdt
  refine Tot.bindE (zau d hd) ?_
  cases hR : zr d
  · repeat (first | with_reducible (refine Tot.bp ?_) | with_reducible (refine Tot.bb ?_) | (refine Tot.ct ?_ ?_; focus (first | rfl | (simp (disch := omega) only [jt, ju, bl_]; done))) | (refine Tot.cf ?_ ?_; focus (first | rfl | (simp (disch := omega) only [jt, ju, bl_]; done))) | with_reducible (refine Tot.bc ?_) | ((first | refine Tot.rdx ?_ ?_ | refine Tot.apx ?_ ?_ | refine Tot.mkx ?_ ?_); focus (first | omega | (simp; done) | (simp; omega))))
    exact Tot.pure rfl
  have hm := (Q9 d).1 hR
  have hn0 := hm.n0
  have hlab := hm.lab
  have hw := Ya hd hm
  have hw1 := zlr hd hm
  have hr := zel hR
  have ha := zhb hR
  repeat (first | with_reducible (refine Tot.bp ?_) | with_reducible (refine Tot.bb ?_) | (refine Tot.ct ?_ ?_; focus (first | rfl | (simp (disch := omega) only [jt, ju, bl_]; done))) | (refine Tot.cf ?_ ?_; focus (first | rfl | (simp (disch := omega) only [jt, ju, bl_]; done))) | with_reducible (refine Tot.bc ?_) | ((first | refine Tot.rdx ?_ ?_ | refine Tot.apx ?_ ?_ | refine Tot.mkx ?_ ?_); focus (first | omega | (simp; done) | (simp; omega))))
  refine Tot.bindE (zbd d hd hn) ?_
  refine Tot.bindE (zdf d hd hn) ?_
  generalize Je d = r at hr ⊢
  generalize Vq d = a at ha ⊢
  repeat (first | with_reducible (refine Tot.bp ?_) | with_reducible (refine Tot.bb ?_) | (refine Tot.ct ?_ ?_; focus (first | rfl | (simp (disch := omega) only [jt, ju, bl_]; done))) | (refine Tot.cf ?_ ?_; focus (first | rfl | (simp (disch := omega) only [jt, ju, bl_]; done))) | with_reducible (refine Tot.bc ?_) | ((first | refine Tot.rdx ?_ ?_ | refine Tot.apx ?_ ?_ | refine Tot.mkx ?_ ?_); focus (first | omega | (simp; done) | (simp; omega))))
  refine Tot.part (fun (s : List Int × List Int) => s.1.length = d.jd.length ∧ (∀ i : Nat, i < d.jd.length → at' s.1 (i : Int) = Zy r a i) ∧ s.2 = (yr r a d.jd.length).map fun (i : Nat) => (i : Int)) ?_ ?_
  · refine Tot.forC (fun s => s.1) d.jd.length (fun k (s : Int × List Int × List Int) => s.1 = (k : Int) ∧ s.2.1.length = d.jd.length ∧ (∀ i : Nat, i < k → at' s.2.1 (i : Int) = Zy r a i) ∧ s.2.2 = (yr r a k).map fun (i : Nat) => (i : Int)) (fun k s h => h.1) ?_ ?_ ⟨rfl, by simp, fun i hi => by omega, by simp [yr]⟩
    · rintro k ⟨_, num, kept⟩ hk ⟨rfl, h1, h2, h3⟩
      simp only at h1 h2 h3
      have hkl := zao r a k
      have hks := zdr r a k
      have hlen : kept.length = (yr r a k).length := by rw [h3]; simp
      have hset : ∀ v : Int, v = Zy r a k → ∀ i : Nat, i < k + 1 → at' ((num.set (k : Int).toNat (-1)).set (k : Int).toNat v) (i : Int) = Zy r a i := fun v hv i hi => by
        rw [za1 (by omega) (by simp; omega)]
        by_cases hik : (i : Int) = k
        · rw [if_pos hik, hv, show i = k by omega]
        · rw [if_neg hik, za1 (by omega) (by omega), if_neg hik]; exact h2 i (by omega)
      have hset1 : -1 = Zy r a k → ∀ i : Nat, i < k + 1 → at' (num.set (k : Int).toNat (-1)) (i : Int) = Zy r a i := fun hv i hi => by
        rw [za1 (by omega) (by omega)]
        by_cases hik : (i : Int) = k
        · rw [if_pos hik, hv, show i = k by omega]
        · rw [if_neg hik]; exact h2 i (by omega)
      have yes : zm r a k = true → kept ++ [(k : Int)] = (yr r a (k + 1)).map fun (i : Nat) => (i : Int) := fun h => by rw [hks, h, if_pos rfl, h3]; simp
      have no : zm r a k = false → kept = (yr r a (k + 1)).map fun (i : Nat) => (i : Int) := fun h => by rw [hks, h, h3]; rfl
      have ny : zm r a k = true → ((kept.length : Nat) : Int) = Zy r a k := fun h => by unfold Zy; rw [h, if_pos rfl, hlen]
      have nn : zm r a k = false → (-1 : Int) = Zy r a k := fun h => by unfold Zy; rw [h]; rfl
      by_cases h0 : k = 0
      · subst h0
        repeat (first | with_reducible (refine Tot.bp ?_) | with_reducible (refine Tot.bb ?_) | (refine Tot.ct ?_ ?_; focus (first | rfl | (simp (disch := omega) only [jt, ju, bl_]; done))) | (refine Tot.cf ?_ ?_; focus (first | rfl | (simp (disch := omega) only [jt, ju, bl_]; done))) | with_reducible (refine Tot.bc ?_) | ((first | refine Tot.rdx ?_ ?_ | refine Tot.apx ?_ ?_ | refine Tot.mkx ?_ ?_); focus (first | omega | (simp; done) | (simp; omega))))
        have hk : zm r a 0 = true := by simp [zm]
        refine Tot.pure ?_; exact ⟨qw (k := 0) (by omega), by simp [h1], hset _ (ny hk), yes hk⟩
      · repeat (first | with_reducible (refine Tot.bp ?_) | with_reducible (refine Tot.bb ?_) | (refine Tot.ct ?_ ?_; focus (first | rfl | (simp (disch := omega) only [jt, ju, bl_]; done))) | (refine Tot.cf ?_ ?_; focus (first | rfl | (simp (disch := omega) only [jt, ju, bl_]; done))) | with_reducible (refine Tot.bc ?_) | ((first | refine Tot.rdx ?_ ?_ | refine Tot.apx ?_ ?_ | refine Tot.mkx ?_ ?_); focus (first | omega | (simp; done) | (simp; omega))))
        cases e1 : at' r (k : Int)
        · repeat (first | with_reducible (refine Tot.bp ?_) | with_reducible (refine Tot.bb ?_) | (refine Tot.ct ?_ ?_; focus (first | rfl | (simp (disch := omega) only [jt, ju, bl_]; done))) | (refine Tot.cf ?_ ?_; focus (first | rfl | (simp (disch := omega) only [jt, ju, bl_]; done))) | with_reducible (refine Tot.bc ?_) | ((first | refine Tot.rdx ?_ ?_ | refine Tot.apx ?_ ?_ | refine Tot.mkx ?_ ?_); focus (first | omega | (simp; done) | (simp; omega))))
          have hk : zm r a k = false := by simp [zm, h0, e1]
          refine Tot.pure ?_; exact ⟨qw (by omega), by simp [h1], hset1 (nn hk), no hk⟩
        · repeat (first | with_reducible (refine Tot.bp ?_) | with_reducible (refine Tot.bb ?_) | (refine Tot.ct ?_ ?_; focus (first | rfl | (simp (disch := omega) only [jt, ju, bl_]; done))) | (refine Tot.cf ?_ ?_; focus (first | rfl | (simp (disch := omega) only [jt, ju, bl_]; done))) | with_reducible (refine Tot.bc ?_) | ((first | refine Tot.rdx ?_ ?_ | refine Tot.apx ?_ ?_ | refine Tot.mkx ?_ ?_); focus (first | omega | (simp; done) | (simp; omega))))
          cases e2 : at' a (k : Int)
          · repeat (first | with_reducible (refine Tot.bp ?_) | with_reducible (refine Tot.bb ?_) | (refine Tot.ct ?_ ?_; focus (first | rfl | (simp (disch := omega) only [jt, ju, bl_]; done))) | (refine Tot.cf ?_ ?_; focus (first | rfl | (simp (disch := omega) only [jt, ju, bl_]; done))) | with_reducible (refine Tot.bc ?_) | ((first | refine Tot.rdx ?_ ?_ | refine Tot.apx ?_ ?_ | refine Tot.mkx ?_ ?_); focus (first | omega | (simp; done) | (simp; omega))))
            have hk : zm r a k = false := by simp [zm, h0, e2]
            refine Tot.pure ?_; exact ⟨qw (by omega), by simp [h1], hset1 (nn hk), no hk⟩
          · repeat (first | with_reducible (refine Tot.bp ?_) | with_reducible (refine Tot.bb ?_) | (refine Tot.ct ?_ ?_; focus (first | rfl | (simp (disch := omega) only [jt, ju, bl_]; done))) | (refine Tot.cf ?_ ?_; focus (first | rfl | (simp (disch := omega) only [jt, ju, bl_]; done))) | with_reducible (refine Tot.bc ?_) | ((first | refine Tot.rdx ?_ ?_ | refine Tot.apx ?_ ?_ | refine Tot.mkx ?_ ?_); focus (first | omega | (simp; done) | (simp; omega))))
            have hk : zm r a k = true := by simp [zm, e1, e2]
            refine Tot.pure ?_; exact ⟨qw (by omega), by simp [h1], hset _ (ny hk), yes hk⟩
    · rintro ⟨_, num, kept⟩ ⟨rfl, h1, h2, h3⟩
      repeat (first | with_reducible (refine Tot.bp ?_) | with_reducible (refine Tot.bb ?_) | (refine Tot.ct ?_ ?_; focus (first | rfl | (simp (disch := omega) only [jt, ju, bl_]; done))) | (refine Tot.cf ?_ ?_; focus (first | rfl | (simp (disch := omega) only [jt, ju, bl_]; done))) | with_reducible (refine Tot.bc ?_) | ((first | refine Tot.rdx ?_ ?_ | refine Tot.apx ?_ ?_ | refine Tot.mkx ?_ ?_); focus (first | omega | (simp; done) | (simp; omega))))
      refine Tot.pure ?_; exact ⟨h1, h2, h3⟩
  · rintro ⟨num, kept⟩ ⟨h1, h2, h3⟩
    simp only at h1 h2 h3
    have hkl := zao r a d.jd.length
    have hkm : ∀ i ∈ yr r a d.jd.length, i < d.jd.length := fun i hi => (zig.1 hi).1
    have hlen : kept.length = (yr r a d.jd.length).length := by rw [h3]; simp
    refine Tot.part (fun (s : List (List Int) × List Int) => s.1 = (yr r a d.jd.length).map (zhy d r a) ∧ s.2 = (yr r a d.jd.length).map (Y3 d)) ?_ ?_
    · refine Tot.forC (fun s => s.1) (yr r a d.jd.length).length (fun k (s : Int × List (List Int) × List Int) => s.1 = (k : Int) ∧ s.2.1 = ((yr r a d.jd.length).take k).map (zhy d r a) ∧ s.2.2 = ((yr r a d.jd.length).take k).map (Y3 d)) (fun k s h => h.1) ?_ ?_ ⟨rfl, by simp, by simp⟩
      · rintro k ⟨_, rows, labs⟩ hk ⟨rfl, g1, g2⟩
        simp only at g1 g2
        have l1 : rows.length = k := by rw [g1]; simp; omega
        have l2 : labs.length = k := by rw [g2]; simp; omega
        have hq : at' kept (k : Int) = ((at' (yr r a d.jd.length) (k : Int) : Nat) : Int) := by
          rw [J7 (by omega), J7 hk]; simp [h3]
        have hqn := hkm _ (zdm (l := yr r a d.jd.length) (z := (k : Int)) (by omega) (by omega))
        have t1 := Yl (zhy d r a) hk
        have t2 := Yl (Y3 d) hk
        rw [← g1] at t1
        rw [← g2] at t2
        generalize at' (yr r a d.jd.length) (k : Int) = q at hq hqn t1 t2
        have hrow := hm.row q (by omega) (by omega)
        repeat (first | with_reducible (refine Tot.bp ?_) | with_reducible (refine Tot.bb ?_) | (refine Tot.ct ?_ ?_; focus (first | rfl | (simp (disch := omega) only [jt, ju, bl_]; done))) | (refine Tot.cf ?_ ?_; focus (first | rfl | (simp (disch := omega) only [jt, ju, bl_]; done))) | with_reducible (refine Tot.bc ?_) | ((first | refine Tot.rdx ?_ ?_ | refine Tot.apx ?_ ?_ | refine Tot.mkx ?_ ?_); focus (first | omega | (simp; done) | (simp; omega))))
        rw [hq]
        repeat (first | with_reducible (refine Tot.bp ?_) | with_reducible (refine Tot.bb ?_) | (refine Tot.ct ?_ ?_; focus (first | rfl | (simp (disch := omega) only [jt, ju, bl_]; done))) | (refine Tot.cf ?_ ?_; focus (first | rfl | (simp (disch := omega) only [jt, ju, bl_]; done))) | with_reducible (refine Tot.bc ?_) | ((first | refine Tot.rdx ?_ ?_ | refine Tot.apx ?_ ?_ | refine Tot.mkx ?_ ?_); focus (first | omega | (simp; done) | (simp; omega))))
        refine Tot.someB (a := (((d.jf.toNat : Nat) : Int), at' d.jd (q : Int))) ?_ ?_
        · unfold cpy
          have e1 : List.replicate d.jf.toNat (0 : Int) ≠ [] := fun e => by
            have := congrArg List.length e
            simp at this; omega
          have e2 : at' d.jd (q : Int) ≠ [] := fun e => by
            rw [e] at hrow
            simp at hrow; omega
          rw [if_pos ⟨e1, e2⟩]
          have : (at' d.jd (q : Int)).length = d.jf.toNat := by omega
          rw [List.length_replicate, this, List.take_of_length_le (by omega), List.drop_of_length_le (by simp), List.append_nil, Nat.min_self]
        · repeat (first | with_reducible (refine Tot.bp ?_) | with_reducible (refine Tot.bb ?_) | (refine Tot.ct ?_ ?_; focus (first | rfl | (simp (disch := omega) only [jt, ju, bl_]; done))) | (refine Tot.cf ?_ ?_; focus (first | rfl | (simp (disch := omega) only [jt, ju, bl_]; done))) | with_reducible (refine Tot.bc ?_) | ((first | refine Tot.rdx ?_ ?_ | refine Tot.apx ?_ ?_ | refine Tot.mkx ?_ ?_); focus (first | omega | (simp; done) | (simp; omega))))
          refine Tot.part (· = zhy d r a q) ?_ ?_
          · refine Tot.forC (fun s => s.1) d.jf.toNat (fun c (s : Int × List Int) => s.1 = (c : Int) ∧ s.2 = ((at' d.jd (q : Int)).take c).map (zgx r a) ++ (at' d.jd (q : Int)).drop c) (fun k s h => h.1) ?_ ?_ ⟨rfl, by simp⟩
            · rintro c ⟨_, l⟩ hc ⟨rfl, f1⟩
              simp only at f1
              have hnx := hm.nx q c (by omega) (by omega) (by omega) (by omega)
              have hl : l.length = (at' d.jd (q : Int)).length := by rw [f1]; simp; omega
              have hcl : c < (at' d.jd (q : Int)).length := by omega
              have e1 : at' l (c : Int) = at' (at' d.jd (q : Int)) (c : Int) := by
                refine at_get ?_
                rw [f1, List.getElem?_append_right (by simp; omega), J7 hcl]
                simp [show min c (at' d.jd (q : Int)).length = c by omega]
              have e2 : ∀ v, v = zgx r a (at' (at' d.jd (q : Int)) (c : Int)) → l.set (c : Int).toNat v = ((at' d.jd (q : Int)).take (c + 1)).map (zgx r a) ++ (at' d.jd (q : Int)).drop (c + 1) := fun v hv => by
                rw [f1, Yl _ hcl, Int.toNat_natCast, List.set_append_right _ _ (by simp; omega), List.drop_eq_getElem_cons hcl]
                have : c - (((at' d.jd (q : Int)).take c).map (zgx r a)).length = 0 := by simp; omega
                rw [this, List.set_cons_zero, hv, List.append_assoc]
                rfl
              repeat (first | with_reducible (refine Tot.bp ?_) | with_reducible (refine Tot.bb ?_) | (refine Tot.ct ?_ ?_; focus (first | rfl | (simp (disch := omega) only [jt, ju, bl_]; done))) | (refine Tot.cf ?_ ?_; focus (first | rfl | (simp (disch := omega) only [jt, ju, bl_]; done))) | with_reducible (refine Tot.bc ?_) | ((first | refine Tot.rdx ?_ ?_ | refine Tot.apx ?_ ?_ | refine Tot.mkx ?_ ?_); focus (first | omega | (simp; done) | (simp; omega))))
              refine Tot.cond (fun hb => ?_) fun hb => ?_
              · simp only [decide_eq_true_eq] at hb
                repeat (first | with_reducible (refine Tot.bp ?_) | with_reducible (refine Tot.bb ?_) | (refine Tot.ct ?_ ?_; focus (first | rfl | (simp (disch := omega) only [jt, ju, bl_]; done))) | (refine Tot.cf ?_ ?_; focus (first | rfl | (simp (disch := omega) only [jt, ju, bl_]; done))) | with_reducible (refine Tot.bc ?_) | ((first | refine Tot.rdx ?_ ?_ | refine Tot.apx ?_ ?_ | refine Tot.mkx ?_ ?_); focus (first | omega | (simp; done) | (simp; omega))))
                refine Tot.pure ⟨qw (by omega), e2 _ ?_⟩
                obtain ⟨z, hz⟩ := Int.eq_ofNat_of_zero_le hb
                rw [e1] at hz
                rw [e1, hz, h2 z (by omega)]
                simp [zgx]
              · simp only [decide_eq_false_iff_not] at hb
                refine Tot.pure ⟨qw (by omega), ?_⟩
                simp only
                have := e2 (at' (at' d.jd (q : Int)) (c : Int)) (by rw [e1] at hb; unfold zgx; rw [if_neg hb])
                rw [← this, ← e1, J7 (by omega)]
                simp
            · rintro ⟨_, l⟩ ⟨rfl, f1⟩
              repeat (first | with_reducible (refine Tot.bp ?_) | with_reducible (refine Tot.bb ?_) | (refine Tot.ct ?_ ?_; focus (first | rfl | (simp (disch := omega) only [jt, ju, bl_]; done))) | (refine Tot.cf ?_ ?_; focus (first | rfl | (simp (disch := omega) only [jt, ju, bl_]; done))) | with_reducible (refine Tot.bc ?_) | ((first | refine Tot.rdx ?_ ?_ | refine Tot.apx ?_ ?_ | refine Tot.mkx ?_ ?_); focus (first | omega | (simp; done) | (simp; omega))))
              refine Tot.pure ?_
              simp only at f1
              rw [f1, List.take_of_length_le (by omega), List.drop_of_length_le (by omega), List.append_nil]
              rfl
          · rintro row rfl
            repeat (first | with_reducible (refine Tot.bp ?_) | with_reducible (refine Tot.bb ?_) | (refine Tot.ct ?_ ?_; focus (first | rfl | (simp (disch := omega) only [jt, ju, bl_]; done))) | (refine Tot.cf ?_ ?_; focus (first | rfl | (simp (disch := omega) only [jt, ju, bl_]; done))) | with_reducible (refine Tot.bc ?_) | ((first | refine Tot.rdx ?_ ?_ | refine Tot.apx ?_ ?_ | refine Tot.mkx ?_ ?_); focus (first | omega | (simp; done) | (simp; omega))))
            refine Tot.pure ?_; exact ⟨qw (by omega), t1.symm, t2.symm⟩
      · rintro ⟨_, rows, labs⟩ ⟨rfl, g1, g2⟩
        simp only at g1 g2
        repeat (first | with_reducible (refine Tot.bp ?_) | with_reducible (refine Tot.bb ?_) | (refine Tot.ct ?_ ?_; focus (first | rfl | (simp (disch := omega) only [jt, ju, bl_]; done))) | (refine Tot.cf ?_ ?_; focus (first | rfl | (simp (disch := omega) only [jt, ju, bl_]; done))) | with_reducible (refine Tot.bc ?_) | ((first | refine Tot.rdx ?_ ?_ | refine Tot.apx ?_ ?_ | refine Tot.mkx ?_ ?_); focus (first | omega | (simp; done) | (simp; omega))))
        rw [List.take_length] at g1 g2
        refine Tot.pure ?_; exact ⟨g1, g2⟩
    · rintro ⟨rows, labs⟩ ⟨g1, g2⟩
      simp only at g1 g2
      refine Tot.pure ?_
      simp only [g1, g2]
      rfl
theorem zkk (d : je) (hd : DOk d) (hn : d.jd.length ≤ 300) : Tot (Vm d) (· = zdt d) := by
  unfold Vm zdt
  refine Tot.bindE (Zt d hd) ?_
  cases hR : zr d
  · repeat (first | with_reducible (refine Tot.bp ?_) | with_reducible (refine Tot.bb ?_) | (refine Tot.ct ?_ ?_; focus (first | rfl | (simp (disch := omega) only [jt, ju, bl_]; done))) | (refine Tot.cf ?_ ?_; focus (first | rfl | (simp (disch := omega) only [jt, ju, bl_]; done))) | with_reducible (refine Tot.bc ?_) | ((first | refine Tot.rdx ?_ ?_ | refine Tot.apx ?_ ?_ | refine Tot.mkx ?_ ?_); focus (first | omega | (simp; done) | (simp; omega))))
    exact Tot.pure rfl
  have hm := (Q9 d).1 hR
  have hn0 := hm.n0
  have hlab := hm.lab
  have hw := Ya hd hm
  have hr := zel hR
  have ha := zhb hR
  repeat (first | with_reducible (refine Tot.bp ?_) | with_reducible (refine Tot.bb ?_) | (refine Tot.ct ?_ ?_; focus (first | rfl | (simp (disch := omega) only [jt, ju, bl_]; done))) | (refine Tot.cf ?_ ?_; focus (first | rfl | (simp (disch := omega) only [jt, ju, bl_]; done))) | with_reducible (refine Tot.bc ?_) | ((first | refine Tot.rdx ?_ ?_ | refine Tot.apx ?_ ?_ | refine Tot.mkx ?_ ?_); focus (first | omega | (simp; done) | (simp; omega))))
  refine Tot.bindE (zb6 d hd hn) ?_
  refine Tot.bindE (zdu d hd hn) ?_
  generalize Je d = r at hr ⊢
  generalize Vq d = a at ha ⊢
  repeat (first | with_reducible (refine Tot.bp ?_) | with_reducible (refine Tot.bb ?_) | (refine Tot.ct ?_ ?_; focus (first | rfl | (simp (disch := omega) only [jt, ju, bl_]; done))) | (refine Tot.cf ?_ ?_; focus (first | rfl | (simp (disch := omega) only [jt, ju, bl_]; done))) | with_reducible (refine Tot.bc ?_) | ((first | refine Tot.rdx ?_ ?_ | refine Tot.apx ?_ ?_ | refine Tot.mkx ?_ ?_); focus (first | omega | (simp; done) | (simp; omega))))
  refine Tot.part (fun (s : List Int) => s.length = d.jd.length ∧ (∀ i : Nat, i < d.jd.length → at' s (i : Int) = Zy r a i)) ?_ ?_
  · refine Tot.forC (fun s => s.2.1) d.jd.length (fun k (s : Int × Int × List Int) => s.2.1 = (k : Int) ∧ s.2.2.length = d.jd.length ∧ (∀ i : Nat, i < k → at' s.2.2 (i : Int) = Zy r a i) ∧ s.1 = ((yr r a k).length : Int)) (fun k s h => h.1) ?_ ?_ ⟨rfl, by simp, fun i hi => by omega, by simp [yr]⟩
    · rintro k ⟨c, _, num⟩ hk ⟨rfl, h1, h2, h3⟩
      simp only at h1 h2 h3
      subst h3
      have hkl := zao r a k
      have hks := zdr r a k
      have hset : ∀ v : Int, v = Zy r a k → ∀ i : Nat, i < k + 1 → at' ((num.set (k : Int).toNat (-1)).set (k : Int).toNat v) (i : Int) = Zy r a i := fun v hv i hi => by
        rw [za1 (by omega) (by simp; omega)]
        by_cases hik : (i : Int) = k
        · rw [if_pos hik, hv, show i = k by omega]
        · rw [if_neg hik, za1 (by omega) (by omega), if_neg hik]; exact h2 i (by omega)
      have hset1 : -1 = Zy r a k → ∀ i : Nat, i < k + 1 → at' (num.set (k : Int).toNat (-1)) (i : Int) = Zy r a i := fun hv i hi => by
        rw [za1 (by omega) (by omega)]
        by_cases hik : (i : Int) = k
        · rw [if_pos hik, hv, show i = k by omega]
        · rw [if_neg hik]; exact h2 i (by omega)
      have yes : zm r a k = true → w64 (((yr r a k).length : Int) + 1) = ((yr r a (k + 1)).length : Int) := fun h => by rw [hks, h, if_pos rfl, qw (by omega)]; simp
      have no : zm r a k = false → ((yr r a k).length : Int) = ((yr r a (k + 1)).length : Int) := fun h => by rw [hks, h]; rfl
      have ny : zm r a k = true → (((yr r a k).length : Nat) : Int) = Zy r a k := fun h => by unfold Zy; rw [h, if_pos rfl]
      have nn : zm r a k = false → (-1 : Int) = Zy r a k := fun h => by unfold Zy; rw [h]; rfl
      by_cases h0 : k = 0
      · subst h0
        repeat (first | with_reducible (refine Tot.bp ?_) | with_reducible (refine Tot.bb ?_) | (refine Tot.ct ?_ ?_; focus (first | rfl | (simp (disch := omega) only [jt, ju, bl_]; done))) | (refine Tot.cf ?_ ?_; focus (first | rfl | (simp (disch := omega) only [jt, ju, bl_]; done))) | with_reducible (refine Tot.bc ?_) | ((first | refine Tot.rdx ?_ ?_ | refine Tot.apx ?_ ?_ | refine Tot.mkx ?_ ?_); focus (first | omega | (simp; done) | (simp; omega))))
        have hk : zm r a 0 = true := by simp [zm]
        refine Tot.pure ?_; exact ⟨qw (k := 0) (by omega), by simp [h1], hset _ (ny hk), yes hk⟩
      · repeat (first | with_reducible (refine Tot.bp ?_) | with_reducible (refine Tot.bb ?_) | (refine Tot.ct ?_ ?_; focus (first | rfl | (simp (disch := omega) only [jt, ju, bl_]; done))) | (refine Tot.cf ?_ ?_; focus (first | rfl | (simp (disch := omega) only [jt, ju, bl_]; done))) | with_reducible (refine Tot.bc ?_) | ((first | refine Tot.rdx ?_ ?_ | refine Tot.apx ?_ ?_ | refine Tot.mkx ?_ ?_); focus (first | omega | (simp; done) | (simp; omega))))
        cases e1 : at' r (k : Int)
        · repeat (first | with_reducible (refine Tot.bp ?_) | with_reducible (refine Tot.bb ?_) | (refine Tot.ct ?_ ?_; focus (first | rfl | (simp (disch := omega) only [jt, ju, bl_]; done))) | (refine Tot.cf ?_ ?_; focus (first | rfl | (simp (disch := omega) only [jt, ju, bl_]; done))) | with_reducible (refine Tot.bc ?_) | ((first | refine Tot.rdx ?_ ?_ | refine Tot.apx ?_ ?_ | refine Tot.mkx ?_ ?_); focus (first | omega | (simp; done) | (simp; omega))))
          have hk : zm r a k = false := by simp [zm, h0, e1]
          refine Tot.pure ?_; exact ⟨qw (by omega), by simp [h1], hset1 (nn hk), no hk⟩
        · repeat (first | with_reducible (refine Tot.bp ?_) | with_reducible (refine Tot.bb ?_) | (refine Tot.ct ?_ ?_; focus (first | rfl | (simp (disch := omega) only [jt, ju, bl_]; done))) | (refine Tot.cf ?_ ?_; focus (first | rfl | (simp (disch := omega) only [jt, ju, bl_]; done))) | with_reducible (refine Tot.bc ?_) | ((first | refine Tot.rdx ?_ ?_ | refine Tot.apx ?_ ?_ | refine Tot.mkx ?_ ?_); focus (first | omega | (simp; done) | (simp; omega))))
          cases e2 : at' a (k : Int)
          · repeat (first | with_reducible (refine Tot.bp ?_) | with_reducible (refine Tot.bb ?_) | (refine Tot.ct ?_ ?_; focus (first | rfl | (simp (disch := omega) only [jt, ju, bl_]; done))) | (refine Tot.cf ?_ ?_; focus (first | rfl | (simp (disch := omega) only [jt, ju, bl_]; done))) | with_reducible (refine Tot.bc ?_) | ((first | refine Tot.rdx ?_ ?_ | refine Tot.apx ?_ ?_ | refine Tot.mkx ?_ ?_); focus (first | omega | (simp; done) | (simp; omega))))
            have hk : zm r a k = false := by simp [zm, h0, e2]
            refine Tot.pure ?_; exact ⟨qw (by omega), by simp [h1], hset1 (nn hk), no hk⟩
          · repeat (first | with_reducible (refine Tot.bp ?_) | with_reducible (refine Tot.bb ?_) | (refine Tot.ct ?_ ?_; focus (first | rfl | (simp (disch := omega) only [jt, ju, bl_]; done))) | (refine Tot.cf ?_ ?_; focus (first | rfl | (simp (disch := omega) only [jt, ju, bl_]; done))) | with_reducible (refine Tot.bc ?_) | ((first | refine Tot.rdx ?_ ?_ | refine Tot.apx ?_ ?_ | refine Tot.mkx ?_ ?_); focus (first | omega | (simp; done) | (simp; omega))))
            have hk : zm r a k = true := by simp [zm, e1, e2]
            refine Tot.pure ?_; exact ⟨qw (by omega), by simp [h1], hset _ (ny hk), yes hk⟩
    · rintro ⟨c, _, num⟩ ⟨rfl, h1, h2, h3⟩
      simp only at h1 h2
      repeat (first | with_reducible (refine Tot.bp ?_) | with_reducible (refine Tot.bb ?_) | (refine Tot.ct ?_ ?_; focus (first | rfl | (simp (disch := omega) only [jt, ju, bl_]; done))) | (refine Tot.cf ?_ ?_; focus (first | rfl | (simp (disch := omega) only [jt, ju, bl_]; done))) | with_reducible (refine Tot.bc ?_) | ((first | refine Tot.rdx ?_ ?_ | refine Tot.apx ?_ ?_ | refine Tot.mkx ?_ ?_); focus (first | omega | (simp; done) | (simp; omega))))
      refine Tot.pure ?_; exact ⟨h1, h2⟩
  · rintro num ⟨h1, h2⟩
    refine Tot.part (fun (s : List (List Int) × List Int) => s.1 = (yr r a d.jd.length).map (zhy d r a) ∧ s.2 = (yr r a d.jd.length).map (Y3 d)) ?_ ?_
    · refine Tot.forC (fun s => s.1) d.jd.length (fun k (s : Int × List (List Int) × List Int) => s.1 = (k : Int) ∧ s.2.1 = (yr r a k).map (zhy d r a) ∧ s.2.2 = (yr r a k).map (Y3 d)) (fun k s h => h.1) ?_ ?_ ⟨rfl, by simp [yr], by simp [yr]⟩
      · rintro k ⟨_, rows, labs⟩ hk ⟨rfl, g1, g2⟩
        simp only at g1 g2
        have hkl := zao r a k
        have l1 : rows.length ≤ k := by rw [g1]; simp; omega
        have l2 : labs.length ≤ k := by rw [g2]; simp; omega
        have hks := zdr r a k
        have hrow := hm.row k (by omega) (by omega)
        have h3 := h2 k hk
        repeat (first | with_reducible (refine Tot.bp ?_) | with_reducible (refine Tot.bb ?_) | (refine Tot.ct ?_ ?_; focus (first | rfl | (simp (disch := omega) only [jt, ju, bl_]; done))) | (refine Tot.cf ?_ ?_; focus (first | rfl | (simp (disch := omega) only [jt, ju, bl_]; done))) | with_reducible (refine Tot.bc ?_) | ((first | refine Tot.rdx ?_ ?_ | refine Tot.apx ?_ ?_ | refine Tot.mkx ?_ ?_); focus (first | omega | (simp; done) | (simp; omega))))
        refine Tot.cond (fun hb => ?_) fun hb => ?_
        · simp only [decide_eq_true_eq, h3] at hb
          repeat (first | with_reducible (refine Tot.bp ?_) | with_reducible (refine Tot.bb ?_) | (refine Tot.ct ?_ ?_; focus (first | rfl | (simp (disch := omega) only [jt, ju, bl_]; done))) | (refine Tot.cf ?_ ?_; focus (first | rfl | (simp (disch := omega) only [jt, ju, bl_]; done))) | with_reducible (refine Tot.bc ?_) | ((first | refine Tot.rdx ?_ ?_ | refine Tot.apx ?_ ?_ | refine Tot.mkx ?_ ?_); focus (first | omega | (simp; done) | (simp; omega))))
          have hk : zm r a k = false := by
            cases h : zm r a k
            · rfl
            · unfold Zy at hb; rw [h, if_pos rfl] at hb; omega
          refine Tot.pure ⟨qw (by omega), ?_, ?_⟩
          · simp only; rw [hks, hk]; exact g1
          · simp only; rw [hks, hk]; exact g2
        · simp only [decide_eq_false_iff_not, h3] at hb
          have hk : zm r a k = true := by
            cases h : zm r a k
            · unfold Zy at hb; rw [h] at hb; simp at hb
            · rfl
          refine Tot.bb ?_
          refine Tot.part (· = zhy d r a k) ?_ ?_
          · refine Tot.forC (fun s => s.1) d.jf.toNat (fun c (s : Int × List Int) => s.1 = (c : Int) ∧ s.2 = ((at' d.jd (k : Int)).take c).map (zgx r a)) (fun k s h => h.1) ?_ ?_ ⟨rfl, by simp⟩
            · rintro c ⟨_, l⟩ hc ⟨rfl, f1⟩
              simp only at f1
              have hnx := hm.nx k c (by omega) (by omega) (by omega) (by omega)
              have hcl : c < (at' d.jd (k : Int)).length := by omega
              have hl : l.length = c := by rw [f1]; simp; omega
              have e2 := Yl (zgx r a) hcl
              rw [← f1] at e2
              repeat (first | with_reducible (refine Tot.bp ?_) | with_reducible (refine Tot.bb ?_) | (refine Tot.ct ?_ ?_; focus (first | rfl | (simp (disch := omega) only [jt, ju, bl_]; done))) | (refine Tot.cf ?_ ?_; focus (first | rfl | (simp (disch := omega) only [jt, ju, bl_]; done))) | with_reducible (refine Tot.bc ?_) | ((first | refine Tot.rdx ?_ ?_ | refine Tot.apx ?_ ?_ | refine Tot.mkx ?_ ?_); focus (first | omega | (simp; done) | (simp; omega))))
              refine Tot.cond (fun hb => ?_) fun hb => ?_
              · simp only [decide_eq_true_eq] at hb
                repeat (first | with_reducible (refine Tot.bp ?_) | with_reducible (refine Tot.bb ?_) | (refine Tot.ct ?_ ?_; focus (first | rfl | (simp (disch := omega) only [jt, ju, bl_]; done))) | (refine Tot.cf ?_ ?_; focus (first | rfl | (simp (disch := omega) only [jt, ju, bl_]; done))) | with_reducible (refine Tot.bc ?_) | ((first | refine Tot.rdx ?_ ?_ | refine Tot.apx ?_ ?_ | refine Tot.mkx ?_ ?_); focus (first | omega | (simp; done) | (simp; omega))))
                refine Tot.pure ⟨qw (by omega), ?_⟩
                simp only
                rw [e2]
                obtain ⟨z, hz⟩ := Int.eq_ofNat_of_zero_le hb
                rw [hz, h2 z (by omega)]
                simp [zgx]
              · simp only [decide_eq_false_iff_not] at hb
                repeat (first | with_reducible (refine Tot.bp ?_) | with_reducible (refine Tot.bb ?_) | (refine Tot.ct ?_ ?_; focus (first | rfl | (simp (disch := omega) only [jt, ju, bl_]; done))) | (refine Tot.cf ?_ ?_; focus (first | rfl | (simp (disch := omega) only [jt, ju, bl_]; done))) | with_reducible (refine Tot.bc ?_) | ((first | refine Tot.rdx ?_ ?_ | refine Tot.apx ?_ ?_ | refine Tot.mkx ?_ ?_); focus (first | omega | (simp; done) | (simp; omega))))
                refine Tot.pure ⟨qw (by omega), ?_⟩
                simp only
                rw [e2]
                unfold zgx
                rw [if_neg hb]
            · rintro ⟨_, l⟩ ⟨rfl, f1⟩
              repeat (first | with_reducible (refine Tot.bp ?_) | with_reducible (refine Tot.bb ?_) | (refine Tot.ct ?_ ?_; focus (first | rfl | (simp (disch := omega) only [jt, ju, bl_]; done))) | (refine Tot.cf ?_ ?_; focus (first | rfl | (simp (disch := omega) only [jt, ju, bl_]; done))) | with_reducible (refine Tot.bc ?_) | ((first | refine Tot.rdx ?_ ?_ | refine Tot.apx ?_ ?_ | refine Tot.mkx ?_ ?_); focus (first | omega | (simp; done) | (simp; omega))))
              refine Tot.pure ?_
              simp only at f1
              rw [f1, List.take_of_length_le (by omega)]
              rfl
          · rintro row rfl
            repeat (first | with_reducible (refine Tot.bp ?_) | with_reducible (refine Tot.bb ?_) | (refine Tot.ct ?_ ?_; focus (first | rfl | (simp (disch := omega) only [jt, ju, bl_]; done))) | (refine Tot.cf ?_ ?_; focus (first | rfl | (simp (disch := omega) only [jt, ju, bl_]; done))) | with_reducible (refine Tot.bc ?_) | ((first | refine Tot.rdx ?_ ?_ | refine Tot.apx ?_ ?_ | refine Tot.mkx ?_ ?_); focus (first | omega | (simp; done) | (simp; omega))))
            refine Tot.pure ⟨qw (by omega), ?_, ?_⟩
            · simp only; rw [hks, hk, if_pos rfl, g1]; simp
            · simp only; rw [hks, hk, if_pos rfl, g2]; simp [Y3]
      · rintro ⟨_, rows, labs⟩ ⟨rfl, g1, g2⟩
        simp only at g1 g2
        repeat (first | with_reducible (refine Tot.bp ?_) | with_reducible (refine Tot.bb ?_) | (refine Tot.ct ?_ ?_; focus (first | rfl | (simp (disch := omega) only [jt, ju, bl_]; done))) | (refine Tot.cf ?_ ?_; focus (first | rfl | (simp (disch := omega) only [jt, ju, bl_]; done))) | with_reducible (refine Tot.bc ?_) | ((first | refine Tot.rdx ?_ ?_ | refine Tot.apx ?_ ?_ | refine Tot.mkx ?_ ?_); focus (first | omega | (simp; done) | (simp; omega))))
        exact Tot.pure ⟨g1, g2⟩
    · rintro ⟨rows, labs⟩ ⟨g1, g2⟩
      simp only at g1 g2
      refine Tot.pure ?_
      simp only [g1, g2]
      rfl
end Go.Proofs.YtpohfkgjghiofaaGreat

namespace Go.Proofs.YtpohfkgjghiofaaGreat
open Go Go.RowKit L
set_option maxRecDepth 100000 in
theorem zmt (n : Nat) : J6 (n + 300) = some true := by kernel_rfl
theorem zix : Tot J6 (· = true) := ⟨true, 300, fun n hn => by
  have := zmt (n - 300)
  rwa [show n - 300 + 300 = n by omega] at this, rfl⟩
end Go.Proofs.YtpohfkgjghiofaaGreat

namespace Go.Proofs.YtpohfkgjghiofaaGreat
open Go Go.RowKit L
set_option linter.unusedVariables false
set_option linter.unusedSimpArgs false
theorem znc {α : Type} [Inhabited α] {a b : List α} (hl : a.length = b.length) (h : ∀ i : Nat, i < a.length → at' a (i : Int) = at' b (i : Int)) : a = b :=
  List.ext_getElem hl fun i h1 h2 => by have := h i h1; rwa [J7 h1, J7 h2] at this
theorem zhj (a b : List Int) (ha : a.length ≤ 9223372036854775807) : Tot (zq a b) (· = decide (a = b)) := by
  have key : Tot (zq a b) (fun r => r = true ↔ a = b) := by
    unfold zq
    refine Tot.cond (fun hb => Tot.pure ?_) fun hb => ?_
    · simp only [decide_eq_true_eq] at hb
      simp; intro e; subst e; exact hb rfl
    simp only [decide_eq_false_iff_not, Decidable.not_not] at hb
    refine Tot.bind ?_
    refine Tot.forC (fun s => s) a.length (fun k (s : Int) => s = (k : Int) ∧ ∀ i : Nat, i < k → at' a (i : Int) = at' b (i : Int)) (fun k s h => h.1) ?_ ?_ ⟨rfl, fun i hi => by omega⟩
    · rintro k _ hk ⟨rfl, h⟩
      repeat (first | with_reducible (refine Tot.bp ?_) | with_reducible (refine Tot.bb ?_) | (refine Tot.ct ?_ ?_; focus (first | rfl | (simp (disch := omega) only [jt, ju, bl_]; done))) | (refine Tot.cf ?_ ?_; focus (first | rfl | (simp (disch := omega) only [jt, ju, bl_]; done))) | with_reducible (refine Tot.bc ?_) | ((first | refine Tot.rdx ?_ ?_ | refine Tot.apx ?_ ?_ | refine Tot.mkx ?_ ?_); focus (first | omega | (simp; done) | (simp; omega))))
      refine Tot.cond (fun h1 => Tot.pure (Tot.pure ?_)) fun h1 => Tot.pure ?_
      · simp only [decide_eq_true_eq] at h1
        simp; intro e; subst e; exact h1 rfl
      · simp only [decide_eq_false_iff_not, Decidable.not_not] at h1
        refine ⟨qw (by omega), fun i hi => ?_⟩
        by_cases hik : i = k
        · subst hik; exact h1
        · exact h i (by omega)
    · rintro _ ⟨rfl, h⟩
      repeat (first | with_reducible (refine Tot.bp ?_) | with_reducible (refine Tot.bb ?_) | (refine Tot.ct ?_ ?_; focus (first | rfl | (simp (disch := omega) only [jt, ju, bl_]; done))) | (refine Tot.cf ?_ ?_; focus (first | rfl | (simp (disch := omega) only [jt, ju, bl_]; done))) | with_reducible (refine Tot.bc ?_) | ((first | refine Tot.rdx ?_ ?_ | refine Tot.apx ?_ ?_ | refine Tot.mkx ?_ ?_); focus (first | omega | (simp; done) | (simp; omega))))
      refine Tot.pure (Tot.pure ?_)
      simp
      exact znc (by omega) h
  refine key.mono fun r hr => ?_
  rw [Bool.eq_iff_iff, hr]; simp
theorem zdh (a b : List Bool) (ha : a.length ≤ 9223372036854775807) : Tot (y3 a b) (· = decide (a = b)) := by
  have key : Tot (y3 a b) (fun r => r = true ↔ a = b) := by
    unfold y3
    refine Tot.cond (fun hb => Tot.pure ?_) fun hb => ?_
    · simp only [decide_eq_true_eq] at hb
      simp; intro e; subst e; exact hb rfl
    simp only [decide_eq_false_iff_not, Decidable.not_not] at hb
    refine Tot.bind ?_
    refine Tot.forC (fun s => s) a.length (fun k (s : Int) => s = (k : Int) ∧ ∀ i : Nat, i < k → at' a (i : Int) = at' b (i : Int)) (fun k s h => h.1) ?_ ?_ ⟨rfl, fun i hi => by omega⟩
    · rintro k _ hk ⟨rfl, h⟩
      repeat (first | with_reducible (refine Tot.bp ?_) | with_reducible (refine Tot.bb ?_) | (refine Tot.ct ?_ ?_; focus (first | rfl | (simp (disch := omega) only [jt, ju, bl_]; done))) | (refine Tot.cf ?_ ?_; focus (first | rfl | (simp (disch := omega) only [jt, ju, bl_]; done))) | with_reducible (refine Tot.bc ?_) | ((first | refine Tot.rdx ?_ ?_ | refine Tot.apx ?_ ?_ | refine Tot.mkx ?_ ?_); focus (first | omega | (simp; done) | (simp; omega))))
      refine Tot.cond (fun h1 => Tot.pure (Tot.pure ?_)) fun h1 => Tot.pure ?_
      · simp at h1
        simp; intro e; subst e; exact h1 rfl
      · simp at h1
        refine ⟨qw (by omega), fun i hi => ?_⟩
        by_cases hik : i = k
        · subst hik; exact h1
        · exact h i (by omega)
    · rintro _ ⟨rfl, h⟩
      repeat (first | with_reducible (refine Tot.bp ?_) | with_reducible (refine Tot.bb ?_) | (refine Tot.ct ?_ ?_; focus (first | rfl | (simp (disch := omega) only [jt, ju, bl_]; done))) | (refine Tot.cf ?_ ?_; focus (first | rfl | (simp (disch := omega) only [jt, ju, bl_]; done))) | with_reducible (refine Tot.bc ?_) | ((first | refine Tot.rdx ?_ ?_ | refine Tot.apx ?_ ?_ | refine Tot.mkx ?_ ?_); focus (first | omega | (simp; done) | (simp; omega))))
      refine Tot.pure (Tot.pure ?_)
      simp
      exact znc (by omega) h
  refine key.mono fun r hr => ?_
  rw [Bool.eq_iff_iff, hr]; simp
theorem zkt (d : je) (h1 : d.jd.length ≤ 9223372036854775807) (h2 : d.jl.length ≤ 9223372036854775807) (h3 : ∀ i : Nat, i < d.jd.length → (at' d.jd i).length ≤ 9223372036854775807) : Tot (Vj d d) (· = true) := by
  unfold Vj
  have e : (!(d.ji.1 == d.ji.1)) = false := by simp
  simp only [e, not_true_eq_false, decide_false, Bool.or_false, Bool.not_false, G.ct]
  refine Tot.bindE (zhj _ _ h2) ?_
  simp only [decide_true, Bool.not_true, G.cf]
  refine Tot.bind ?_
  refine Tot.forC (fun s => s) d.jd.length (fun k (s : Int) => s = (k : Int)) (fun k s h => h) ?_ ?_ rfl
  · rintro k _ hk rfl
    repeat (first | with_reducible (refine Tot.bp ?_) | with_reducible (refine Tot.bb ?_) | (refine Tot.ct ?_ ?_; focus (first | rfl | (simp (disch := omega) only [jt, ju, bl_]; done))) | (refine Tot.cf ?_ ?_; focus (first | rfl | (simp (disch := omega) only [jt, ju, bl_]; done))) | with_reducible (refine Tot.bc ?_) | ((first | refine Tot.rdx ?_ ?_ | refine Tot.apx ?_ ?_ | refine Tot.mkx ?_ ?_); focus (first | omega | (simp; done) | (simp; omega))))
    refine Tot.bindE (zhj _ _ (h3 k hk)) ?_
    simp only [decide_true, Bool.not_true, G.cf]
    exact Tot.pure (qw (by omega))
  · rintro _ rfl
    repeat (first | with_reducible (refine Tot.bp ?_) | with_reducible (refine Tot.bb ?_) | (refine Tot.ct ?_ ?_; focus (first | rfl | (simp (disch := omega) only [jt, ju, bl_]; done))) | (refine Tot.cf ?_ ?_; focus (first | rfl | (simp (disch := omega) only [jt, ju, bl_]; done))) | with_reducible (refine Tot.bc ?_) | ((first | refine Tot.rdx ?_ ?_ | refine Tot.apx ?_ ?_ | refine Tot.mkx ?_ ?_); focus (first | omega | (simp; done) | (simp; omega))))
    exact Tot.pure (Tot.pure rfl)
theorem zjz (d : je) (hd : DOk d) (hlen : d.jd.length ≤ 9223372036854775807) : Tot (Qz d) (fun b => b = true → d.jd.length ≤ 300 ∧ d.jl.length ≤ 300) := by
  unfold Qz
  refine Tot.part (fun _ => True) ?_ fun n _ => Tot.pure fun h => by simp at h; omega
  refine Tot.forC (fun s => s.2) d.jd.length (fun k (s : Int × Int) => s.2 = (k : Int)) (fun k s h => h) ?_ ?_ rfl
  · rintro k ⟨n, _⟩ hk rfl
    repeat (first | with_reducible (refine Tot.bp ?_) | with_reducible (refine Tot.bb ?_) | (refine Tot.ct ?_ ?_; focus (first | rfl | (simp (disch := omega) only [jt, ju, bl_]; done))) | (refine Tot.cf ?_ ?_; focus (first | rfl | (simp (disch := omega) only [jt, ju, bl_]; done))) | with_reducible (refine Tot.bc ?_) | ((first | refine Tot.rdx ?_ ?_ | refine Tot.apx ?_ ?_ | refine Tot.mkx ?_ ?_); focus (first | omega | (simp; done) | (simp; omega))))
    exact Tot.pure (qw (by omega))
  · rintro ⟨n, _⟩ rfl
    repeat (first | with_reducible (refine Tot.bp ?_) | with_reducible (refine Tot.bb ?_) | (refine Tot.ct ?_ ?_; focus (first | rfl | (simp (disch := omega) only [jt, ju, bl_]; done))) | (refine Tot.cf ?_ ?_; focus (first | rfl | (simp (disch := omega) only [jt, ju, bl_]; done))) | with_reducible (refine Tot.bc ?_) | ((first | refine Tot.rdx ?_ ?_ | refine Tot.apx ?_ ?_ | refine Tot.mkx ?_ ?_); focus (first | omega | (simp; done) | (simp; omega))))
    exact Tot.pure trivial
theorem zh2 (d : je) (hd : DOk d) (hlen : d.jd.length ≤ 9223372036854775807) : Tot (g_law15_LiveTells d) (· = true) := by
  unfold g_law15_LiveTells
  refine Tot.part _ (zjz d hd hlen) fun b hb => ?_
  refine Tot.cond (fun h => ?_) fun h => ?_
  · exact Tot.bindE zix (Tot.pure rfl)
  simp only [Bool.or_eq_false_iff, Bool.not_eq_false', decide_eq_false_iff_not] at h
  obtain ⟨n1, n2⟩ := hb h.1
  refine Tot.bindE (zbd d hd (by omega)) ?_
  refine Tot.bindE (zb6 d hd (by omega)) ?_
  have hr : (Je d).length ≤ 300 := by unfold Je; split <;> simp [zbs]; omega
  have ha : (Vq d).length ≤ 300 := by unfold Vq; split <;> simp [zbs]; omega
  refine Tot.bindE (zdh _ _ (by omega)) ?_
  repeat (first | with_reducible (refine Tot.bp ?_) | with_reducible (refine Tot.bb ?_) | (refine Tot.ct ?_ ?_; focus (first | rfl | (simp (disch := omega) only [jt, ju, bl_, eq_self, decide_true]; done))) | (refine Tot.cf ?_ ?_; focus (first | rfl | (simp (disch := omega) only [jt, ju, bl_, eq_self, decide_true]; done))) | with_reducible (refine Tot.bc ?_) | ((first | refine Tot.rdx ?_ ?_ | refine Tot.apx ?_ ?_ | refine Tot.mkx ?_ ?_); focus (first | omega | (simp [eq_self, decide_true]; done) | (simp [eq_self, decide_true]; omega))))
  refine Tot.bindE (zdf d hd (by omega)) ?_
  repeat (first | with_reducible (refine Tot.bp ?_) | with_reducible (refine Tot.bb ?_) | (refine Tot.ct ?_ ?_; focus (first | rfl | (simp (disch := omega) only [jt, ju, bl_, eq_self, decide_true]; done))) | (refine Tot.cf ?_ ?_; focus (first | rfl | (simp (disch := omega) only [jt, ju, bl_, eq_self, decide_true]; done))) | with_reducible (refine Tot.bc ?_) | ((first | refine Tot.rdx ?_ ?_ | refine Tot.apx ?_ ?_ | refine Tot.mkx ?_ ?_); focus (first | omega | (simp [eq_self, decide_true]; done) | (simp [eq_self, decide_true]; omega))))
  refine Tot.bindE (zdu d hd (by omega)) ?_
  repeat (first | with_reducible (refine Tot.bp ?_) | with_reducible (refine Tot.bb ?_) | (refine Tot.ct ?_ ?_; focus (first | rfl | (simp (disch := omega) only [jt, ju, bl_, eq_self, decide_true]; done))) | (refine Tot.cf ?_ ?_; focus (first | rfl | (simp (disch := omega) only [jt, ju, bl_, eq_self, decide_true]; done))) | with_reducible (refine Tot.bc ?_) | ((first | refine Tot.rdx ?_ ?_ | refine Tot.apx ?_ ?_ | refine Tot.mkx ?_ ?_); focus (first | omega | (simp [eq_self, decide_true]; done) | (simp [eq_self, decide_true]; omega))))
  refine Tot.bindE (zdh _ _ (by omega)) ?_
  repeat (first | with_reducible (refine Tot.bp ?_) | with_reducible (refine Tot.bb ?_) | (refine Tot.ct ?_ ?_; focus (first | rfl | (simp (disch := omega) only [jt, ju, bl_, eq_self, decide_true]; done))) | (refine Tot.cf ?_ ?_; focus (first | rfl | (simp (disch := omega) only [jt, ju, bl_, eq_self, decide_true]; done))) | with_reducible (refine Tot.bc ?_) | ((first | refine Tot.rdx ?_ ?_ | refine Tot.apx ?_ ?_ | refine Tot.mkx ?_ ?_); focus (first | omega | (simp [eq_self, decide_true]; done) | (simp [eq_self, decide_true]; omega))))
  refine Tot.bindE (zjr d hd (by omega)) ?_
  repeat (first | with_reducible (refine Tot.bp ?_) | with_reducible (refine Tot.bb ?_) | (refine Tot.ct ?_ ?_; focus (first | rfl | (simp (disch := omega) only [jt, ju, bl_, eq_self, decide_true]; done))) | (refine Tot.cf ?_ ?_; focus (first | rfl | (simp (disch := omega) only [jt, ju, bl_, eq_self, decide_true]; done))) | with_reducible (refine Tot.bc ?_) | ((first | refine Tot.rdx ?_ ?_ | refine Tot.apx ?_ ?_ | refine Tot.mkx ?_ ?_); focus (first | omega | (simp [eq_self, decide_true]; done) | (simp [eq_self, decide_true]; omega))))
  refine Tot.bindE (zkk d hd (by omega)) ?_
  repeat (first | with_reducible (refine Tot.bp ?_) | with_reducible (refine Tot.bb ?_) | (refine Tot.ct ?_ ?_; focus (first | rfl | (simp (disch := omega) only [jt, ju, bl_, eq_self, decide_true]; done))) | (refine Tot.cf ?_ ?_; focus (first | rfl | (simp (disch := omega) only [jt, ju, bl_, eq_self, decide_true]; done))) | with_reducible (refine Tot.bc ?_) | ((first | refine Tot.rdx ?_ ?_ | refine Tot.apx ?_ ?_ | refine Tot.mkx ?_ ?_); focus (first | omega | (simp [eq_self, decide_true]; done) | (simp [eq_self, decide_true]; omega))))
  have ht : (zdt d).jd.length ≤ 300 ∧ (zdt d).jl.length ≤ 300 ∧ ∀ i : Nat, i < (zdt d).jd.length → (at' (zdt d).jd i).length ≤ 9223372036854775807 := by
    unfold zdt
    by_cases hR : zr d = true
    · rw [if_pos hR]
      have hk := zao (Je d) (Vq d) d.jd.length
      refine ⟨by simp [zlv]; omega, by simp [zlv]; omega, fun i hi => ?_⟩
      simp only [zlv, List.length_map] at hi ⊢
      have hmem : at' (List.map (zhy d (Je d) (Vq d)) (yr (Je d) (Vq d) d.jd.length)) (i : Int) ∈ _ := zdm (by omega) (by simp; omega)
      obtain ⟨q, hq, e⟩ := List.mem_map.1 hmem
      rw [← e]
      have hq2 := (zig.1 hq).1
      simp only [zhy, List.length_map]
      exact hd.rows _ (zdm (by omega) (by omega))
    · rw [if_neg hR]
      exact ⟨by simp, by simp, fun i hi => by simp at hi⟩
  refine Tot.bindE (zkt _ (by omega) (by omega) ht.2.2) ?_
  repeat (first | with_reducible (refine Tot.bp ?_) | with_reducible (refine Tot.bb ?_) | (refine Tot.ct ?_ ?_; focus (first | rfl | (simp (disch := omega) only [jt, ju, bl_, eq_self, decide_true]; done))) | (refine Tot.cf ?_ ?_; focus (first | rfl | (simp (disch := omega) only [jt, ju, bl_, eq_self, decide_true]; done))) | with_reducible (refine Tot.bc ?_) | ((first | refine Tot.rdx ?_ ?_ | refine Tot.apx ?_ ?_ | refine Tot.mkx ?_ ?_); focus (first | omega | (simp [eq_self, decide_true]; done) | (simp [eq_self, decide_true]; omega))))
  refine Tot.bindE zix ?_
  refine Tot.pure ?_
  simp
end Go.Proofs.YtpohfkgjghiofaaGreat

namespace Go.Proofs.YtpohfkgjghiofaaGreat
open Go.ChangeShapes Go.WideShapes Go.ChangeAt Go.RowKit
theorem zc6 {H : Type} {enc : TypeId × Value → H} {P : Program} (hl : laidOutB P = true) {W W' : World} (hb : Below W.heap.size W W') :
    ∀ (ts : List TypeId) (vs : List Value) (ds : List (DataW H)) (ps : List MemPlace), (∀ t ∈ ts, P.readableRec t = true ∧ t < P.types.size) → (∀ x ∈ ps, x.block < W.heap.size) →
      DataW.TrodAll enc P W 0 (fun _ => true) true ts vs ds ps → DataW.TrodAll enc P W' 0 (fun b => decide (b < W.heap.size)) true ts vs ds ps
  | [], vs, ds, ps, _, _, h => by
    obtain ⟨rfl, rfl, rfl⟩ := trodAll_nil h
    exact trodAll_mk0
  | t :: ts, vs, ds, ps, hr, hlt, h => by
    obtain ⟨v, vs', d, ds', p, q, rfl, rfl, rfl, h0, h1⟩ := trodAll_cons h
    have ht := hr t (by simp)
    exact trodAll_cons_mk (Below.trod hl ht.1 ht.2 h0 hb fun x hx => hlt x (by simp [hx]))
      (zc6 hl hb ts vs' ds' q (fun t ht => hr t (by simp [ht])) (fun x hx => hlt x (by simp [hx])) h1)
theorem law_post {H : Type} {enc : TypeId × Value → H} {P : Program} {f : Func} {s : ChangeSpec} {tB : TypeId} (hl : laidOutB P = true) (hr : (f.params.toList.all fun t => P.readableRec t && decide (t < P.types.size)) = true)
    (hvars : s.vars = []) (hbool : f.resultTypes = #[tB]) (hB : P.underlying tB = some .bool) {W W' : World} {args : Array Value} {ds gs : List (DataW H)} {before : List MemPlace}
    (hW : DataW.Whole enc P f.params.toList s.vars false W args.toList ds gs before) (hfn : s.fn H ds = { results := [.lit (.bool true)], args := ds }) (hb : Below W.heap.size W W') :
    s.post enc P f false true false false W args (.bool true) W' := by
  have hW' := hW
  obtain ⟨p, q, hA, hV, hbef, _, _⟩ := hW
  rw [hvars] at hV
  obtain ⟨rfl, rfl⟩ := trodVars_none hV
  rw [List.append_nil] at hbef
  subst hbef
  have hlt : ∀ x ∈ before, x.block < W.heap.size := fun x hx => by simpa using hW'.lt x hx
  have hr' : ∀ t ∈ f.params.toList, P.readableRec t = true ∧ t < P.types.size := by
    intro t ht
    have := List.all_eq_true.1 hr t ht
    simpa using this
  refine ⟨ds, [], before, [], before, [], hW', ?_, ?_, ?_, hb.frame _, fun h => by cases h⟩
  · rw [List.append_nil, hfn, hbool]
    exact trodAll_mk1 (shut_bool hB true)
  · rw [List.append_nil, hfn]
    exact zc6 hl hb _ _ _ _ hr' hlt hA
  · rw [List.append_nil, hfn, hvars]
    rfl
end Go.Proofs.YtpohfkgjghiofaaGreat
