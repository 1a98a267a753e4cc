/-
  Texts of this proof, put together: Lv32, Pb, Pc, Pd, Pe, Pf, Pm, Pg, Ph, Pi, Pj, Pl, Pq, Pr, Ps, Pt, Kn, Pn, Pv, Pw, Row, Op, O15, Px.
-/
import Derived.ProofKit
import Derived.OpenShut
import Derived.Deep.Slices
import Derived.Test.YtpohfkgjghiofaaQ5LiveShown

namespace Go.Proofs.Ytpohfkgjghiofaa
open Go Go.RowKit L
set_option maxRecDepth 10000
set_option maxHeartbeats 4000000
set_option linter.unusedVariables false
set_option linter.unusedSimpArgs false
def Vt (a0 : jd) : G (List Int) :=
  G.bind (Ve a0) fun x5 => G.bind (G.loop (σ := (Int × (List Int))) (α := (List Int)) (fun (x9, x10) => G.cond (decide (x9 < (x5.length : Int))) (G.bind (α := (List Int)) (G.bind (G.lift (idx x5 x9)) fun x25 => G.bind (G.cond x25 (G.lift (idx a0.jl x9)) (G.pure 0)) fun x27 => G.cond (x25 && (decide (0 ≤ x27))) (G.bind (G.lift (idx a0.jl x9)) fun x29 => G.bind (G.lift (app 8 x10 ([x29] : List Int))) fun x30 => G.pure x30) (G.pure x10)) fun x22 => G.pure (.inl ((w64 (x9 + 1)), x22))) (G.pure (.inr x10))) (0, [])) fun x41 => G.bind (G.lift (zbv x41 (zbp x41))) fun x44 => G.bind (G.lift (zbv x44 (zbf x44))) fun x47 => G.pure x47
theorem ze9 {nn : Nat} {a0 : jd} {r : (List Int)} (h0 : Vt a0 nn = some r) : PCall Try.prog 17 [jc a0] (· = PV.fr 3 1 (r.map I)) := by
 unfold Vt at h0
 refine PCall.intro' Try.func17 rfl Try.ntmps17 (by simp) fun W => ?_
 refine A1 0 (e_ (jc a0)) fun F f0 => ?_
 generalize PHeap.empty = H
 refine SR fun K1 hK1 => ?_
 refine Q3 (PV.rp (jc a0).cells) (zk f0 (qt _ _)) ?_
 refine Q1 (PV.u (.slice none 0 0)) (jf rfl) ?_
 have o1002 : ownL 3 1 I H 1002 (PV.u (.slice none 0 0)) [] := ownL.nil _ _
 refine PL.nil (hK1 _ _ ?_)
 refine A1 1 (e_ (PV.rp (jc a0).cells)) fun F f1 => ?_
 refine SR fun K2 hK2 => ?_
 refine Q1 (PV.u (.slice none 0 0)) (jf rfl) ?_
 have o1002 : ownL 3 1 I H 1002 (PV.u (.slice none 0 0)) [] := ownL.nil _ _
 refine PL.nil (hK2 _ _ ?_)
 refine A2 1 f1 3 (e_ (PV.u (.slice none 0 0))) fun F f1 f3 => ?_
 refine PC.seq fun K3 hK3 => ?_
 refine SR fun K4 hK4 => ?_
 refine Q1 (jc a0) (vw v7 f1 (qe _)) ?_
 obtain ⟨x5, hx5, h0⟩ := bs h0
 refine Q3 (slB x5) (j0 (by kernel_rfl) (am (e_ (jc a0)) (am0)) (js (qa _) (j2)) (zae hx5)) ?_
 refine Q1 (I (x5.length : Int)) (qg (rep := B) (xs := x5) zgw (e_ (slB x5))) ?_
 refine Q1 _ (jb (e_ (I 0))) ?_
 refine PL.nil (hK4 _ _ ?_)
 refine A5 1 f1 3 f3 7 (e_ (slB x5)) 8 (e_ (I (x5.length : Int))) 9 (e_ (I 0)) fun F f1 f3 f7 f8 f9 => ?_
 refine PC.block ?_
 obtain ⟨o12, ho12, h0⟩ := bs h0
 obtain ⟨B13, hB13, ho12⟩ := G.loop_some ho12
 refine PC.loop (fun m16 F H => ∃ s50 : (Int × (List Int)), ∃ q11, qw B13 m16 s50 = some o12 ∧ F 1 = (PV.rp (jc a0).cells) ∧ F 3 = q11 ∧ F 7 = (slB x5) ∧ F 8 = (I (x5.length : Int)) ∧ F 9 = (I s50.1) ∧ ownL 3 1 I H 1002 q11 s50.2) (m := nn) ⟨(0, []), (PV.u (.slice none 0 0)), ho12, f1, f3, f7, f8, f9, o1002⟩ fun m16 F H hI => ?_
 obtain ⟨⟨x9, x10⟩, q11, ho12, f1, f3, f7, f8, f9, o1002⟩ := hI
 obtain ⟨m16, rfl, st14, hs15, ho12⟩ := jw ho12
 rw [hB13] at hs15
 try dsimp only at hs15
 refine SR fun K17 hK17 => ?_
 refine Q1 (B (decide (x9 < (x5.length : Int)))) (jh rfl f9 f8 jv) ?_
 refine PL.nil (hK17 _ _ ?_)
 refine A6 1 f1 3 f3 7 f7 8 f8 9 f9 10 (e_ (B (decide (x9 < (x5.length : Int))))) fun F f1 f3 f7 f8 f9 f10 => ?_
 refine PC.seq fun K18 hK18 => ?_
 rcases cz hs15 with ⟨hb19, hs15⟩ | ⟨hb19, hs15⟩
 refine PC.condTb f10 hb19 ?_
 refine PC.skip ?_
 refine hK18 _ _ ?_
 refine A5 1 f1 3 f3 7 f7 8 f8 9 f9 fun F f1 f3 f7 f8 f9 => ?_
 obtain ⟨o21, ho21, hs15⟩ := bs hs15
 refine PC.seqM (fun F H => ∃ s33 : (List Int), ∃ q23, o21 = s33 ∧ F 1 = (PV.rp (jc a0).cells) ∧ F 3 = q23 ∧ F 7 = (slB x5) ∧ F 8 = (I (x5.length : Int)) ∧ F 9 = (I x9) ∧ ownL 3 1 I H 1002 q23 s33) ?_ ?_
 refine PC.block ?_
 refine SR fun K24 hK24 => ?_
 refine Q1 _ (jb f9) ?_
 obtain ⟨x25, hx25, ho21⟩ := bs ho21
 refine Q1 (PV.rp (B x25).cells) (j1 (rep := B) (xs := x5) Zz f7 f9 hx25) ?_
 refine Q1 (B x25) (qr zc0 (e_ (PV.rp (B x25).cells))) ?_
 refine Q1 _ (jf (e_ (I x9))) ?_
 refine Q1 _ (jf (e_ (B x25))) ?_
 refine PL.nil (hK24 _ _ ?_)
 refine A7 1 f1 3 f3 4 (e_ (I x9)) 5 (e_ (B x25)) 7 f7 8 f8 9 f9 fun F f1 f3 f4 f5 f7 f8 f9 => ?_
 refine SR fun K26 hK26 => ?_
 refine Q1 _ (jb f5) ?_
 refine Q1 _ (jb (e_ (B x25))) ?_
 refine GT (PV.rp ((jc a0).cells.drop 258)) rfl (e_ (B x25)) (fun hb => j8 ze qh (by decide) f1) ?_
 refine GT (slI a0.jl) rfl (e_ (B x25)) (fun hb => jx qh (gvp hb (e_ (gv x25 (PV.rp ((jc a0).cells.drop 258))))) (yg a0)) ?_
 refine GT (I x9) rfl (e_ (B x25)) (fun hb => jb f4) ?_
 obtain ⟨x27, hx27, ho21⟩ := bs ho21
 refine GT (PV.rp (I x27).cells) rfl (e_ (B x25)) (fun hb => j1 (rep := I) (xs := a0.jl) vk (gvp hb (e_ (gv x25 (slI a0.jl)))) (gvp hb (e_ (gv x25 (I x9)))) (G.cond_pos hx27 hb)) ?_
 refine GT (I x27) rfl (e_ (B x25)) (fun hb => qr qz (gvp hb (e_ (gv x25 (PV.rp (I x27).cells))))) ?_
 refine GT (B (decide (0 ≤ x27))) rfl (e_ (B x25)) (fun hb => jh rfl (gvp hb (e_ (gv x25 (I x27)))) (e_ (I 0)) vr) ?_
 refine Q1 (B (x25 && (decide (0 ≤ x27)))) (vt (e_ (B x25)) (e_ (gv x25 (B (decide (0 ≤ x27))))) rfl) ?_
 refine PL.nil (hK26 _ _ ?_)
 refine A7 1 f1 3 f3 4 f4 7 f7 8 f8 9 f9 22 (e_ (B (x25 && (decide (0 ≤ x27))))) fun F f1 f3 f4 f7 f8 f9 f22 => ?_
 rcases cz ho21 with ⟨hb28, ho21⟩ | ⟨hb28, ho21⟩
 refine PC.condTb f22 hb28 ?_
 refine PC.region ?_
 refine Q1 _ (jb f3) ?_
 refine Q1 (PV.rp ((jc a0).cells.drop 258)) (j8 ze qh (by decide) f1) ?_
 refine Q1 (slI a0.jl) (jx qh (e_ (PV.rp ((jc a0).cells.drop 258))) (yg a0)) ?_
 refine Q1 _ (jb f4) ?_
 obtain ⟨x29, hx29, ho21⟩ := bs ho21
 refine Q1 (PV.rp (I x29).cells) (j1 (rep := I) (xs := a0.jl) vk (e_ (slI a0.jl)) (e_ (I x9)) hx29) ?_
 refine Q1 (I x29) (qr qz (e_ (PV.rp (I x29).cells))) ?_
 refine Q3 (slI ([x29] : List Int)) (yx (rep := I) (xs := [x29]) qj rfl (by decide) (bm (e_ (I x29)) (bm0)) rfl rfl) ?_
 obtain ⟨x30, hx30, ho21⟩ := bs ho21
 refine PL.appG (rep := I) (ys := ([x29] : List Int)) rfl rfl rfl (by decide) qj (e_ q11) o1002 (e_ (slI ([x29] : List Int))) (fun _ => rfl) (lf1 (fun _ => rfl) (fun _ => rfl)) hx30 fun q31 H o1002 fz32 => ?_
 refine Q1 _ (jf (e_ q31)) ?_
 refine PL.nil ?_
 have ho21 := pz ho21
 subst ho21
 exact ⟨x30, q31, rfl, f1, (e_ q31), f7, f8, f9, o1002⟩
 refine PC.condFb f22 hb28 ?_
 refine PC.skip ?_
 have ho21 := pz ho21
 subst ho21
 exact ⟨x10, q11, rfl, f1, f3, f7, f8, f9, o1002⟩
 intro F H hI
 obtain ⟨x22, q23, ho, f1, f3, f7, f8, f9, o1002⟩ := hI
 have ho := ho.symm
 subst ho
 try dsimp only at hs15
 refine PC.region ?_
 refine Q1 _ (jh rfl f9 (e_ (I 1)) j3) ?_
 refine Q1 _ (jb (e_ (I (w64 (x9 + 1))))) ?_
 refine PL.nil ?_
 have hs15 := pz hs15
 subst hs15
 exact ⟨m16, Nat.lt_succ_self _, ((w64 (x9 + 1)), x22), q23, ho12, f1, f3, f7, f8, (e_ (I (w64 (x9 + 1)))), o1002⟩
 refine PC.condFb f10 hb19 ?_
 refine PC.exit ?_
 have hs15 := pz hs15
 subst hs15
 try dsimp only at ho12
 subst ho12
 try dsimp only at h0
 refine hK3 _ _ ?_
 refine A1 3 f3 fun F f3 => ?_
 refine SR fun K34 hK34 => ?_
 refine Q1 _ (jb f3) ?_
 obtain ⟨x35, hx35, h0⟩ := bs h0
 refine PL.sortI 1002 rfl rfl (by simp [y7]) (e_ q11) o1002 hx35 fun H o1002 fz36 => ?_
 refine PL.nil (hK34 _ _ ?_)
 refine A1 3 f3 fun F f3 => ?_
 refine SR fun K37 hK37 => ?_
 refine Q1 _ (jb f3) ?_
 obtain ⟨x38, hx38, h0⟩ := bs h0
 refine PL.compI 1002 rfl rfl rfl (by decide) (e_ q11) o1002 hx38 fun q39 H o1002 fz40 => ?_
 refine Q1 _ (jf (e_ q39)) ?_
 refine PL.nil (hK37 _ _ ?_)
 refine A1 2 (e_ q39) fun F f2 => ?_
 refine PC.ret ?_
 have h0 := pz h0
 subst h0
 exact za (.inr rfl) (j9 Try.results17 f2) o1002 (fun _ => rfl)
theorem zfm {nn : Nat} {a0 : jd} {r : (List Int)} (h0 : Vt a0 nn = some r) : PCall Try.prog 17 [jc a0] (· = slI r) := (ze9 h0).forget
def Ju  : G Bool :=
  G.bind (zav ([(⟨#[91, 98, 45, 100, 93, 43, 99]⟩ : ByteArray)] : List ByteArray)) fun x3 => G.bind (Je x3 0) fun x4 => G.bind (zav ([(⟨#[97]⟩ : ByteArray), (⟨#[97, 91, 94, 92, 120, 48, 48, 45, 92, 120, 102, 102, 93]⟩ : ByteArray)] : List ByteArray)) fun x6 => G.bind (zcc x6) fun x7 => G.bind (G.cond ((x4.2 && (x4.1.toList == (⟨#[98, 99]⟩ : ByteArray).toList)) && (decide ((x7.je.length : Int) = 2))) (Vt (⟨x7.jp, x7.ji, x7.je, x7.jl⟩ : jd)) (G.pure [])) fun x12 => G.bind (G.cond ((x4.2 && (x4.1.toList == (⟨#[98, 99]⟩ : ByteArray).toList)) && (decide ((x7.je.length : Int) = 2))) (zg x12 ([0] : List Int)) (G.pure false)) fun x13 => G.pure (((x4.2 && (x4.1.toList == (⟨#[98, 99]⟩ : ByteArray).toList)) && (decide ((x7.je.length : Int) = 2))) && x13)
theorem za0 {nn : Nat}  {r : Bool} (h0 : Ju nn = some r) : PCall Try.prog 6 [] (· = B r) := by
 unfold Ju at h0
 refine PCall.intro' Try.func6 rfl Try.ntmps6 (by simp) fun W => ?_
 refine PC.absF (fun F => True) trivial ?_
 intro F hI
 clear hI
 generalize PHeap.empty = H
 refine SR fun K1 hK1 => ?_
 refine Q1 _ (jf (e_ (B false))) ?_
 refine PL.nil (hK1 _ _ ?_)
 refine PC.absF (fun F => True) trivial ?_
 intro F hI
 clear hI
 refine SR fun K2 hK2 => ?_
 refine Q3 (zhm ([(⟨#[91, 98, 45, 100, 93, 43, 99]⟩ : ByteArray)] : List ByteArray)) (yx (rep := S) (xs := [(⟨#[91, 98, 45, 100, 93, 43, 99]⟩ : ByteArray)]) zka rfl (by decide) (bm (e_ (S (⟨#[91, 98, 45, 100, 93, 43, 99]⟩ : ByteArray))) (bm0)) rfl rfl) ?_
 obtain ⟨x3, hx3, h0⟩ := bs h0
 refine Q3 (jc x3) (j0 (by kernel_rfl) (am (e_ (zhm ([(⟨#[91, 98, 45, 100, 93, 43, 99]⟩ : ByteArray)] : List ByteArray))) (am0)) (js (zkb _) (j2)) (zdj hx3)) ?_
 obtain ⟨x4, hx4, h0⟩ := bs h0
 refine Q3 (PV.tup [(S x4.1), (B x4.2)]) (j0 (by kernel_rfl) (am (e_ (jc x3)) (am (e_ (I 0)) (am0))) (js (qa _) (js (.u _) (j2))) (zad hx4)) ?_
 refine Q1 _ (jb (e_ (PV.tup [(S x4.1), (B x4.2)]))) ?_
 refine Q1 _ (vj (e_ (PV.tup [(S x4.1), (B x4.2)])) rfl) ?_
 refine Q1 _ (vj (e_ (PV.tup [(S x4.1), (B x4.2)])) rfl) ?_
 refine Q1 _ (jf (e_ (S x4.1))) ?_
 refine Q1 _ (jf (e_ (B x4.2))) ?_
 refine PL.nil (hK2 _ _ ?_)
 refine A2 1 (e_ (S x4.1)) 2 (e_ (B x4.2)) fun F f1 f2 => ?_
 refine SR fun K5 hK5 => ?_
 refine Q3 (zhm ([(⟨#[97]⟩ : ByteArray), (⟨#[97, 91, 94, 92, 120, 48, 48, 45, 92, 120, 102, 102, 93]⟩ : ByteArray)] : List ByteArray)) (yx (rep := S) (xs := [(⟨#[97]⟩ : ByteArray), (⟨#[97, 91, 94, 92, 120, 48, 48, 45, 92, 120, 102, 102, 93]⟩ : ByteArray)]) zka rfl (by decide) (bm (e_ (S (⟨#[97]⟩ : ByteArray))) (bm (e_ (S (⟨#[97, 91, 94, 92, 120, 48, 48, 45, 92, 120, 102, 102, 93]⟩ : ByteArray))) (bm0))) rfl rfl) ?_
 obtain ⟨x6, hx6, h0⟩ := bs h0
 refine Q3 (jc x6) (j0 (by kernel_rfl) (am (e_ (zhm ([(⟨#[97]⟩ : ByteArray), (⟨#[97, 91, 94, 92, 120, 48, 48, 45, 92, 120, 102, 102, 93]⟩ : ByteArray)] : List ByteArray))) (am0)) (js (zkb _) (j2)) (zdj hx6)) ?_
 obtain ⟨x7, hx7, h0⟩ := bs h0
 refine Q3 (jc x7) (j0 (by kernel_rfl) (am (e_ (jc x6)) (am0)) (js (qa _) (j2)) (zhl hx7)) ?_
 refine PL.allocA 203 (cs := (((arV (n := 256) U8) (arZ 256 0)).cells ++ [(I 0), (PV.u (.slice none 0 0)), (PV.u (.slice none 0 0))])) rfl rfl rfl (by decide) Y8 (by kernel_rfl) (by kernel_rfl) fun v203 H b203 fz8 => ?_
 refine PL.recell (cs' := (((arV (n := 256) U8) (arZ 256 0)).cells ++ [(I 0), (qk []), (slI [])])) b203 (WeakL.app (WeakL.refl _) (WeakL.cons (Weak.refl _) (WeakL.cons (Weak.nil _) (WeakL.cons (Weak.nil _) (WeakL.nil))))) fun H b203 fz9 => ?_
 refine PL.storeA (ag := true) (cs' := (((arV (n := 256) U8) x7.jp).cells ++ [(I x7.ji), (qk x7.je), (slI x7.jl)])) (ps := (((arV (n := 256) U8) x7.jp).cells ++ [(I x7.ji), (qk x7.je), (slI x7.jl)])) rfl rfl (fun _ h => by cases h) (e_ (PV.pp 203 0 v203)) b203 v7 (e_ (jc x7)) (qt _ _) rfl (qb (jj _ _ (fun _ => rfl)) rfl) (by rw [(qb (jj _ _ (fun _ => rfl)) rfl)]; exact Nat.le_of_ble_eq_true rfl) (vz (N := 256 + (3)) (qb (jj _ _ (fun _ => rfl)) rfl) (qb (jj _ _ (fun _ => rfl)) rfl)) fun H b203 fz10 => ?_
 refine PL.nil (hK5 _ _ ?_)
 refine A3 1 f1 2 f2 3 (e_ (PV.pp 203 0 v203)) fun F f1 f2 f3 => ?_
 refine SR fun K11 hK11 => ?_
 refine Q1 _ (jb f2) ?_
 refine Q1 _ (jb (e_ (B x4.2))) ?_
 refine GT (S x4.1) rfl (e_ (B x4.2)) (fun hb => jb f1) ?_
 refine GT (B (x4.1.toList == (⟨#[98, 99]⟩ : ByteArray).toList)) rfl (e_ (B x4.2)) (fun hb => jh rfl (gvp hb (e_ (gv x4.2 (S x4.1)))) (e_ (S (⟨#[98, 99]⟩ : ByteArray))) (zef _ _)) ?_
 refine Q1 (B (x4.2 && (x4.1.toList == (⟨#[98, 99]⟩ : ByteArray).toList))) (vt (e_ (B x4.2)) (e_ (gv x4.2 (B (x4.1.toList == (⟨#[98, 99]⟩ : ByteArray).toList)))) rfl) ?_
 refine Q1 _ (jb (e_ (B (x4.2 && (x4.1.toList == (⟨#[98, 99]⟩ : ByteArray).toList))))) ?_
 refine GT (PV.pp 203 257 v203) rfl (e_ (B (x4.2 && (x4.1.toList == (⟨#[98, 99]⟩ : ByteArray).toList)))) (fun hb => yu vx qi (by decide) f3 b203) ?_
 refine GT (qk x7.je) rfl (e_ (B (x4.2 && (x4.1.toList == (⟨#[98, 99]⟩ : ByteArray).toList)))) (fun hb => vm qi (gvp hb (e_ (gv (x4.2 && (x4.1.toList == (⟨#[98, 99]⟩ : ByteArray).toList)) (PV.pp 203 257 v203)))) b203 (zhq (m := 256) (i := 1) (jj _ _ (fun _ => rfl)) rfl)) ?_
 refine GT (I (x7.je.length : Int)) rfl (e_ (B (x4.2 && (x4.1.toList == (⟨#[98, 99]⟩ : ByteArray).toList)))) (fun hb => qg (rep := slI) (xs := x7.je) vp (gvp hb (e_ (gv (x4.2 && (x4.1.toList == (⟨#[98, 99]⟩ : ByteArray).toList)) (qk x7.je))))) ?_
 refine GT (B (decide ((x7.je.length : Int) = 2))) rfl (e_ (B (x4.2 && (x4.1.toList == (⟨#[98, 99]⟩ : ByteArray).toList)))) (fun hb => jh rfl (gvp hb (e_ (gv (x4.2 && (x4.1.toList == (⟨#[98, 99]⟩ : ByteArray).toList)) (I (x7.je.length : Int))))) (e_ (I 2)) j7) ?_
 refine Q1 (B ((x4.2 && (x4.1.toList == (⟨#[98, 99]⟩ : ByteArray).toList)) && (decide ((x7.je.length : Int) = 2)))) (vt (e_ (B (x4.2 && (x4.1.toList == (⟨#[98, 99]⟩ : ByteArray).toList)))) (e_ (gv (x4.2 && (x4.1.toList == (⟨#[98, 99]⟩ : ByteArray).toList)) (B (decide ((x7.je.length : Int) = 2))))) rfl) ?_
 refine Q1 _ (jb (e_ (B ((x4.2 && (x4.1.toList == (⟨#[98, 99]⟩ : ByteArray).toList)) && (decide ((x7.je.length : Int) = 2)))))) ?_
 refine GT (jc (⟨x7.jp, x7.ji, x7.je, x7.jl⟩ : jd)) rfl (e_ (B ((x4.2 && (x4.1.toList == (⟨#[98, 99]⟩ : ByteArray).toList)) && (decide ((x7.je.length : Int) = 2))))) (fun hb => vm v7 f3 b203 (yo (qe (⟨x7.jp, x7.ji, x7.je, x7.jl⟩ : jd)))) ?_
 obtain ⟨x12, hx12, h0⟩ := bs h0
 refine GTq (slI x12) rfl (e_ (B ((x4.2 && (x4.1.toList == (⟨#[98, 99]⟩ : ByteArray).toList)) && (decide ((x7.je.length : Int) = 2))))) (fun hb => j0 (by kernel_rfl) (am (gvp hb (e_ (gv ((x4.2 && (x4.1.toList == (⟨#[98, 99]⟩ : ByteArray).toList)) && (decide ((x7.je.length : Int) = 2))) (jc (⟨x7.jp, x7.ji, x7.je, x7.jl⟩ : jd))))) (am0)) (js (qa _) (j2)) (zfm (G.cond_pos hx12 hb))) ?_
 refine GTq (slI ([0] : List Int)) rfl (e_ (B ((x4.2 && (x4.1.toList == (⟨#[98, 99]⟩ : ByteArray).toList)) && (decide ((x7.je.length : Int) = 2))))) (fun hb => yx (rep := I) (xs := [0]) qj rfl (by decide) (bm (e_ (I 0)) (bm0)) rfl rfl) ?_
 obtain ⟨x13, hx13, h0⟩ := bs h0
 refine GTq (B x13) rfl (e_ (B ((x4.2 && (x4.1.toList == (⟨#[98, 99]⟩ : ByteArray).toList)) && (decide ((x7.je.length : Int) = 2))))) (fun hb => j0 (by kernel_rfl) (am (gvp hb (e_ (gv ((x4.2 && (x4.1.toList == (⟨#[98, 99]⟩ : ByteArray).toList)) && (decide ((x7.je.length : Int) = 2))) (slI x12)))) (am (gvp hb (e_ (gv ((x4.2 && (x4.1.toList == (⟨#[98, 99]⟩ : ByteArray).toList)) && (decide ((x7.je.length : Int) = 2))) (slI ([0] : List Int))))) (am0))) (js (ye _) (js (ye _) (j2))) (zby (G.cond_pos hx13 hb))) ?_
 refine Q1 (B (((x4.2 && (x4.1.toList == (⟨#[98, 99]⟩ : ByteArray).toList)) && (decide ((x7.je.length : Int) = 2))) && x13)) (vt (e_ (B ((x4.2 && (x4.1.toList == (⟨#[98, 99]⟩ : ByteArray).toList)) && (decide ((x7.je.length : Int) = 2))))) (e_ (gv ((x4.2 && (x4.1.toList == (⟨#[98, 99]⟩ : ByteArray).toList)) && (decide ((x7.je.length : Int) = 2))) (B x13))) rfl) ?_
 refine Q1 _ (jf (e_ (B (((x4.2 && (x4.1.toList == (⟨#[98, 99]⟩ : ByteArray).toList)) && (decide ((x7.je.length : Int) = 2))) && x13)))) ?_
 refine PL.nil (hK11 _ _ ?_)
 refine A1 0 (e_ (B (((x4.2 && (x4.1.toList == (⟨#[98, 99]⟩ : ByteArray).toList)) && (decide ((x7.je.length : Int) = 2))) && x13))) fun F f0 => ?_
 refine PC.ret ?_
 have h0 := pz h0
 subst h0
 exact fin (.inr rfl) (j9 Try.results6 f0) (.u _)
def Qo (a0 : (Arr 256 Int)) : G Bool :=
  G.bind (G.loop (σ := (Int × Int)) (α := Unit ⊕ Bool) (fun (x7, x8) => G.cond (decide (x8 < 256)) (G.bind (α := Int ⊕ Bool) (G.bind (G.lift (idx a0.1 x8)) fun x22 => G.cond (decide (x7 < (w64 x22))) (G.pure (.inr false)) (G.bind (G.lift (idx a0.1 x8)) fun x26 => G.cond (decide ((w64 x26) = x7)) (G.pure (.inl (w64 (x7 + 1)))) (G.pure (.inl x7)))) fun o => match o with | .inl x19 => G.pure (.inl (x19, (w64 (x8 + 1)))) | .inr r28 => G.pure (.inr (.inr r28))) (G.pure (.inr (.inl ())))) (0, 0)) fun o => match o with | .inl () => G.pure true | .inr r32 => G.pure r32
theorem ze8 {nn : Nat} {a0 : (Arr 256 Int)} {r : Bool} (h0 : Qo a0 nn = some r) : PCall Try.prog 19 [(arV (n := 256) U8) a0] (· = B r) := by
 unfold Qo at h0
 refine PCall.intro' Try.func19 rfl Try.ntmps19 (by simp) fun W => ?_
 refine A1 0 (e_ ((arV (n := 256) U8) a0)) fun F f0 => ?_
 generalize PHeap.empty = H
 refine SR fun K1 hK1 => ?_
 refine Q3 (PV.rp ((arV (n := 256) U8) a0).cells) (zk f0 (v8 _ _ _ (fun _ => rfl))) ?_
 refine Q1 _ (jf (e_ (B false))) ?_
 refine PL.nil (hK1 _ _ ?_)
 refine A1 1 (e_ (PV.rp ((arV (n := 256) U8) a0).cells)) fun F f1 => ?_
 refine SR fun K2 hK2 => ?_
 refine Q1 _ (jf (e_ (I 0))) ?_
 refine PL.nil (hK2 _ _ ?_)
 refine A2 1 f1 3 (e_ (I 0)) fun F f1 f3 => ?_
 refine PC.seq fun K3 hK3 => ?_
 refine SR fun K4 hK4 => ?_
 refine Q1 _ (jf (e_ (I 0))) ?_
 refine PL.nil (hK4 _ _ ?_)
 refine A3 1 f1 3 f3 4 (e_ (I 0)) fun F f1 f3 f4 => ?_
 refine PC.block ?_
 obtain ⟨o9, ho9, h0⟩ := bs h0
 obtain ⟨B10, hB10, ho9⟩ := G.loop_some ho9
 refine PC.loop (fun m13 F H => ∃ s33 : (Int × Int), qw B10 m13 s33 = some o9 ∧ F 1 = (PV.rp ((arV (n := 256) U8) a0).cells) ∧ F 3 = (I s33.1) ∧ F 4 = (I s33.2)) (m := nn) ⟨(0, 0), ho9, f1, f3, f4⟩ fun m13 F H hI => ?_
 obtain ⟨⟨x7, x8⟩, ho9, f1, f3, f4⟩ := hI
 obtain ⟨m13, rfl, st11, hs12, ho9⟩ := jw ho9
 rw [hB10] at hs12
 try dsimp only at hs12
 refine PC.seq fun K14 hK14 => ?_
 refine SR fun K15 hK15 => ?_
 refine Q1 _ (jb f4) ?_
 refine Q1 _ (jh rfl (e_ (I x8)) (e_ (I 256)) jv) ?_
 refine PL.nil (hK15 _ _ ?_)
 refine A4 1 f1 3 f3 4 f4 6 (e_ (B (decide (x8 < 256)))) fun F f1 f3 f4 f6 => ?_
 rcases cz hs12 with ⟨hb16, hs12⟩ | ⟨hb16, hs12⟩
 refine PC.condTb f6 hb16 ?_
 refine PC.skip ?_
 refine hK14 _ _ ?_
 refine A3 1 f1 3 f3 4 f4 fun F f1 f3 f4 => ?_
 obtain ⟨o18, ho18, hs12⟩ := bs hs12
 refine PC.seqM (fun F H => ∃ s29 : Int, o18 = .inl s29 ∧ F 1 = (PV.rp ((arV (n := 256) U8) a0).cells) ∧ F 3 = (I s29) ∧ F 4 = (I x8)) ?_ ?_
 refine PC.block ?_
 refine PC.seq fun K20 hK20 => ?_
 refine SR fun K21 hK21 => ?_
 refine Q1 _ (jb f4) ?_
 obtain ⟨x22, hx22, ho18⟩ := bs ho18
 refine Q1 (PV.rp (((arV (n := 256) U8) a0).cells.drop ((x8 : Int).toNat * 1))) (zcg (rep := U8) (a := a0) Yf f1 (e_ (I x8)) hx22) ?_
 refine Q1 (U8 x22) (jx Zm (e_ (PV.rp (((arV (n := 256) U8) a0).cells.drop ((x8 : Int).toNat * 1)))) (zb0 hx22)) ?_
 refine Q1 (I (w64 x22)) (Jc (by kernel_rfl) (by kernel_rfl) (e_ (U8 x22))) ?_
 refine Q1 _ (jb f3) ?_
 refine Q1 _ (jh rfl (e_ (I (w64 x22))) (e_ (I x7)) J4) ?_
 refine PL.nil (hK21 _ _ ?_)
 refine A4 1 f1 3 f3 4 f4 14 (e_ (B (decide (x7 < (w64 x22))))) fun F f1 f3 f4 f14 => ?_
 rcases cz ho18 with ⟨hb23, ho18⟩ | ⟨hb23, ho18⟩
 refine PC.condTb f14 hb23 ?_
 refine SR fun K24 hK24 => ?_
 refine Q1 _ (jf (e_ (B false))) ?_
 refine PL.nil (hK24 _ _ ?_)
 refine A1 2 (e_ (B false)) fun F f2 => ?_
 have ho18 := pz ho18
 subst ho18
 try dsimp only at hs12
 have hs12 := pz hs12
 subst hs12
 try dsimp only at ho9
 subst ho9
 try dsimp only at h0
 refine PC.ret ?_
 have h0 := pz h0
 subst h0
 exact fin (.inr rfl) (j9 Try.results19 f2) (.u _)
 refine PC.condFb f14 hb23 ?_
 refine PC.skip ?_
 refine hK20 _ _ ?_
 refine A3 1 f1 3 f3 4 f4 fun F f1 f3 f4 => ?_
 refine SR fun K25 hK25 => ?_
 refine Q1 _ (jb f4) ?_
 obtain ⟨x26, hx26, ho18⟩ := bs ho18
 refine Q1 (PV.rp (((arV (n := 256) U8) a0).cells.drop ((x8 : Int).toNat * 1))) (zcg (rep := U8) (a := a0) Yf f1 (e_ (I x8)) hx26) ?_
 refine Q1 (U8 x26) (jx Zm (e_ (PV.rp (((arV (n := 256) U8) a0).cells.drop ((x8 : Int).toNat * 1)))) (zb0 hx26)) ?_
 refine Q1 (I (w64 x26)) (Jc (by kernel_rfl) (by kernel_rfl) (e_ (U8 x26))) ?_
 refine Q1 _ (jb f3) ?_
 refine Q1 _ (jh rfl (e_ (I (w64 x26))) (e_ (I x7)) j7) ?_
 refine PL.nil (hK25 _ _ ?_)
 refine A4 1 f1 3 f3 4 f4 20 (e_ (B (decide ((w64 x26) = x7)))) fun F f1 f3 f4 f20 => ?_
 rcases cz ho18 with ⟨hb27, ho18⟩ | ⟨hb27, ho18⟩
 refine PC.condTb f20 hb27 ?_
 refine PC.region ?_
 refine Q1 _ (jb f3) ?_
 refine Q1 _ (jh rfl (e_ (I x7)) (e_ (I 1)) j3) ?_
 refine Q1 _ (jf (e_ (I (w64 (x7 + 1))))) ?_
 refine PL.nil ?_
 have ho18 := pz ho18
 subst ho18
 exact ⟨(w64 (x7 + 1)), rfl, f1, (e_ (I (w64 (x7 + 1)))), f4⟩
 refine PC.condFb f20 hb27 ?_
 refine PC.skip ?_
 have ho18 := pz ho18
 subst ho18
 exact ⟨x7, rfl, f1, f3, f4⟩
 intro F H hI
 obtain ⟨x19, ho, f1, f3, f4⟩ := hI
 have ho := ho.symm
 subst ho
 try dsimp only at hs12
 refine PC.region ?_
 refine Q1 _ (jb f4) ?_
 refine Q1 _ (jh rfl (e_ (I x8)) (e_ (I 1)) j3) ?_
 refine Q1 _ (jf (e_ (I (w64 (x8 + 1))))) ?_
 refine PL.nil ?_
 have hs12 := pz hs12
 subst hs12
 exact ⟨m13, Nat.lt_succ_self _, (x19, (w64 (x8 + 1))), ho9, f1, f3, (e_ (I (w64 (x8 + 1))))⟩
 refine PC.condFb f6 hb16 ?_
 refine PC.exit ?_
 have hs12 := pz hs12
 subst hs12
 try dsimp only at ho9
 subst ho9
 try dsimp only at h0
 refine hK3 _ _ ?_
 refine PC.absF (fun F => True) trivial ?_
 intro F hI
 clear hI
 refine SR fun K30 hK30 => ?_
 refine Q1 _ (jf (e_ (B true))) ?_
 refine PL.nil (hK30 _ _ ?_)
 refine A1 2 (e_ (B true)) fun F f2 => ?_
 refine PC.ret ?_
 have h0 := pz h0
 subst h0
 exact fin (.inr rfl) (j9 Try.results19 f2) (.u _)
def Jp (a0 : (Arr 256 Int)) : G Int :=
  G.bind (G.loop (σ := (Int × Int)) (α := Int) (fun (x7, x8) => G.cond (decide (x8 < 256)) (G.bind (G.lift (idx a0.1 x8)) fun x18 => G.pure (.inl ((max x7 (w64 ((w64 x18) + 1))), (w64 (x8 + 1))))) (G.pure (.inr x7))) (0, 0)) fun x20 => G.pure x20
theorem zfn {nn : Nat} {a0 : (Arr 256 Int)} {r : Int} (h0 : Jp a0 nn = some r) : PCall Try.prog 20 [(arV (n := 256) U8) a0] (· = I r) := by
 unfold Jp at h0
 refine PCall.intro' Try.func20 rfl Try.ntmps20 (by simp) fun W => ?_
 refine A1 0 (e_ ((arV (n := 256) U8) a0)) fun F f0 => ?_
 generalize PHeap.empty = H
 refine SR fun K1 hK1 => ?_
 refine Q3 (PV.rp ((arV (n := 256) U8) a0).cells) (zk f0 (v8 _ _ _ (fun _ => rfl))) ?_
 refine Q1 _ (jf (e_ (I 0))) ?_
 refine PL.nil (hK1 _ _ ?_)
 refine A1 1 (e_ (PV.rp ((arV (n := 256) U8) a0).cells)) fun F f1 => ?_
 refine SR fun K2 hK2 => ?_
 refine Q1 _ (jf (e_ (I 0))) ?_
 refine PL.nil (hK2 _ _ ?_)
 refine A2 1 f1 3 (e_ (I 0)) fun F f1 f3 => ?_
 refine PC.seq fun K3 hK3 => ?_
 refine SR fun K4 hK4 => ?_
 refine Q1 _ (jf (e_ (I 0))) ?_
 refine PL.nil (hK4 _ _ ?_)
 refine A3 1 f1 3 f3 4 (e_ (I 0)) fun F f1 f3 f4 => ?_
 refine PC.block ?_
 obtain ⟨o9, ho9, h0⟩ := bs h0
 obtain ⟨B10, hB10, ho9⟩ := G.loop_some ho9
 refine PC.loop (fun m13 F H => ∃ s22 : (Int × Int), qw B10 m13 s22 = some o9 ∧ F 1 = (PV.rp ((arV (n := 256) U8) a0).cells) ∧ F 3 = (I s22.1) ∧ F 4 = (I s22.2)) (m := nn) ⟨(0, 0), ho9, f1, f3, f4⟩ fun m13 F H hI => ?_
 obtain ⟨⟨x7, x8⟩, ho9, f1, f3, f4⟩ := hI
 obtain ⟨m13, rfl, st11, hs12, ho9⟩ := jw ho9
 rw [hB10] at hs12
 try dsimp only at hs12
 refine PC.seq fun K14 hK14 => ?_
 refine SR fun K15 hK15 => ?_
 refine Q1 _ (jb f4) ?_
 refine Q1 _ (jh rfl (e_ (I x8)) (e_ (I 256)) jv) ?_
 refine PL.nil (hK15 _ _ ?_)
 refine A4 1 f1 3 f3 4 f4 6 (e_ (B (decide (x8 < 256)))) fun F f1 f3 f4 f6 => ?_
 rcases cz hs12 with ⟨hb16, hs12⟩ | ⟨hb16, hs12⟩
 refine PC.condTb f6 hb16 ?_
 refine PC.skip ?_
 refine hK14 _ _ ?_
 refine A3 1 f1 3 f3 4 f4 fun F f1 f3 f4 => ?_
 refine PC.seq fun K17 hK17 => ?_
 refine PC.block ?_
 refine PC.region ?_
 refine Q1 _ (jb f3) ?_
 refine Q1 _ (jb f4) ?_
 obtain ⟨x18, hx18, hs12⟩ := bs hs12
 refine Q1 (PV.rp (((arV (n := 256) U8) a0).cells.drop ((x8 : Int).toNat * 1))) (zcg (rep := U8) (a := a0) Yf f1 (e_ (I x8)) hx18) ?_
 refine Q1 (U8 x18) (jx Zm (e_ (PV.rp (((arV (n := 256) U8) a0).cells.drop ((x8 : Int).toNat * 1)))) (zb0 hx18)) ?_
 refine Q1 (I (w64 x18)) (Jc (by kernel_rfl) (by kernel_rfl) (e_ (U8 x18))) ?_
 refine Q1 _ (jh rfl (e_ (I (w64 x18))) (e_ (I 1)) j3) ?_
 refine Q1 (I (max x7 (w64 ((w64 x18) + 1)))) (zm2 (e_ (I x7)) (e_ (I (w64 ((w64 x18) + 1))))) ?_
 refine Q1 _ (jf (e_ (I (max x7 (w64 ((w64 x18) + 1)))))) ?_
 refine PL.nil (hK17 _ _ ?_)
 refine A3 1 f1 3 (e_ (I (max x7 (w64 ((w64 x18) + 1))))) 4 f4 fun F f1 f3 f4 => ?_
 refine PC.region ?_
 refine Q1 _ (jb f4) ?_
 refine Q1 _ (jh rfl (e_ (I x8)) (e_ (I 1)) j3) ?_
 refine Q1 _ (jf (e_ (I (w64 (x8 + 1))))) ?_
 refine PL.nil ?_
 have hs12 := pz hs12
 subst hs12
 exact ⟨m13, Nat.lt_succ_self _, ((max x7 (w64 ((w64 x18) + 1))), (w64 (x8 + 1))), ho9, f1, f3, (e_ (I (w64 (x8 + 1))))⟩
 refine PC.condFb f6 hb16 ?_
 refine PC.exit ?_
 have hs12 := pz hs12
 subst hs12
 try dsimp only at ho9
 subst ho9
 try dsimp only at h0
 refine hK3 _ _ ?_
 refine A1 3 f3 fun F f3 => ?_
 refine SR fun K19 hK19 => ?_
 refine Q1 _ (jb f3) ?_
 refine Q1 _ (jf (e_ (I x7))) ?_
 refine PL.nil (hK19 _ _ ?_)
 refine A1 2 (e_ (I x7)) fun F f2 => ?_
 refine PC.ret ?_
 have h0 := pz h0
 subst h0
 exact fin (.inr rfl) (j9 Try.results20 f2) (.u _)
def z2 (a0 : jd) : G Bool :=
  G.bind (Qo a0.jp) fun x4 => G.bind (G.cond (!(!x4)) (Jp a0.jp) (G.pure 0)) fun x5 => G.cond ((((!x4) || (decide (¬ a0.ji = x5))) || (decide ((a0.je.length : Int) = 0))) || (decide (¬ (a0.jl.length : Int) = (a0.je.length : Int)))) (G.pure false) (G.bind (G.loop (σ := Int) (α := Unit ⊕ Bool) (fun x11 => G.cond (decide (x11 < (a0.je.length : Int))) (G.bind (G.lift (idx a0.je x11)) fun x23 => G.bind (G.cond (!(decide (¬ (x23.length : Int) = a0.ji))) (G.lift (idx a0.jl x11)) (G.pure 0)) fun x24 => G.cond ((decide (¬ (x23.length : Int) = a0.ji)) || (decide (x24 < (-1)))) (G.pure (.inr (.inr false))) (G.bind (G.loop (σ := Int) (α := Unit ⊕ Bool) (fun x29 => G.cond (decide (x29 < a0.ji)) (G.bind (G.lift (idx a0.je x11)) fun x40 => G.bind (G.lift (idx x40 x29)) fun x41 => G.bind (G.cond (!(decide (x41 < (-1)))) (G.lift (idx a0.je x11)) (G.pure [])) fun x42 => G.bind (G.cond (!(decide (x41 < (-1)))) (G.lift (idx x42 x29)) (G.pure 0)) fun x43 => G.cond ((decide (x41 < (-1))) || (decide ((a0.je.length : Int) ≤ x43))) (G.pure (.inr (.inr false))) (G.pure (.inl (w64 (x29 + 1))))) (G.pure (.inr (.inl ())))) 0) fun o => match o with | .inl () => G.pure (.inl (w64 (x11 + 1))) | .inr r46 => G.pure (.inr (.inr r46)))) (G.pure (.inr (.inl ())))) 0) fun o => match o with | .inl () => G.pure true | .inr r50 => G.pure r50)
theorem za8 {nn : Nat} {a0 : jd} {r : Bool} (h0 : z2 a0 nn = some r) : PCall Try.prog 8 [jc a0] (· = B r) := by
 unfold z2 at h0
 refine PCall.intro' Try.func8 rfl Try.ntmps8 (by simp) fun W => ?_
 refine A1 0 (e_ (jc a0)) fun F f0 => ?_
 generalize PHeap.empty = H
 refine SR fun K1 hK1 => ?_
 refine Q3 (PV.rp (jc a0).cells) (zk f0 (qt _ _)) ?_
 refine Q1 _ (jf (e_ (B false))) ?_
 refine PL.nil (hK1 _ _ ?_)
 refine A1 1 (e_ (PV.rp (jc a0).cells)) fun F f1 => ?_
 refine PC.seq fun K2 hK2 => ?_
 refine PC.seq fun K3 hK3 => ?_
 refine PC.regionQ mixed (by kernel_rfl) ?_
 refine Q2 (PV.rp ((jc a0).cells.drop 0)) (j8 Q7 y5 (by decide) f1) ?_
 refine Q2 ((arV (n := 256) U8) a0.jp) (jx y5 (e_ (PV.rp ((jc a0).cells.drop 0))) (yy a0)) ?_
 obtain ⟨x4, hx4, h0⟩ := bs h0
 refine Q4 (B x4) (j0 (by kernel_rfl) (am (e_ ((arV (n := 256) U8) a0.jp)) (am0)) (js (vc _ (fun _ => (.u _))) (j2)) (ze8 hx4)) ?_
 refine Q2 (B (!x4)) (yn (e_ (B x4))) ?_
 refine Q2 _ (jb (e_ (B (!x4)))) ?_
 refine HF_ (PV.rp ((jc a0).cells.drop 256)) rfl (e_ (B (!x4))) (fun hb => j8 Qk qz (by decide) f1) ?_
 refine HF_ (I a0.ji) rfl (e_ (B (!x4))) (fun hb => jx qz (gvp hb (e_ (gv (!(!x4)) (PV.rp ((jc a0).cells.drop 256))))) (zi a0)) ?_
 refine HF_ (PV.rp ((jc a0).cells.drop 0)) rfl (e_ (B (!x4))) (fun hb => j8 Q7 y5 (by decide) f1) ?_
 refine HF_ ((arV (n := 256) U8) a0.jp) rfl (e_ (B (!x4))) (fun hb => jx y5 (gvp hb (e_ (gv (!(!x4)) (PV.rp ((jc a0).cells.drop 0))))) (yy a0)) ?_
 obtain ⟨x5, hx5, h0⟩ := bs h0
 refine HFq (I x5) rfl (e_ (B (!x4))) (fun hb => j0 (by kernel_rfl) (am (gvp hb (e_ (gv (!(!x4)) ((arV (n := 256) U8) a0.jp)))) (am0)) (js (vc _ (fun _ => (.u _))) (j2)) (zfn (G.cond_pos hx5 hb))) ?_
 refine HF_ (B (decide (¬ a0.ji = x5))) rfl (e_ (B (!x4))) (fun hb => jh rfl (gvp hb (e_ (gv (!(!x4)) (I a0.ji)))) (gvp hb (e_ (gv (!(!x4)) (I x5)))) yc) ?_
 refine Q2 (B ((!x4) || (decide (¬ a0.ji = x5)))) (yf (e_ (B (!x4))) rfl (e_ (gv (!(!x4)) (B (decide (¬ a0.ji = x5)))))) ?_
 refine Q2 _ (jb (e_ (B ((!x4) || (decide (¬ a0.ji = x5)))))) ?_
 refine HF_ (PV.rp ((jc a0).cells.drop 257)) rfl (e_ (B ((!x4) || (decide (¬ a0.ji = x5))))) (fun hb => j8 vx qi (by decide) f1) ?_
 refine HF_ (qk a0.je) rfl (e_ (B ((!x4) || (decide (¬ a0.ji = x5))))) (fun hb => jx qi (gvp hb (e_ (gv (!((!x4) || (decide (¬ a0.ji = x5)))) (PV.rp ((jc a0).cells.drop 257))))) (qm a0)) ?_
 refine HF_ (I (a0.je.length : Int)) rfl (e_ (B ((!x4) || (decide (¬ a0.ji = x5))))) (fun hb => qg (rep := slI) (xs := a0.je) vp (gvp hb (e_ (gv (!((!x4) || (decide (¬ a0.ji = x5)))) (qk a0.je))))) ?_
 refine HF_ (B (decide ((a0.je.length : Int) = 0))) rfl (e_ (B ((!x4) || (decide (¬ a0.ji = x5))))) (fun hb => jh rfl (gvp hb (e_ (gv (!((!x4) || (decide (¬ a0.ji = x5)))) (I (a0.je.length : Int))))) (e_ (I 0)) j7) ?_
 refine Q2 (B (((!x4) || (decide (¬ a0.ji = x5))) || (decide ((a0.je.length : Int) = 0)))) (yf (e_ (B ((!x4) || (decide (¬ a0.ji = x5))))) rfl (e_ (gv (!((!x4) || (decide (¬ a0.ji = x5)))) (B (decide ((a0.je.length : Int) = 0)))))) ?_
 refine Q2 _ (jb (e_ (B (((!x4) || (decide (¬ a0.ji = x5))) || (decide ((a0.je.length : Int) = 0)))))) ?_
 refine HF_ (PV.rp ((jc a0).cells.drop 258)) rfl (e_ (B (((!x4) || (decide (¬ a0.ji = x5))) || (decide ((a0.je.length : Int) = 0))))) (fun hb => j8 ze qh (by decide) f1) ?_
 refine HF_ (slI a0.jl) rfl (e_ (B (((!x4) || (decide (¬ a0.ji = x5))) || (decide ((a0.je.length : Int) = 0))))) (fun hb => jx qh (gvp hb (e_ (gv (!(((!x4) || (decide (¬ a0.ji = x5))) || (decide ((a0.je.length : Int) = 0)))) (PV.rp ((jc a0).cells.drop 258))))) (yg a0)) ?_
 refine HF_ (I (a0.jl.length : Int)) rfl (e_ (B (((!x4) || (decide (¬ a0.ji = x5))) || (decide ((a0.je.length : Int) = 0))))) (fun hb => qg (rep := I) (xs := a0.jl) ql (gvp hb (e_ (gv (!(((!x4) || (decide (¬ a0.ji = x5))) || (decide ((a0.je.length : Int) = 0)))) (slI a0.jl))))) ?_
 refine HF_ (PV.rp ((jc a0).cells.drop 257)) rfl (e_ (B (((!x4) || (decide (¬ a0.ji = x5))) || (decide ((a0.je.length : Int) = 0))))) (fun hb => j8 vx qi (by decide) f1) ?_
 refine HF_ (qk a0.je) rfl (e_ (B (((!x4) || (decide (¬ a0.ji = x5))) || (decide ((a0.je.length : Int) = 0))))) (fun hb => jx qi (gvp hb (e_ (gv (!(((!x4) || (decide (¬ a0.ji = x5))) || (decide ((a0.je.length : Int) = 0)))) (PV.rp ((jc a0).cells.drop 257))))) (qm a0)) ?_
 refine HF_ (I (a0.je.length : Int)) rfl (e_ (B (((!x4) || (decide (¬ a0.ji = x5))) || (decide ((a0.je.length : Int) = 0))))) (fun hb => qg (rep := slI) (xs := a0.je) vp (gvp hb (e_ (gv (!(((!x4) || (decide (¬ a0.ji = x5))) || (decide ((a0.je.length : Int) = 0)))) (qk a0.je))))) ?_
 refine HF_ (B (decide (¬ (a0.jl.length : Int) = (a0.je.length : Int)))) rfl (e_ (B (((!x4) || (decide (¬ a0.ji = x5))) || (decide ((a0.je.length : Int) = 0))))) (fun hb => jh rfl (gvp hb (e_ (gv (!(((!x4) || (decide (¬ a0.ji = x5))) || (decide ((a0.je.length : Int) = 0)))) (I (a0.jl.length : Int))))) (gvp hb (e_ (gv (!(((!x4) || (decide (¬ a0.ji = x5))) || (decide ((a0.je.length : Int) = 0)))) (I (a0.je.length : Int))))) yc) ?_
 refine Q2 (B ((((!x4) || (decide (¬ a0.ji = x5))) || (decide ((a0.je.length : Int) = 0))) || (decide (¬ (a0.jl.length : Int) = (a0.je.length : Int))))) (yf (e_ (B (((!x4) || (decide (¬ a0.ji = x5))) || (decide ((a0.je.length : Int) = 0))))) rfl (e_ (gv (!(((!x4) || (decide (¬ a0.ji = x5))) || (decide ((a0.je.length : Int) = 0)))) (B (decide (¬ (a0.jl.length : Int) = (a0.je.length : Int))))))) ?_
 refine QF.nil ?_
 refine hK3 _ _ ?_
 refine A2 1 f1 31 (e_ (B ((((!x4) || (decide (¬ a0.ji = x5))) || (decide ((a0.je.length : Int) = 0))) || (decide (¬ (a0.jl.length : Int) = (a0.je.length : Int)))))) fun F f1 f31 => ?_
 rcases cz h0 with ⟨hb6, h0⟩ | ⟨hb6, h0⟩
 refine PC.condTb f31 hb6 ?_
 refine SR fun K7 hK7 => ?_
 refine Q1 _ (jf (e_ (B false))) ?_
 refine PL.nil (hK7 _ _ ?_)
 refine A1 2 (e_ (B false)) fun F f2 => ?_
 refine PC.ret ?_
 have h0 := pz h0
 subst h0
 exact fin (.inr rfl) (j9 Try.results8 f2) (.u _)
 refine PC.condFb f31 hb6 ?_
 refine PC.skip ?_
 refine hK2 _ _ ?_
 refine A1 1 f1 fun F f1 => ?_
 refine PC.seq fun K8 hK8 => ?_
 refine SR fun K9 hK9 => ?_
 refine Q1 _ (jf (e_ (I 0))) ?_
 refine PL.nil (hK9 _ _ ?_)
 refine A2 1 f1 3 (e_ (I 0)) fun F f1 f3 => ?_
 refine PC.block ?_
 obtain ⟨o12, ho12, h0⟩ := bs h0
 obtain ⟨B13, hB13, ho12⟩ := G.loop_some ho12
 refine PC.loop (fun m16 F H => ∃ s51 : Int, qw B13 m16 s51 = some o12 ∧ F 1 = (PV.rp (jc a0).cells) ∧ F 3 = (I s51)) (m := nn) ⟨0, ho12, f1, f3⟩ fun m16 F H hI => ?_
 obtain ⟨x11, ho12, f1, f3⟩ := hI
 obtain ⟨m16, rfl, st14, hs15, ho12⟩ := jw ho12
 rw [hB13] at hs15
 try dsimp only at hs15
 refine PC.seq fun K17 hK17 => ?_
 refine SR fun K18 hK18 => ?_
 refine Q1 _ (jb f3) ?_
 refine Q1 (PV.rp ((jc a0).cells.drop 257)) (j8 vx qi (by decide) f1) ?_
 refine Q1 (qk a0.je) (jx qi (e_ (PV.rp ((jc a0).cells.drop 257))) (qm a0)) ?_
 refine Q1 (I (a0.je.length : Int)) (qg (rep := slI) (xs := a0.je) vp (e_ (qk a0.je))) ?_
 refine Q1 _ (jh rfl (e_ (I x11)) (e_ (I (a0.je.length : Int))) jv) ?_
 refine PL.nil (hK18 _ _ ?_)
 refine A3 1 f1 3 f3 36 (e_ (B (decide (x11 < (a0.je.length : Int))))) fun F f1 f3 f36 => ?_
 rcases cz hs15 with ⟨hb19, hs15⟩ | ⟨hb19, hs15⟩
 refine PC.condTb f36 hb19 ?_
 refine PC.skip ?_
 refine hK17 _ _ ?_
 refine A2 1 f1 3 f3 fun F f1 f3 => ?_
 refine PC.seq fun K20 hK20 => ?_
 refine PC.block ?_
 refine PC.seq fun K21 hK21 => ?_
 refine PC.seq fun K22 hK22 => ?_
 refine PC.regionQ mixed (by kernel_rfl) ?_
 refine Q2 (PV.rp ((jc a0).cells.drop 257)) (j8 vx qi (by decide) f1) ?_
 refine Q2 (qk a0.je) (jx qi (e_ (PV.rp ((jc a0).cells.drop 257))) (qm a0)) ?_
 refine Q2 _ (jb f3) ?_
 obtain ⟨x23, hx23, hs15⟩ := bs hs15
 refine Q2 (PV.rp (slI x23).cells) (j1 (rep := slI) (xs := a0.je) Jz (e_ (qk a0.je)) (e_ (I x11)) hx23) ?_
 refine Q2 (slI x23) (qr qh (e_ (PV.rp (slI x23).cells))) ?_
 refine Q2 (I (x23.length : Int)) (qg (rep := I) (xs := x23) ql (e_ (slI x23))) ?_
 refine Q2 (PV.rp ((jc a0).cells.drop 256)) (j8 Qk qz (by decide) f1) ?_
 refine Q2 (I a0.ji) (jx qz (e_ (PV.rp ((jc a0).cells.drop 256))) (zi a0)) ?_
 refine Q2 _ (jh rfl (e_ (I (x23.length : Int))) (e_ (I a0.ji)) yc) ?_
 refine Q2 _ (jb (e_ (B (decide (¬ (x23.length : Int) = a0.ji))))) ?_
 refine HF_ (PV.rp ((jc a0).cells.drop 258)) rfl (e_ (B (decide (¬ (x23.length : Int) = a0.ji)))) (fun hb => j8 ze qh (by decide) f1) ?_
 refine HF_ (slI a0.jl) rfl (e_ (B (decide (¬ (x23.length : Int) = a0.ji)))) (fun hb => jx qh (gvp hb (e_ (gv (!(decide (¬ (x23.length : Int) = a0.ji))) (PV.rp ((jc a0).cells.drop 258))))) (yg a0)) ?_
 refine HF_ (I x11) rfl (e_ (B (decide (¬ (x23.length : Int) = a0.ji)))) (fun hb => jb f3) ?_
 obtain ⟨x24, hx24, hs15⟩ := bs hs15
 refine HF_ (PV.rp (I x24).cells) rfl (e_ (B (decide (¬ (x23.length : Int) = a0.ji)))) (fun hb => j1 (rep := I) (xs := a0.jl) vk (gvp hb (e_ (gv (!(decide (¬ (x23.length : Int) = a0.ji))) (slI a0.jl)))) (gvp hb (e_ (gv (!(decide (¬ (x23.length : Int) = a0.ji))) (I x11)))) (G.cond_pos hx24 hb)) ?_
 refine HF_ (I x24) rfl (e_ (B (decide (¬ (x23.length : Int) = a0.ji)))) (fun hb => qr qz (gvp hb (e_ (gv (!(decide (¬ (x23.length : Int) = a0.ji))) (PV.rp (I x24).cells))))) ?_
 refine HF_ (B (decide (x24 < (-1)))) rfl (e_ (B (decide (¬ (x23.length : Int) = a0.ji)))) (fun hb => jh rfl (gvp hb (e_ (gv (!(decide (¬ (x23.length : Int) = a0.ji))) (I x24)))) (e_ (I (-1))) jv) ?_
 refine Q2 (B ((decide (¬ (x23.length : Int) = a0.ji)) || (decide (x24 < (-1))))) (yf (e_ (B (decide (¬ (x23.length : Int) = a0.ji)))) rfl (e_ (gv (!(decide (¬ (x23.length : Int) = a0.ji))) (B (decide (x24 < (-1))))))) ?_
 refine QF.nil ?_
 refine hK22 _ _ ?_
 refine A3 1 f1 3 f3 55 (e_ (B ((decide (¬ (x23.length : Int) = a0.ji)) || (decide (x24 < (-1)))))) fun F f1 f3 f55 => ?_
 rcases cz hs15 with ⟨hb25, hs15⟩ | ⟨hb25, hs15⟩
 refine PC.condTb f55 hb25 ?_
 refine SR fun K26 hK26 => ?_
 refine Q1 _ (jf (e_ (B false))) ?_
 refine PL.nil (hK26 _ _ ?_)
 refine A1 2 (e_ (B false)) fun F f2 => ?_
 have hs15 := pz hs15
 subst hs15
 try dsimp only at ho12
 subst ho12
 try dsimp only at h0
 refine PC.ret ?_
 have h0 := pz h0
 subst h0
 exact fin (.inr rfl) (j9 Try.results8 f2) (.u _)
 refine PC.condFb f55 hb25 ?_
 refine PC.skip ?_
 refine hK21 _ _ ?_
 refine A2 1 f1 3 f3 fun F f1 f3 => ?_
 refine SR fun K27 hK27 => ?_
 refine Q1 _ (jf (e_ (I 0))) ?_
 refine PL.nil (hK27 _ _ ?_)
 refine A3 1 f1 3 f3 4 (e_ (I 0)) fun F f1 f3 f4 => ?_
 refine PC.block ?_
 obtain ⟨o30, ho30, hs15⟩ := bs hs15
 obtain ⟨B31, hB31, ho30⟩ := G.loop_some ho30
 refine PC.loop (fun m34 F H => ∃ s47 : Int, qw B31 m34 s47 = some o30 ∧ F 1 = (PV.rp (jc a0).cells) ∧ F 3 = (I x11) ∧ F 4 = (I s47)) (m := nn) ⟨0, ho30, f1, f3, f4⟩ fun m34 F H hI => ?_
 obtain ⟨x29, ho30, f1, f3, f4⟩ := hI
 obtain ⟨m34, rfl, st32, hs33, ho30⟩ := jw ho30
 rw [hB31] at hs33
 try dsimp only at hs33
 refine PC.seq fun K35 hK35 => ?_
 refine SR fun K36 hK36 => ?_
 refine Q1 _ (jb f4) ?_
 refine Q1 (PV.rp ((jc a0).cells.drop 256)) (j8 Qk qz (by decide) f1) ?_
 refine Q1 (I a0.ji) (jx qz (e_ (PV.rp ((jc a0).cells.drop 256))) (zi a0)) ?_
 refine Q1 _ (jh rfl (e_ (I x29)) (e_ (I a0.ji)) jv) ?_
 refine PL.nil (hK36 _ _ ?_)
 refine A4 1 f1 3 f3 4 f4 59 (e_ (B (decide (x29 < a0.ji)))) fun F f1 f3 f4 f59 => ?_
 rcases cz hs33 with ⟨hb37, hs33⟩ | ⟨hb37, hs33⟩
 refine PC.condTb f59 hb37 ?_
 refine PC.skip ?_
 refine hK35 _ _ ?_
 refine A3 1 f1 3 f3 4 f4 fun F f1 f3 f4 => ?_
 refine PC.seq fun K38 hK38 => ?_
 refine PC.block ?_
 refine PC.seq fun K39 hK39 => ?_
 refine PC.regionQ mixed (by kernel_rfl) ?_
 refine Q2 (PV.rp ((jc a0).cells.drop 257)) (j8 vx qi (by decide) f1) ?_
 refine Q2 (qk a0.je) (jx qi (e_ (PV.rp ((jc a0).cells.drop 257))) (qm a0)) ?_
 refine Q2 _ (jb f3) ?_
 obtain ⟨x40, hx40, hs33⟩ := bs hs33
 refine Q2 (PV.rp (slI x40).cells) (j1 (rep := slI) (xs := a0.je) Jz (e_ (qk a0.je)) (e_ (I x11)) hx40) ?_
 refine Q2 (slI x40) (qr qh (e_ (PV.rp (slI x40).cells))) ?_
 refine Q2 _ (jb f4) ?_
 obtain ⟨x41, hx41, hs33⟩ := bs hs33
 refine Q2 (PV.rp (I x41).cells) (j1 (rep := I) (xs := x40) vk (e_ (slI x40)) (e_ (I x29)) hx41) ?_
 refine Q2 (I x41) (qr qz (e_ (PV.rp (I x41).cells))) ?_
 refine Q2 _ (jh rfl (e_ (I x41)) (e_ (I (-1))) jv) ?_
 refine Q2 _ (jb (e_ (B (decide (x41 < (-1)))))) ?_
 refine HF_ (PV.rp ((jc a0).cells.drop 257)) rfl (e_ (B (decide (x41 < (-1))))) (fun hb => j8 vx qi (by decide) f1) ?_
 refine HF_ (qk a0.je) rfl (e_ (B (decide (x41 < (-1))))) (fun hb => jx qi (gvp hb (e_ (gv (!(decide (x41 < (-1)))) (PV.rp ((jc a0).cells.drop 257))))) (qm a0)) ?_
 refine HF_ (I x11) rfl (e_ (B (decide (x41 < (-1))))) (fun hb => jb f3) ?_
 obtain ⟨x42, hx42, hs33⟩ := bs hs33
 refine HF_ (PV.rp (slI x42).cells) rfl (e_ (B (decide (x41 < (-1))))) (fun hb => j1 (rep := slI) (xs := a0.je) Jz (gvp hb (e_ (gv (!(decide (x41 < (-1)))) (qk a0.je)))) (gvp hb (e_ (gv (!(decide (x41 < (-1)))) (I x11)))) (G.cond_pos hx42 hb)) ?_
 refine HF_ (slI x42) rfl (e_ (B (decide (x41 < (-1))))) (fun hb => qr qh (gvp hb (e_ (gv (!(decide (x41 < (-1)))) (PV.rp (slI x42).cells))))) ?_
 refine HF_ (I x29) rfl (e_ (B (decide (x41 < (-1))))) (fun hb => jb f4) ?_
 obtain ⟨x43, hx43, hs33⟩ := bs hs33
 refine HF_ (PV.rp (I x43).cells) rfl (e_ (B (decide (x41 < (-1))))) (fun hb => j1 (rep := I) (xs := x42) vk (gvp hb (e_ (gv (!(decide (x41 < (-1)))) (slI x42)))) (gvp hb (e_ (gv (!(decide (x41 < (-1)))) (I x29)))) (G.cond_pos hx43 hb)) ?_
 refine HF_ (I x43) rfl (e_ (B (decide (x41 < (-1))))) (fun hb => qr qz (gvp hb (e_ (gv (!(decide (x41 < (-1)))) (PV.rp (I x43).cells))))) ?_
 refine HF_ (PV.rp ((jc a0).cells.drop 257)) rfl (e_ (B (decide (x41 < (-1))))) (fun hb => j8 vx qi (by decide) f1) ?_
 refine HF_ (qk a0.je) rfl (e_ (B (decide (x41 < (-1))))) (fun hb => jx qi (gvp hb (e_ (gv (!(decide (x41 < (-1)))) (PV.rp ((jc a0).cells.drop 257))))) (qm a0)) ?_
 refine HF_ (I (a0.je.length : Int)) rfl (e_ (B (decide (x41 < (-1))))) (fun hb => qg (rep := slI) (xs := a0.je) vp (gvp hb (e_ (gv (!(decide (x41 < (-1)))) (qk a0.je))))) ?_
 refine HF_ (B (decide ((a0.je.length : Int) ≤ x43))) rfl (e_ (B (decide (x41 < (-1))))) (fun hb => jh rfl (gvp hb (e_ (gv (!(decide (x41 < (-1)))) (I x43)))) (gvp hb (e_ (gv (!(decide (x41 < (-1)))) (I (a0.je.length : Int))))) vr) ?_
 refine Q2 (B ((decide (x41 < (-1))) || (decide ((a0.je.length : Int) ≤ x43)))) (yf (e_ (B (decide (x41 < (-1))))) rfl (e_ (gv (!(decide (x41 < (-1)))) (B (decide ((a0.je.length : Int) ≤ x43)))))) ?_
 refine QF.nil ?_
 refine hK39 _ _ ?_
 refine A4 1 f1 3 f3 4 f4 84 (e_ (B ((decide (x41 < (-1))) || (decide ((a0.je.length : Int) ≤ x43))))) fun F f1 f3 f4 f84 => ?_
 rcases cz hs33 with ⟨hb44, hs33⟩ | ⟨hb44, hs33⟩
 refine PC.condTb f84 hb44 ?_
 refine SR fun K45 hK45 => ?_
 refine Q1 _ (jf (e_ (B false))) ?_
 refine PL.nil (hK45 _ _ ?_)
 refine A1 2 (e_ (B false)) fun F f2 => ?_
 have hs33 := pz hs33
 subst hs33
 try dsimp only at ho30
 subst ho30
 try dsimp only at hs15
 have hs15 := pz hs15
 subst hs15
 try dsimp only at ho12
 subst ho12
 try dsimp only at h0
 refine PC.ret ?_
 have h0 := pz h0
 subst h0
 exact fin (.inr rfl) (j9 Try.results8 f2) (.u _)
 refine PC.condFb f84 hb44 ?_
 refine PC.skip ?_
 refine hK38 _ _ ?_
 refine A3 1 f1 3 f3 4 f4 fun F f1 f3 f4 => ?_
 refine PC.region ?_
 refine Q1 _ (jb f4) ?_
 refine Q1 _ (jh rfl (e_ (I x29)) (e_ (I 1)) j3) ?_
 refine Q1 _ (jf (e_ (I (w64 (x29 + 1))))) ?_
 refine PL.nil ?_
 have hs33 := pz hs33
 subst hs33
 exact ⟨m34, Nat.lt_succ_self _, (w64 (x29 + 1)), ho30, f1, f3, (e_ (I (w64 (x29 + 1))))⟩
 refine PC.condFb f59 hb37 ?_
 refine PC.exit ?_
 have hs33 := pz hs33
 subst hs33
 try dsimp only at ho30
 subst ho30
 try dsimp only at hs15
 refine hK20 _ _ ?_
 refine A2 1 f1 3 f3 fun F f1 f3 => ?_
 refine PC.region ?_
 refine Q1 _ (jb f3) ?_
 refine Q1 _ (jh rfl (e_ (I x11)) (e_ (I 1)) j3) ?_
 refine Q1 _ (jf (e_ (I (w64 (x11 + 1))))) ?_
 refine PL.nil ?_
 have hs15 := pz hs15
 subst hs15
 exact ⟨m16, Nat.lt_succ_self _, (w64 (x11 + 1)), ho12, f1, (e_ (I (w64 (x11 + 1))))⟩
 refine PC.condFb f36 hb19 ?_
 refine PC.exit ?_
 have hs15 := pz hs15
 subst hs15
 try dsimp only at ho12
 subst ho12
 try dsimp only at h0
 refine hK8 _ _ ?_
 refine PC.absF (fun F => True) trivial ?_
 intro F hI
 clear hI
 refine SR fun K48 hK48 => ?_
 refine Q1 _ (jf (e_ (B true))) ?_
 refine PL.nil (hK48 _ _ ?_)
 refine A1 2 (e_ (B true)) fun F f2 => ?_
 refine PC.ret ?_
 have h0 := pz h0
 subst h0
 exact fin (.inr rfl) (j9 Try.results8 f2) (.u _)
def Qz (a0 : jd) (a1 : ByteArray) : G Int :=
  G.bind (z2 a0) fun x4 => G.cond (!x4) (G.pure (-1)) (G.bind (G.loop (σ := (Int × Int)) (α := Int) (fun (x12, x13) => G.cond ((decide (x13 < (a1.size : Int))) && (decide (0 ≤ x12))) (G.bind (G.lift (idx a0.je x12)) fun x23 => G.bind (G.lift (Yc a1 x13)) fun x24 => G.bind (G.lift (idx a0.jp.1 x24)) fun x25 => G.bind (G.lift (idx x23 x25)) fun x26 => G.pure (.inl (x26, (w64 (x13 + 1))))) (G.pure (.inr x12))) (0, 0)) fun x28 => G.pure x28)
theorem zcw {nn : Nat} {a0 : jd} {a1 : ByteArray} {r : Int} (h0 : Qz a0 a1 nn = some r) : PCall Try.prog 10 [jc a0, S a1] (· = I r) := by
 unfold Qz at h0
 refine PCall.intro' Try.func10 rfl Try.ntmps10 (by simp) fun W => ?_
 refine A2 0 (e_ (jc a0)) 1 (e_ (S a1)) fun F f0 f1 => ?_
 generalize PHeap.empty = H
 refine SR fun K1 hK1 => ?_
 refine Q3 (PV.rp (jc a0).cells) (zk f0 (qt _ _)) ?_
 refine Q1 _ (jf (e_ (I 0))) ?_
 refine PL.nil (hK1 _ _ ?_)
 refine A2 1 f1 2 (e_ (PV.rp (jc a0).cells)) fun F f1 f2 => ?_
 refine PC.seq fun K2 hK2 => ?_
 refine SR fun K3 hK3 => ?_
 refine Q1 (jc a0) (vw v7 f2 (qe _)) ?_
 obtain ⟨x4, hx4, h0⟩ := bs h0
 refine Q3 (B x4) (j0 (by kernel_rfl) (am (e_ (jc a0)) (am0)) (js (qa _) (j2)) (za8 hx4)) ?_
 refine Q1 (B (!x4)) (yn (e_ (B x4))) ?_
 refine PL.nil (hK3 _ _ ?_)
 refine A3 1 f1 2 f2 9 (e_ (B (!x4))) fun F f1 f2 f9 => ?_
 rcases cz h0 with ⟨hb5, h0⟩ | ⟨hb5, h0⟩
 refine PC.condTb f9 hb5 ?_
 refine SR fun K6 hK6 => ?_
 refine Q1 _ (jf (e_ (I (-1)))) ?_
 refine PL.nil (hK6 _ _ ?_)
 refine A1 4 (e_ (I (-1))) fun F f4 => ?_
 refine PC.ret ?_
 have h0 := pz h0
 subst h0
 exact fin (.inr rfl) (j9 Try.results10 f4) (.u _)
 refine PC.condFb f9 hb5 ?_
 refine PC.skip ?_
 refine hK2 _ _ ?_
 refine A2 1 f1 2 f2 fun F f1 f2 => ?_
 refine SR fun K7 hK7 => ?_
 refine Q1 _ (jf (e_ (I 0))) ?_
 refine PL.nil (hK7 _ _ ?_)
 refine A3 1 f1 2 f2 5 (e_ (I 0)) fun F f1 f2 f5 => ?_
 refine PC.seq fun K8 hK8 => ?_
 refine SR fun K9 hK9 => ?_
 refine Q1 _ (jf (e_ (I 0))) ?_
 refine PL.nil (hK9 _ _ ?_)
 refine A4 1 f1 2 f2 5 f5 6 (e_ (I 0)) fun F f1 f2 f5 f6 => ?_
 refine PC.block ?_
 obtain ⟨o14, ho14, h0⟩ := bs h0
 obtain ⟨B15, hB15, ho14⟩ := G.loop_some ho14
 refine PC.loop (fun m18 F H => ∃ s30 : (Int × Int), qw B15 m18 s30 = some o14 ∧ F 1 = (S a1) ∧ F 2 = (PV.rp (jc a0).cells) ∧ F 5 = (I s30.1) ∧ F 6 = (I s30.2)) (m := nn) ⟨(0, 0), ho14, f1, f2, f5, f6⟩ fun m18 F H hI => ?_
 obtain ⟨⟨x12, x13⟩, ho14, f1, f2, f5, f6⟩ := hI
 obtain ⟨m18, rfl, st16, hs17, ho14⟩ := jw ho14
 rw [hB15] at hs17
 try dsimp only at hs17
 refine PC.seq fun K19 hK19 => ?_
 refine SR fun K20 hK20 => ?_
 refine Q1 _ (jb f6) ?_
 refine Q1 _ (jb f1) ?_
 refine Q1 (I (a1.size : Int)) (yj qo (e_ (S a1))) ?_
 refine Q1 _ (jh rfl (e_ (I x13)) (e_ (I (a1.size : Int))) jv) ?_
 refine Q1 _ (jb (e_ (B (decide (x13 < (a1.size : Int)))))) ?_
 refine GT (I x12) rfl (e_ (B (decide (x13 < (a1.size : Int))))) (fun hb => jb f5) ?_
 refine GT (B (decide (0 ≤ x12))) rfl (e_ (B (decide (x13 < (a1.size : Int))))) (fun hb => jh rfl (gvp hb (e_ (gv (decide (x13 < (a1.size : Int))) (I x12)))) (e_ (I 0)) vr) ?_
 refine Q1 (B ((decide (x13 < (a1.size : Int))) && (decide (0 ≤ x12)))) (vt (e_ (B (decide (x13 < (a1.size : Int))))) (e_ (gv (decide (x13 < (a1.size : Int))) (B (decide (0 ≤ x12))))) rfl) ?_
 refine PL.nil (hK20 _ _ ?_)
 refine A5 1 f1 2 f2 5 f5 6 f6 17 (e_ (B ((decide (x13 < (a1.size : Int))) && (decide (0 ≤ x12))))) fun F f1 f2 f5 f6 f17 => ?_
 rcases cz hs17 with ⟨hb21, hs17⟩ | ⟨hb21, hs17⟩
 refine PC.condTb f17 hb21 ?_
 refine PC.skip ?_
 refine hK19 _ _ ?_
 refine A4 1 f1 2 f2 5 f5 6 f6 fun F f1 f2 f5 f6 => ?_
 refine PC.seq fun K22 hK22 => ?_
 refine PC.block ?_
 refine PC.regionQ mixed (by kernel_rfl) ?_
 refine Q2 (PV.rp ((jc a0).cells.drop 257)) (j8 vx qi (by decide) f2) ?_
 refine Q2 (qk a0.je) (jx qi (e_ (PV.rp ((jc a0).cells.drop 257))) (qm a0)) ?_
 refine Q2 _ (jb f5) ?_
 obtain ⟨x23, hx23, hs17⟩ := bs hs17
 refine Q2 (PV.rp (slI x23).cells) (j1 (rep := slI) (xs := a0.je) Jz (e_ (qk a0.je)) (e_ (I x12)) hx23) ?_
 refine Q2 (slI x23) (qr qh (e_ (PV.rp (slI x23).cells))) ?_
 refine Q2 _ (jb f1) ?_
 refine Q2 _ (jb f6) ?_
 obtain ⟨x24, hx24, hs17⟩ := bs hs17
 refine Q2 (U8 x24) (yk qo (e_ (S a1)) (e_ (I x13)) hx24) ?_
 refine Q2 (PV.rp ((jc a0).cells.drop 0)) (j8 Q7 y5 (by decide) f2) ?_
 obtain ⟨x25, hx25, hs17⟩ := bs hs17
 refine Q2 (PV.rp (((jc a0).cells.drop 0).drop ((x24 : Int).toNat * 1))) (zlx (rep := U8) (a := a0.jp) (yy a0) Yf (e_ (PV.rp ((jc a0).cells.drop 0))) (e_ (U8 x24)) hx25) ?_
 refine Q2 (U8 x25) (jx Zm (e_ (PV.rp (((jc a0).cells.drop 0).drop ((x24 : Int).toNat * 1)))) (zlm (yy a0) hx25)) ?_
 obtain ⟨x26, hx26, hs17⟩ := bs hs17
 refine Q2 (PV.rp (I x26).cells) (j1 (rep := I) (xs := x23) vk (e_ (slI x23)) (e_ (U8 x25)) hx26) ?_
 refine Q2 (I x26) (qr qz (e_ (PV.rp (I x26).cells))) ?_
 refine Q2 _ (jf (e_ (I x26))) ?_
 refine QF.nil ?_
 refine hK22 _ _ ?_
 refine A4 1 f1 2 f2 5 (e_ (I x26)) 6 f6 fun F f1 f2 f5 f6 => ?_
 refine PC.region ?_
 refine Q1 _ (jb f6) ?_
 refine Q1 _ (jh rfl (e_ (I x13)) (e_ (I 1)) j3) ?_
 refine Q1 _ (jf (e_ (I (w64 (x13 + 1))))) ?_
 refine PL.nil ?_
 have hs17 := pz hs17
 subst hs17
 exact ⟨m18, Nat.lt_succ_self _, (x26, (w64 (x13 + 1))), ho14, f1, f2, f5, (e_ (I (w64 (x13 + 1))))⟩
 refine PC.condFb f17 hb21 ?_
 refine PC.exit ?_
 have hs17 := pz hs17
 subst hs17
 try dsimp only at ho14
 subst ho14
 try dsimp only at h0
 refine hK8 _ _ ?_
 refine A1 5 f5 fun F f5 => ?_
 refine SR fun K27 hK27 => ?_
 refine Q1 _ (jb f5) ?_
 refine Q1 _ (jf (e_ (I x12))) ?_
 refine PL.nil (hK27 _ _ ?_)
 refine A1 4 (e_ (I x12)) fun F f4 => ?_
 refine PC.ret ?_
 have h0 := pz h0
 subst h0
 exact fin (.inr rfl) (j9 Try.results10 f4) (.u _)
def Jv (a0 : jd) (a1 : Int) : G Int :=
  G.bind (z2 a0) fun x4 => G.cond (((!x4) || (decide (a1 < 0))) || (decide ((a0.jl.length : Int) ≤ a1))) (G.pure (-1)) (G.bind (G.lift (idx a0.jl a1)) fun x8 => G.pure x8)
theorem za2 {nn : Nat} {a0 : jd} {a1 : Int} {r : Int} (h0 : Jv a0 a1 nn = some r) : PCall Try.prog 9 [jc a0, I a1] (· = I r) := by
 unfold Jv at h0
 refine PCall.intro' Try.func9 rfl Try.ntmps9 (by simp) fun W => ?_
 refine A2 0 (e_ (jc a0)) 1 (e_ (I a1)) fun F f0 f1 => ?_
 generalize PHeap.empty = H
 refine SR fun K1 hK1 => ?_
 refine Q3 (PV.rp (jc a0).cells) (zk f0 (qt _ _)) ?_
 refine Q1 _ (jf (e_ (I 0))) ?_
 refine PL.nil (hK1 _ _ ?_)
 refine A2 1 f1 2 (e_ (PV.rp (jc a0).cells)) fun F f1 f2 => ?_
 refine PC.seq fun K2 hK2 => ?_
 refine SR fun K3 hK3 => ?_
 refine Q1 (jc a0) (vw v7 f2 (qe _)) ?_
 obtain ⟨x4, hx4, h0⟩ := bs h0
 refine Q3 (B x4) (j0 (by kernel_rfl) (am (e_ (jc a0)) (am0)) (js (qa _) (j2)) (za8 hx4)) ?_
 refine Q1 (B (!x4)) (yn (e_ (B x4))) ?_
 refine Q1 _ (jb (e_ (B (!x4)))) ?_
 refine GF (I a1) rfl (e_ (B (!x4))) (fun hb => jb f1) ?_
 refine GF (B (decide (a1 < 0))) rfl (e_ (B (!x4))) (fun hb => jh rfl (gvp hb (e_ (gv (!(!x4)) (I a1)))) (e_ (I 0)) jv) ?_
 refine Q1 (B ((!x4) || (decide (a1 < 0)))) (yf (e_ (B (!x4))) rfl (e_ (gv (!(!x4)) (B (decide (a1 < 0)))))) ?_
 refine Q1 _ (jb (e_ (B ((!x4) || (decide (a1 < 0)))))) ?_
 refine GF (I a1) rfl (e_ (B ((!x4) || (decide (a1 < 0))))) (fun hb => jb f1) ?_
 refine GF (PV.rp ((jc a0).cells.drop 258)) rfl (e_ (B ((!x4) || (decide (a1 < 0))))) (fun hb => j8 ze qh (by decide) f2) ?_
 refine GF (slI a0.jl) rfl (e_ (B ((!x4) || (decide (a1 < 0))))) (fun hb => jx qh (gvp hb (e_ (gv (!((!x4) || (decide (a1 < 0)))) (PV.rp ((jc a0).cells.drop 258))))) (yg a0)) ?_
 refine GF (I (a0.jl.length : Int)) rfl (e_ (B ((!x4) || (decide (a1 < 0))))) (fun hb => qg (rep := I) (xs := a0.jl) ql (gvp hb (e_ (gv (!((!x4) || (decide (a1 < 0)))) (slI a0.jl))))) ?_
 refine GF (B (decide ((a0.jl.length : Int) ≤ a1))) rfl (e_ (B ((!x4) || (decide (a1 < 0))))) (fun hb => jh rfl (gvp hb (e_ (gv (!((!x4) || (decide (a1 < 0)))) (I a1)))) (gvp hb (e_ (gv (!((!x4) || (decide (a1 < 0)))) (I (a0.jl.length : Int))))) vr) ?_
 refine Q1 (B (((!x4) || (decide (a1 < 0))) || (decide ((a0.jl.length : Int) ≤ a1)))) (yf (e_ (B ((!x4) || (decide (a1 < 0))))) rfl (e_ (gv (!((!x4) || (decide (a1 < 0)))) (B (decide ((a0.jl.length : Int) ≤ a1)))))) ?_
 refine PL.nil (hK3 _ _ ?_)
 refine A3 1 f1 2 f2 18 (e_ (B (((!x4) || (decide (a1 < 0))) || (decide ((a0.jl.length : Int) ≤ a1))))) fun F f1 f2 f18 => ?_
 rcases cz h0 with ⟨hb5, h0⟩ | ⟨hb5, h0⟩
 refine PC.condTb f18 hb5 ?_
 refine SR fun K6 hK6 => ?_
 refine Q1 _ (jf (e_ (I (-1)))) ?_
 refine PL.nil (hK6 _ _ ?_)
 refine A1 4 (e_ (I (-1))) fun F f4 => ?_
 refine PC.ret ?_
 have h0 := pz h0
 subst h0
 exact fin (.inr rfl) (j9 Try.results9 f4) (.u _)
 refine PC.condFb f18 hb5 ?_
 refine PC.skip ?_
 refine hK2 _ _ ?_
 refine A2 1 f1 2 f2 fun F f1 f2 => ?_
 refine SR fun K7 hK7 => ?_
 refine Q1 (PV.rp ((jc a0).cells.drop 258)) (j8 ze qh (by decide) f2) ?_
 refine Q1 (slI a0.jl) (jx qh (e_ (PV.rp ((jc a0).cells.drop 258))) (yg a0)) ?_
 refine Q1 _ (jb f1) ?_
 obtain ⟨x8, hx8, h0⟩ := bs h0
 refine Q1 (PV.rp (I x8).cells) (j1 (rep := I) (xs := a0.jl) vk (e_ (slI a0.jl)) (e_ (I a1)) hx8) ?_
 refine Q1 (I x8) (qr qz (e_ (PV.rp (I x8).cells))) ?_
 refine Q1 _ (jf (e_ (I x8))) ?_
 refine PL.nil (hK7 _ _ ?_)
 refine A1 4 (e_ (I x8)) fun F f4 => ?_
 refine PC.ret ?_
 have h0 := pz h0
 subst h0
 exact fin (.inr rfl) (j9 Try.results9 f4) (.u _)
def zdl (a0 : jd) (a1 : jd) : G Bool :=
  G.bind (G.cond (!(((!(a0.jp.1 == a1.jp.1)) || (decide (¬ a0.ji = a1.ji))) || (decide (¬ (a0.je.length : Int) = (a1.je.length : Int))))) (zg a0.jl a1.jl) (G.pure false)) fun x4 => G.cond ((((!(a0.jp.1 == a1.jp.1)) || (decide (¬ a0.ji = a1.ji))) || (decide (¬ (a0.je.length : Int) = (a1.je.length : Int)))) || (!x4)) (G.pure false) (G.bind (G.loop (σ := Int) (α := Unit ⊕ Bool) (fun x10 => G.cond (decide (x10 < (a0.je.length : Int))) (G.bind (G.lift (idx a0.je x10)) fun x21 => G.bind (G.lift (idx a1.je x10)) fun x22 => G.bind (zg x21 x22) fun x23 => G.cond (!x23) (G.pure (.inr (.inr false))) (G.pure (.inl (w64 (x10 + 1))))) (G.pure (.inr (.inl ())))) 0) fun o => match o with | .inl () => G.pure true | .inr r28 => G.pure r28)
def g_law15_LiveShown (a0 : jd) (a1 : Int) (a2 : ByteArray) : G Bool :=
  G.bind (Qp a0) fun x4 => G.cond (((!x4) || (decide (60 < (a0.je.length : Int)))) || (decide (60 < (a2.size : Int)))) (G.bind (Ju) fun x7 => G.pure x7) (G.bind (Je a0 a1) fun x9 => G.bind (G.cond (x9.2 && (!(decide (a1 < 0)))) (Qz a0 x9.1) (G.pure 0)) fun x12 => G.bind (G.cond (x9.2 && (!(decide (a1 < 0)))) (Jv a0 x12) (G.pure 0)) fun x13 => G.cond (x9.2 && ((decide (a1 < 0)) || (decide (¬ x13 = a1)))) (G.pure false) (G.bind (G.cond (decide (0 ≤ a1)) (Qz a0 a2) (G.pure 0)) fun x18 => G.bind (G.cond (decide (0 ≤ a1)) (Jv a0 x18) (G.pure 0)) fun x19 => G.cond (((decide (0 ≤ a1)) && (decide (x19 = a1))) && (((!x9.2) || (decide ((a2.size : Int) < (x9.1.size : Int)))) || ((decide ((a2.size : Int) = (x9.1.size : Int))) && (zel a2 x9.1)))) (G.pure false) (G.bind (G.cond (x9.2 || (x9.1.toList == (⟨#[]⟩ : ByteArray).toList)) (Ju) (G.pure false)) fun x23 => G.pure ((x9.2 || (x9.1.toList == (⟨#[]⟩ : ByteArray).toList)) && x23))))
theorem g_law15_LiveShown_w {nn : Nat} {a0 : jd} {a1 : Int} {a2 : ByteArray} {r : Bool} (h0 : g_law15_LiveShown a0 a1 a2 nn = some r) : PCall Try.prog 4 [jc a0, I a1, S a2] (· = B r) := by
 unfold g_law15_LiveShown at h0
 refine PCall.intro' Try.func4 rfl Try.ntmps4 (by simp) fun W => ?_
 refine A3 0 (e_ (jc a0)) 1 (e_ (I a1)) 2 (e_ (S a2)) fun F f0 f1 f2 => ?_
 generalize PHeap.empty = H
 refine SR fun K1 hK1 => ?_
 refine Q3 (PV.rp (jc a0).cells) (zk f0 (qt _ _)) ?_
 refine Q1 _ (jf (e_ (B false))) ?_
 refine PL.nil (hK1 _ _ ?_)
 refine A3 1 f1 2 f2 3 (e_ (PV.rp (jc a0).cells)) fun F f1 f2 f3 => ?_
 refine PC.seq fun K2 hK2 => ?_
 refine SR fun K3 hK3 => ?_
 refine Q1 (jc a0) (vw v7 f3 (qe _)) ?_
 obtain ⟨x4, hx4, h0⟩ := bs h0
 refine Q3 (B x4) (j0 (by kernel_rfl) (am (e_ (jc a0)) (am0)) (js (qa _) (j2)) (zfc hx4)) ?_
 refine Q1 (B (!x4)) (yn (e_ (B x4))) ?_
 refine Q1 _ (jb (e_ (B (!x4)))) ?_
 refine GF (PV.rp ((jc a0).cells.drop 257)) rfl (e_ (B (!x4))) (fun hb => j8 vx qi (by decide) f3) ?_
 refine GF (qk a0.je) rfl (e_ (B (!x4))) (fun hb => jx qi (gvp hb (e_ (gv (!(!x4)) (PV.rp ((jc a0).cells.drop 257))))) (qm a0)) ?_
 refine GF (I (a0.je.length : Int)) rfl (e_ (B (!x4))) (fun hb => qg (rep := slI) (xs := a0.je) vp (gvp hb (e_ (gv (!(!x4)) (qk a0.je))))) ?_
 refine GF (B (decide (60 < (a0.je.length : Int)))) rfl (e_ (B (!x4))) (fun hb => jh rfl (gvp hb (e_ (gv (!(!x4)) (I (a0.je.length : Int))))) (e_ (I 60)) J4) ?_
 refine Q1 (B ((!x4) || (decide (60 < (a0.je.length : Int))))) (yf (e_ (B (!x4))) rfl (e_ (gv (!(!x4)) (B (decide (60 < (a0.je.length : Int))))))) ?_
 refine Q1 _ (jb (e_ (B ((!x4) || (decide (60 < (a0.je.length : Int))))))) ?_
 refine GF (S a2) rfl (e_ (B ((!x4) || (decide (60 < (a0.je.length : Int)))))) (fun hb => jb f2) ?_
 refine GF (I (a2.size : Int)) rfl (e_ (B ((!x4) || (decide (60 < (a0.je.length : Int)))))) (fun hb => yj qo (gvp hb (e_ (gv (!((!x4) || (decide (60 < (a0.je.length : Int))))) (S a2))))) ?_
 refine GF (B (decide (60 < (a2.size : Int)))) rfl (e_ (B ((!x4) || (decide (60 < (a0.je.length : Int)))))) (fun hb => jh rfl (gvp hb (e_ (gv (!((!x4) || (decide (60 < (a0.je.length : Int))))) (I (a2.size : Int))))) (e_ (I 60)) J4) ?_
 refine Q1 (B (((!x4) || (decide (60 < (a0.je.length : Int)))) || (decide (60 < (a2.size : Int))))) (yf (e_ (B ((!x4) || (decide (60 < (a0.je.length : Int)))))) rfl (e_ (gv (!((!x4) || (decide (60 < (a0.je.length : Int))))) (B (decide (60 < (a2.size : Int))))))) ?_
 refine PL.nil (hK3 _ _ ?_)
 refine A4 1 f1 2 f2 3 f3 22 (e_ (B (((!x4) || (decide (60 < (a0.je.length : Int)))) || (decide (60 < (a2.size : Int)))))) fun F f1 f2 f3 f22 => ?_
 rcases cz h0 with ⟨hb5, h0⟩ | ⟨hb5, h0⟩
 refine PC.condTb f22 hb5 ?_
 refine SR fun K6 hK6 => ?_
 obtain ⟨x7, hx7, h0⟩ := bs h0
 refine Q3 (B x7) (j0 (by kernel_rfl) (am0) (j2) (za0 hx7)) ?_
 refine Q1 _ (jf (e_ (B x7))) ?_
 refine PL.nil (hK6 _ _ ?_)
 refine A1 6 (e_ (B x7)) fun F f6 => ?_
 refine PC.ret ?_
 have h0 := pz h0
 subst h0
 exact fin (.inr rfl) (j9 Try.results4 f6) (.u _)
 refine PC.condFb f22 hb5 ?_
 refine PC.skip ?_
 refine hK2 _ _ ?_
 refine A3 1 f1 2 f2 3 f3 fun F f1 f2 f3 => ?_
 refine SR fun K8 hK8 => ?_
 refine Q1 (jc a0) (vw v7 f3 (qe _)) ?_
 refine Q1 _ (jb f1) ?_
 obtain ⟨x9, hx9, h0⟩ := bs h0
 refine Q3 (PV.tup [(S x9.1), (B x9.2)]) (j0 (by kernel_rfl) (am (e_ (jc a0)) (am (e_ (I a1)) (am0))) (js (qa _) (js (.u _) (j2))) (zad hx9)) ?_
 refine Q1 _ (jb (e_ (PV.tup [(S x9.1), (B x9.2)]))) ?_
 refine Q1 _ (vj (e_ (PV.tup [(S x9.1), (B x9.2)])) rfl) ?_
 refine Q1 _ (vj (e_ (PV.tup [(S x9.1), (B x9.2)])) rfl) ?_
 refine Q1 _ (jf (e_ (S x9.1))) ?_
 refine Q1 _ (jf (e_ (B x9.2))) ?_
 refine PL.nil (hK8 _ _ ?_)
 refine A5 1 f1 2 f2 3 f3 7 (e_ (S x9.1)) 8 (e_ (B x9.2)) fun F f1 f2 f3 f7 f8 => ?_
 refine PC.seq fun K10 hK10 => ?_
 refine PC.seq fun K11 hK11 => ?_
 refine PC.regionQ mixed (by kernel_rfl) ?_
 refine Q2 _ (jb f8) ?_
 refine Q2 _ (jb (e_ (B x9.2))) ?_
 refine HT (I a1) rfl (e_ (B x9.2)) (fun hb => jb f1) ?_
 refine HT (B (decide (a1 < 0))) rfl (e_ (B x9.2)) (fun hb => jh rfl (gvp hb (e_ (gv x9.2 (I a1)))) (e_ (I 0)) jv) ?_
 refine HT (B (decide (a1 < 0))) rfl (e_ (B x9.2)) (fun hb => jb (gvp hb (e_ (gv x9.2 (B (decide (a1 < 0))))))) ?_
 refine QF.gq (p := (jc a0)) (c := x9.2) (c' := (x9.2 && (!(decide (a1 < 0))))) rfl rfl (e_ (gv x9.2 (B (decide (a1 < 0))))) (zm _ _) (j4 (by decide)) (fun hb => ju (vw v7 f3 (qe _))) ?_
 refine QF.gq (p := (jc a0)) (c := x9.2) (c' := (x9.2 && (!(decide (a1 < 0))))) rfl rfl (e_ (gv x9.2 (B (decide (a1 < 0))))) (zm _ _) (j4 (by decide)) (fun hb => ju (vw v7 f3 (qe _))) ?_
 refine QF.gq (p := (S x9.1)) (c := x9.2) (c' := (x9.2 && (!(decide (a1 < 0))))) rfl rfl (e_ (gv x9.2 (B (decide (a1 < 0))))) (zm _ _) (j4 (by decide)) (fun hb => ju (jb f7)) ?_
 obtain ⟨x12, hx12, h0⟩ := bs h0
 refine QF.gq (p := (I x12)) (c := x9.2) (c' := (x9.2 && (!(decide (a1 < 0))))) rfl rfl (e_ (gv x9.2 (B (decide (a1 < 0))))) (zm _ _) (j4 (by decide)) (fun hb => j0 (by kernel_rfl) (am (gvp hb (e_ (gv (x9.2 && (!(decide (a1 < 0)))) (jc a0)))) (am (gvp hb (e_ (gv (x9.2 && (!(decide (a1 < 0)))) (S x9.1)))) (am0))) (js (qa _) (js (.u _) (j2))) (zcw (G.cond_pos hx12 hb))) ?_
 obtain ⟨x13, hx13, h0⟩ := bs h0
 refine QF.gq (p := (I x13)) (c := x9.2) (c' := (x9.2 && (!(decide (a1 < 0))))) rfl rfl (e_ (gv x9.2 (B (decide (a1 < 0))))) (zm _ _) (j4 (by decide)) (fun hb => j0 (by kernel_rfl) (am (gvp hb (e_ (gv (x9.2 && (!(decide (a1 < 0)))) (jc a0)))) (am (gvp hb (e_ (gv (x9.2 && (!(decide (a1 < 0)))) (I x12)))) (am0))) (js (qa _) (js (.u _) (j2))) (za2 (G.cond_pos hx13 hb))) ?_
 refine QF.gq (p := (I a1)) (c := x9.2) (c' := (x9.2 && (!(decide (a1 < 0))))) rfl rfl (e_ (gv x9.2 (B (decide (a1 < 0))))) (zm _ _) (j4 (by decide)) (fun hb => ju (jb f1)) ?_
 refine QF.gq (p := (B (decide (¬ x13 = a1)))) (c := x9.2) (c' := (x9.2 && (!(decide (a1 < 0))))) rfl rfl (e_ (gv x9.2 (B (decide (a1 < 0))))) (zm _ _) (j4 (by decide)) (fun hb => ju (jh rfl (gvp hb (e_ (gv (x9.2 && (!(decide (a1 < 0)))) (I x13)))) (gvp hb (e_ (gv (x9.2 && (!(decide (a1 < 0)))) (I a1)))) yc)) ?_
 refine HT (B ((decide (a1 < 0)) || (decide (¬ x13 = a1)))) rfl (e_ (B x9.2)) (fun hb => zgs hb (gvp hb (e_ (gv x9.2 (B (decide (a1 < 0)))))) rfl (e_ (gv (x9.2 && (!(decide (a1 < 0)))) (B (decide (¬ x13 = a1)))))) ?_
 refine Q2 (B (x9.2 && ((decide (a1 < 0)) || (decide (¬ x13 = a1))))) (vt (e_ (B x9.2)) (e_ (gv x9.2 (B ((decide (a1 < 0)) || (decide (¬ x13 = a1)))))) rfl) ?_
 refine QF.nil ?_
 refine hK11 _ _ ?_
 refine A6 1 f1 2 f2 3 f3 7 f7 8 f8 43 (e_ (B (x9.2 && ((decide (a1 < 0)) || (decide (¬ x13 = a1)))))) fun F f1 f2 f3 f7 f8 f43 => ?_
 rcases cz h0 with ⟨hb14, h0⟩ | ⟨hb14, h0⟩
 refine PC.condTb f43 hb14 ?_
 refine SR fun K15 hK15 => ?_
 refine Q1 _ (jf (e_ (B false))) ?_
 refine PL.nil (hK15 _ _ ?_)
 refine A1 6 (e_ (B false)) fun F f6 => ?_
 refine PC.ret ?_
 have h0 := pz h0
 subst h0
 exact fin (.inr rfl) (j9 Try.results4 f6) (.u _)
 refine PC.condFb f43 hb14 ?_
 refine PC.skip ?_
 refine hK10 _ _ ?_
 refine A5 1 f1 2 f2 3 f3 7 f7 8 f8 fun F f1 f2 f3 f7 f8 => ?_
 refine PC.seq fun K16 hK16 => ?_
 refine PC.seq fun K17 hK17 => ?_
 refine PC.regionQ mixed (by kernel_rfl) ?_
 refine Q2 _ (jb f1) ?_
 refine Q2 _ (jh rfl (e_ (I a1)) (e_ (I 0)) vr) ?_
 refine Q2 _ (jb (e_ (B (decide (0 ≤ a1))))) ?_
 refine HT (jc a0) rfl (e_ (B (decide (0 ≤ a1)))) (fun hb => vw v7 f3 (qe _)) ?_
 refine HT (jc a0) rfl (e_ (B (decide (0 ≤ a1)))) (fun hb => vw v7 f3 (qe _)) ?_
 refine HT (S a2) rfl (e_ (B (decide (0 ≤ a1)))) (fun hb => jb f2) ?_
 obtain ⟨x18, hx18, h0⟩ := bs h0
 refine HTq (I x18) rfl (e_ (B (decide (0 ≤ a1)))) (fun hb => j0 (by kernel_rfl) (am (gvp hb (e_ (gv (decide (0 ≤ a1)) (jc a0)))) (am (gvp hb (e_ (gv (decide (0 ≤ a1)) (S a2)))) (am0))) (js (qa _) (js (.u _) (j2))) (zcw (G.cond_pos hx18 hb))) ?_
 obtain ⟨x19, hx19, h0⟩ := bs h0
 refine HTq (I x19) rfl (e_ (B (decide (0 ≤ a1)))) (fun hb => j0 (by kernel_rfl) (am (gvp hb (e_ (gv (decide (0 ≤ a1)) (jc a0)))) (am (gvp hb (e_ (gv (decide (0 ≤ a1)) (I x18)))) (am0))) (js (qa _) (js (.u _) (j2))) (za2 (G.cond_pos hx19 hb))) ?_
 refine HT (I a1) rfl (e_ (B (decide (0 ≤ a1)))) (fun hb => jb f1) ?_
 refine HT (B (decide (x19 = a1))) rfl (e_ (B (decide (0 ≤ a1)))) (fun hb => jh rfl (gvp hb (e_ (gv (decide (0 ≤ a1)) (I x19)))) (gvp hb (e_ (gv (decide (0 ≤ a1)) (I a1)))) j7) ?_
 refine Q2 (B ((decide (0 ≤ a1)) && (decide (x19 = a1)))) (vt (e_ (B (decide (0 ≤ a1)))) (e_ (gv (decide (0 ≤ a1)) (B (decide (x19 = a1))))) rfl) ?_
 refine Q2 _ (jb (e_ (B ((decide (0 ≤ a1)) && (decide (x19 = a1)))))) ?_
 refine HT (B x9.2) rfl (e_ (B ((decide (0 ≤ a1)) && (decide (x19 = a1))))) (fun hb => jb f8) ?_
 refine HT (B (!x9.2)) rfl (e_ (B ((decide (0 ≤ a1)) && (decide (x19 = a1))))) (fun hb => yn (gvp hb (e_ (gv ((decide (0 ≤ a1)) && (decide (x19 = a1))) (B x9.2))))) ?_
 refine HT (B (!x9.2)) rfl (e_ (B ((decide (0 ≤ a1)) && (decide (x19 = a1))))) (fun hb => jb (gvp hb (e_ (gv ((decide (0 ≤ a1)) && (decide (x19 = a1))) (B (!x9.2)))))) ?_
 refine QF.gq (p := (S a2)) (c := ((decide (0 ≤ a1)) && (decide (x19 = a1)))) (c' := (((decide (0 ≤ a1)) && (decide (x19 = a1))) && (!(!x9.2)))) rfl rfl (e_ (gv ((decide (0 ≤ a1)) && (decide (x19 = a1))) (B (!x9.2)))) (zm _ _) (j4 (by decide)) (fun hb => ju (jb f2)) ?_
 refine QF.gq (p := (I (a2.size : Int))) (c := ((decide (0 ≤ a1)) && (decide (x19 = a1)))) (c' := (((decide (0 ≤ a1)) && (decide (x19 = a1))) && (!(!x9.2)))) rfl rfl (e_ (gv ((decide (0 ≤ a1)) && (decide (x19 = a1))) (B (!x9.2)))) (zm _ _) (j4 (by decide)) (fun hb => ju (yj qo (gvp hb (e_ (gv (((decide (0 ≤ a1)) && (decide (x19 = a1))) && (!(!x9.2))) (S a2)))))) ?_
 refine QF.gq (p := (S x9.1)) (c := ((decide (0 ≤ a1)) && (decide (x19 = a1)))) (c' := (((decide (0 ≤ a1)) && (decide (x19 = a1))) && (!(!x9.2)))) rfl rfl (e_ (gv ((decide (0 ≤ a1)) && (decide (x19 = a1))) (B (!x9.2)))) (zm _ _) (j4 (by decide)) (fun hb => ju (jb f7)) ?_
 refine QF.gq (p := (I (x9.1.size : Int))) (c := ((decide (0 ≤ a1)) && (decide (x19 = a1)))) (c' := (((decide (0 ≤ a1)) && (decide (x19 = a1))) && (!(!x9.2)))) rfl rfl (e_ (gv ((decide (0 ≤ a1)) && (decide (x19 = a1))) (B (!x9.2)))) (zm _ _) (j4 (by decide)) (fun hb => ju (yj qo (gvp hb (e_ (gv (((decide (0 ≤ a1)) && (decide (x19 = a1))) && (!(!x9.2))) (S x9.1)))))) ?_
 refine QF.gq (p := (B (decide ((a2.size : Int) < (x9.1.size : Int))))) (c := ((decide (0 ≤ a1)) && (decide (x19 = a1)))) (c' := (((decide (0 ≤ a1)) && (decide (x19 = a1))) && (!(!x9.2)))) rfl rfl (e_ (gv ((decide (0 ≤ a1)) && (decide (x19 = a1))) (B (!x9.2)))) (zm _ _) (j4 (by decide)) (fun hb => ju (jh rfl (gvp hb (e_ (gv (((decide (0 ≤ a1)) && (decide (x19 = a1))) && (!(!x9.2))) (I (a2.size : Int))))) (gvp hb (e_ (gv (((decide (0 ≤ a1)) && (decide (x19 = a1))) && (!(!x9.2))) (I (x9.1.size : Int))))) jv)) ?_
 refine HT (B ((!x9.2) || (decide ((a2.size : Int) < (x9.1.size : Int))))) rfl (e_ (B ((decide (0 ≤ a1)) && (decide (x19 = a1))))) (fun hb => zgs hb (gvp hb (e_ (gv ((decide (0 ≤ a1)) && (decide (x19 = a1))) (B (!x9.2))))) rfl (e_ (gv (((decide (0 ≤ a1)) && (decide (x19 = a1))) && (!(!x9.2))) (B (decide ((a2.size : Int) < (x9.1.size : Int))))))) ?_
 refine HT (B ((!x9.2) || (decide ((a2.size : Int) < (x9.1.size : Int))))) rfl (e_ (B ((decide (0 ≤ a1)) && (decide (x19 = a1))))) (fun hb => jb (gvp hb (e_ (gv ((decide (0 ≤ a1)) && (decide (x19 = a1))) (B ((!x9.2) || (decide ((a2.size : Int) < (x9.1.size : Int))))))))) ?_
 refine QF.gq (p := (S a2)) (c := ((decide (0 ≤ a1)) && (decide (x19 = a1)))) (c' := (((decide (0 ≤ a1)) && (decide (x19 = a1))) && (!((!x9.2) || (decide ((a2.size : Int) < (x9.1.size : Int))))))) rfl rfl (e_ (gv ((decide (0 ≤ a1)) && (decide (x19 = a1))) (B ((!x9.2) || (decide ((a2.size : Int) < (x9.1.size : Int))))))) (zm _ _) (j4 (by decide)) (fun hb => ju (jb f2)) ?_
 refine QF.gq (p := (I (a2.size : Int))) (c := ((decide (0 ≤ a1)) && (decide (x19 = a1)))) (c' := (((decide (0 ≤ a1)) && (decide (x19 = a1))) && (!((!x9.2) || (decide ((a2.size : Int) < (x9.1.size : Int))))))) rfl rfl (e_ (gv ((decide (0 ≤ a1)) && (decide (x19 = a1))) (B ((!x9.2) || (decide ((a2.size : Int) < (x9.1.size : Int))))))) (zm _ _) (j4 (by decide)) (fun hb => ju (yj qo (gvp hb (e_ (gv (((decide (0 ≤ a1)) && (decide (x19 = a1))) && (!((!x9.2) || (decide ((a2.size : Int) < (x9.1.size : Int)))))) (S a2)))))) ?_
 refine QF.gq (p := (S x9.1)) (c := ((decide (0 ≤ a1)) && (decide (x19 = a1)))) (c' := (((decide (0 ≤ a1)) && (decide (x19 = a1))) && (!((!x9.2) || (decide ((a2.size : Int) < (x9.1.size : Int))))))) rfl rfl (e_ (gv ((decide (0 ≤ a1)) && (decide (x19 = a1))) (B ((!x9.2) || (decide ((a2.size : Int) < (x9.1.size : Int))))))) (zm _ _) (j4 (by decide)) (fun hb => ju (jb f7)) ?_
 refine QF.gq (p := (I (x9.1.size : Int))) (c := ((decide (0 ≤ a1)) && (decide (x19 = a1)))) (c' := (((decide (0 ≤ a1)) && (decide (x19 = a1))) && (!((!x9.2) || (decide ((a2.size : Int) < (x9.1.size : Int))))))) rfl rfl (e_ (gv ((decide (0 ≤ a1)) && (decide (x19 = a1))) (B ((!x9.2) || (decide ((a2.size : Int) < (x9.1.size : Int))))))) (zm _ _) (j4 (by decide)) (fun hb => ju (yj qo (gvp hb (e_ (gv (((decide (0 ≤ a1)) && (decide (x19 = a1))) && (!((!x9.2) || (decide ((a2.size : Int) < (x9.1.size : Int)))))) (S x9.1)))))) ?_
 refine QF.gq (p := (B (decide ((a2.size : Int) = (x9.1.size : Int))))) (c := ((decide (0 ≤ a1)) && (decide (x19 = a1)))) (c' := (((decide (0 ≤ a1)) && (decide (x19 = a1))) && (!((!x9.2) || (decide ((a2.size : Int) < (x9.1.size : Int))))))) rfl rfl (e_ (gv ((decide (0 ≤ a1)) && (decide (x19 = a1))) (B ((!x9.2) || (decide ((a2.size : Int) < (x9.1.size : Int))))))) (zm _ _) (j4 (by decide)) (fun hb => ju (jh rfl (gvp hb (e_ (gv (((decide (0 ≤ a1)) && (decide (x19 = a1))) && (!((!x9.2) || (decide ((a2.size : Int) < (x9.1.size : Int)))))) (I (a2.size : Int))))) (gvp hb (e_ (gv (((decide (0 ≤ a1)) && (decide (x19 = a1))) && (!((!x9.2) || (decide ((a2.size : Int) < (x9.1.size : Int)))))) (I (x9.1.size : Int))))) j7)) ?_
 refine QF.gq (p := (B (decide ((a2.size : Int) = (x9.1.size : Int))))) (c := ((decide (0 ≤ a1)) && (decide (x19 = a1)))) (c' := (((decide (0 ≤ a1)) && (decide (x19 = a1))) && (!((!x9.2) || (decide ((a2.size : Int) < (x9.1.size : Int))))))) rfl rfl (e_ (gv ((decide (0 ≤ a1)) && (decide (x19 = a1))) (B ((!x9.2) || (decide ((a2.size : Int) < (x9.1.size : Int))))))) (zm _ _) (j4 (by decide)) (fun hb => ju (jb (gvp hb (e_ (gv (((decide (0 ≤ a1)) && (decide (x19 = a1))) && (!((!x9.2) || (decide ((a2.size : Int) < (x9.1.size : Int)))))) (B (decide ((a2.size : Int) = (x9.1.size : Int))))))))) ?_
 refine QF.gq (p := (S a2)) (c := (((decide (0 ≤ a1)) && (decide (x19 = a1))) && (!((!x9.2) || (decide ((a2.size : Int) < (x9.1.size : Int))))))) (c' := ((((decide (0 ≤ a1)) && (decide (x19 = a1))) && (!((!x9.2) || (decide ((a2.size : Int) < (x9.1.size : Int)))))) && (decide ((a2.size : Int) = (x9.1.size : Int))))) rfl rfl (e_ (gv (((decide (0 ≤ a1)) && (decide (x19 = a1))) && (!((!x9.2) || (decide ((a2.size : Int) < (x9.1.size : Int)))))) (B (decide ((a2.size : Int) = (x9.1.size : Int)))))) (Jo _ _) (j4 (by decide)) (fun hb => ju (jb f2)) ?_
 refine QF.gq (p := (S x9.1)) (c := (((decide (0 ≤ a1)) && (decide (x19 = a1))) && (!((!x9.2) || (decide ((a2.size : Int) < (x9.1.size : Int))))))) (c' := ((((decide (0 ≤ a1)) && (decide (x19 = a1))) && (!((!x9.2) || (decide ((a2.size : Int) < (x9.1.size : Int)))))) && (decide ((a2.size : Int) = (x9.1.size : Int))))) rfl rfl (e_ (gv (((decide (0 ≤ a1)) && (decide (x19 = a1))) && (!((!x9.2) || (decide ((a2.size : Int) < (x9.1.size : Int)))))) (B (decide ((a2.size : Int) = (x9.1.size : Int)))))) (Jo _ _) (j4 (by decide)) (fun hb => ju (jb f7)) ?_
 refine QF.gq (p := (B (zel a2 x9.1))) (c := (((decide (0 ≤ a1)) && (decide (x19 = a1))) && (!((!x9.2) || (decide ((a2.size : Int) < (x9.1.size : Int))))))) (c' := ((((decide (0 ≤ a1)) && (decide (x19 = a1))) && (!((!x9.2) || (decide ((a2.size : Int) < (x9.1.size : Int)))))) && (decide ((a2.size : Int) = (x9.1.size : Int))))) rfl rfl (e_ (gv (((decide (0 ≤ a1)) && (decide (x19 = a1))) && (!((!x9.2) || (decide ((a2.size : Int) < (x9.1.size : Int)))))) (B (decide ((a2.size : Int) = (x9.1.size : Int)))))) (Jo _ _) (j4 (by decide)) (fun hb => ju (jh rfl (gvp hb (e_ (gv ((((decide (0 ≤ a1)) && (decide (x19 = a1))) && (!((!x9.2) || (decide ((a2.size : Int) < (x9.1.size : Int)))))) && (decide ((a2.size : Int) = (x9.1.size : Int)))) (S a2)))) (gvp hb (e_ (gv ((((decide (0 ≤ a1)) && (decide (x19 = a1))) && (!((!x9.2) || (decide ((a2.size : Int) < (x9.1.size : Int)))))) && (decide ((a2.size : Int) = (x9.1.size : Int)))) (S x9.1)))) (b_lssS _ _))) ?_
 refine QF.gq (p := (B ((decide ((a2.size : Int) = (x9.1.size : Int))) && (zel a2 x9.1)))) (c := ((decide (0 ≤ a1)) && (decide (x19 = a1)))) (c' := (((decide (0 ≤ a1)) && (decide (x19 = a1))) && (!((!x9.2) || (decide ((a2.size : Int) < (x9.1.size : Int))))))) rfl rfl (e_ (gv ((decide (0 ≤ a1)) && (decide (x19 = a1))) (B ((!x9.2) || (decide ((a2.size : Int) < (x9.1.size : Int))))))) (zm _ _) (j4 (by decide)) (fun hb => ju (Vx hb (gvp hb (e_ (gv (((decide (0 ≤ a1)) && (decide (x19 = a1))) && (!((!x9.2) || (decide ((a2.size : Int) < (x9.1.size : Int)))))) (B (decide ((a2.size : Int) = (x9.1.size : Int))))))) (e_ (gv ((((decide (0 ≤ a1)) && (decide (x19 = a1))) && (!((!x9.2) || (decide ((a2.size : Int) < (x9.1.size : Int)))))) && (decide ((a2.size : Int) = (x9.1.size : Int)))) (B (zel a2 x9.1)))) rfl)) ?_
 refine HT (B (((!x9.2) || (decide ((a2.size : Int) < (x9.1.size : Int)))) || ((decide ((a2.size : Int) = (x9.1.size : Int))) && (zel a2 x9.1)))) rfl (e_ (B ((decide (0 ≤ a1)) && (decide (x19 = a1))))) (fun hb => zgs hb (gvp hb (e_ (gv ((decide (0 ≤ a1)) && (decide (x19 = a1))) (B ((!x9.2) || (decide ((a2.size : Int) < (x9.1.size : Int)))))))) rfl (e_ (gv (((decide (0 ≤ a1)) && (decide (x19 = a1))) && (!((!x9.2) || (decide ((a2.size : Int) < (x9.1.size : Int)))))) (B ((decide ((a2.size : Int) = (x9.1.size : Int))) && (zel a2 x9.1)))))) ?_
 refine Q2 (B (((decide (0 ≤ a1)) && (decide (x19 = a1))) && (((!x9.2) || (decide ((a2.size : Int) < (x9.1.size : Int)))) || ((decide ((a2.size : Int) = (x9.1.size : Int))) && (zel a2 x9.1))))) (vt (e_ (B ((decide (0 ≤ a1)) && (decide (x19 = a1))))) (e_ (gv ((decide (0 ≤ a1)) && (decide (x19 = a1))) (B (((!x9.2) || (decide ((a2.size : Int) < (x9.1.size : Int)))) || ((decide ((a2.size : Int) = (x9.1.size : Int))) && (zel a2 x9.1)))))) rfl) ?_
 refine QF.nil ?_
 refine hK17 _ _ ?_
 refine A3 7 f7 8 f8 77 (e_ (B (((decide (0 ≤ a1)) && (decide (x19 = a1))) && (((!x9.2) || (decide ((a2.size : Int) < (x9.1.size : Int)))) || ((decide ((a2.size : Int) = (x9.1.size : Int))) && (zel a2 x9.1)))))) fun F f7 f8 f77 => ?_
 rcases cz h0 with ⟨hb20, h0⟩ | ⟨hb20, h0⟩
 refine PC.condTb f77 hb20 ?_
 refine SR fun K21 hK21 => ?_
 refine Q1 _ (jf (e_ (B false))) ?_
 refine PL.nil (hK21 _ _ ?_)
 refine A1 6 (e_ (B false)) fun F f6 => ?_
 refine PC.ret ?_
 have h0 := pz h0
 subst h0
 exact fin (.inr rfl) (j9 Try.results4 f6) (.u _)
 refine PC.condFb f77 hb20 ?_
 refine PC.skip ?_
 refine hK16 _ _ ?_
 refine A2 7 f7 8 f8 fun F f7 f8 => ?_
 refine SR fun K22 hK22 => ?_
 refine Q1 _ (jb f8) ?_
 refine Q1 _ (jb (e_ (B x9.2))) ?_
 refine GF (S x9.1) rfl (e_ (B x9.2)) (fun hb => jb f7) ?_
 refine GF (B (x9.1.toList == (⟨#[]⟩ : ByteArray).toList)) rfl (e_ (B x9.2)) (fun hb => jh rfl (gvp hb (e_ (gv (!x9.2) (S x9.1)))) (e_ (S (⟨#[]⟩ : ByteArray))) (zef _ _)) ?_
 refine Q1 (B (x9.2 || (x9.1.toList == (⟨#[]⟩ : ByteArray).toList))) (yf (e_ (B x9.2)) rfl (e_ (gv (!x9.2) (B (x9.1.toList == (⟨#[]⟩ : ByteArray).toList))))) ?_
 refine Q1 _ (jb (e_ (B (x9.2 || (x9.1.toList == (⟨#[]⟩ : ByteArray).toList))))) ?_
 obtain ⟨x23, hx23, h0⟩ := bs h0
 refine GTq (B x23) rfl (e_ (B (x9.2 || (x9.1.toList == (⟨#[]⟩ : ByteArray).toList)))) (fun hb => j0 (by kernel_rfl) (am0) (j2) (za0 (G.cond_pos hx23 hb))) ?_
 refine Q1 (B ((x9.2 || (x9.1.toList == (⟨#[]⟩ : ByteArray).toList)) && x23)) (vt (e_ (B (x9.2 || (x9.1.toList == (⟨#[]⟩ : ByteArray).toList)))) (e_ (gv (x9.2 || (x9.1.toList == (⟨#[]⟩ : ByteArray).toList)) (B x23))) rfl) ?_
 refine Q1 _ (jf (e_ (B ((x9.2 || (x9.1.toList == (⟨#[]⟩ : ByteArray).toList)) && x23)))) ?_
 refine PL.nil (hK22 _ _ ?_)
 refine A1 6 (e_ (B ((x9.2 || (x9.1.toList == (⟨#[]⟩ : ByteArray).toList)) && x23))) fun F f6 => ?_
 refine PC.ret ?_
 have h0 := pz h0
 subst h0
 exact fin (.inr rfl) (j9 Try.results4 f6) (.u _)
end Go.Proofs.Ytpohfkgjghiofaa

namespace Go.Proofs.Ytpohfkgjghiofaa
open Go Go.RowKit L
set_option linter.unusedVariables false
set_option linter.unusedSimpArgs false
def ziq (l : List Int) : Prop := ∀ x ∈ l, 0 ≤ x ∧ x < 256
theorem zch {x : Int} (h0 : -9223372036854775808 ≤ x) (h1 : x ≤ 9223372036854775807) : w64 x = x := zg6 h0 h1
theorem zf3 (a : Arr 256 Int) (ha : ziq a.1) : Tot (Qo a) (· = Jw 0 a.1) := by
  unfold Qo
  refine Tot.bind ?_
  refine Tot.forC (fun s => s.2) 256 (fun k s => s.2 = (k : Int) ∧ 0 ≤ s.1 ∧ s.1 ≤ (k : Int) ∧ Jw 0 a.1 = Jw s.1 (a.1.drop k)) (fun k s h => h.1) ?_ ?_ ⟨rfl, by decide, by decide, by simp⟩
  · rintro k ⟨n, i⟩ hk ⟨h1, h2, h3, h4⟩
    simp only at h1 h2 h3 h4 ⊢
    subst h1
    have hkl : k < a.1.length := by rw [a.2]; exact hk
    have hb := ha _ (List.getElem_mem hkl)
    have hd : a.1.drop k = a.1[k] :: a.1.drop (k + 1) := List.drop_eq_getElem_cons hkl
    have hix : idx a.1 (k : Int) = some a.1[k] := zah (List.getElem?_eq_getElem hkl)
    have hw : w64 a.1[k] = a.1[k] := zch (by omega) (by omega)
    have hwn : w64 (n + 1) = n + 1 := zch (by omega) (by omega)
    have hwk : w64 ((k : Int) + 1) = ((k + 1 : Nat) : Int) := Jl (by omega)
    rw [hd] at h4
    simp only [Jw] at h4
    have hdec : decide ((k : Int) < 256) = true := by simp; omega
    rw [hdec, G.ct]
    refine Tot.bindE (a := if n < a.1[k] then Sum.inr false else Sum.inl (if a.1[k] = n then n + 1 else n)) ?_ ?_
    · refine Tot.bind (Tot.lift hix ?_)
      rw [hw]
      refine Tot.cond (fun hb1 => Tot.pure ?_) fun hb1 => ?_
      · simp only [decide_eq_true_eq] at hb1; rw [if_pos hb1]
      · simp only [decide_eq_false_iff_not] at hb1
        rw [if_neg hb1]
        refine Tot.bind (Tot.lift hix ?_)
        rw [hw]
        refine Tot.cond (fun hb2 => Tot.pure ?_) fun hb2 => Tot.pure ?_
        · simp only [decide_eq_true_eq] at hb2; rw [if_pos hb2, hwn]
        · simp only [decide_eq_false_iff_not] at hb2; rw [if_neg hb2]
    · by_cases hlt : n < a.1[k]
      · rw [if_pos hlt] at h4 ⊢
        exact Tot.pure (Tot.pure h4.symm)
      · rw [if_neg hlt] at h4 ⊢
        refine Tot.pure ⟨hwk, ?_, ?_, h4⟩
        · split <;> omega
        · split <;> omega
  · rintro ⟨n, i⟩ ⟨h1, h2, h3, h4⟩
    simp only at h1 h2 h3 h4 ⊢
    subst h1
    refine Tot.pure (Tot.pure ?_)
    rw [h4, List.drop_of_length_le (by rw [a.2]; exact Nat.le_refl _)]; rfl
end Go.Proofs.Ytpohfkgjghiofaa

namespace Go.Proofs.Ytpohfkgjghiofaa
open Go Go.RowKit L
set_option linter.unusedVariables false
set_option linter.unusedSimpArgs false
theorem zoe : ((List.range 256).all fun b => Y4 (arZ 4 0) (b : Int) 0 == some false) = true := by kernel_rfl
theorem zl6 {b : Nat} (hb : b < 256) : Tot (Y4 (arZ 4 0) (b : Int)) (· = false) := ⟨false, 0, fun n _ => by
  have := List.all_eq_true.1 zoe b (List.mem_range.2 hb)
  exact beq_iff_eq.1 this, rfl⟩
def Yg (x : Int) : List Int → Option Nat
  | [] => none
  | y :: ys => if y = x then some 0 else (Yg x ys).map (· + 1)
def zbj (m : List Int) : List Int → List Int
  | [] => []
  | x :: xs => match Yg x m with
    | some j => (j : Int) :: zbj m xs
    | none => (m.length : Int) :: zbj (m ++ [x]) xs
def Yj : Nat → List Int → List (jk × Int)
  | _, [] => []
  | j, c :: cs => (⟨c, false⟩, (j : Int)) :: Yj (j + 1) cs
theorem zdw : ∀ (j : Nat) (m : List Int), (Yj j m).length = m.length
  | _, [] => rfl
  | j, c :: cs => by simp [Yj, zdw (j + 1) cs]
theorem zd1 : ∀ (j : Nat) (m : List Int) (c : Int), Yj j (m ++ [c]) = Yj j m ++ [(⟨c, false⟩, ((j + m.length : Nat) : Int))]
  | _, [], _ => rfl
  | j, d :: cs, c => by
    simp only [List.cons_append, Yj, zd1 (j + 1) cs c, List.length_cons]
    rw [show j + 1 + cs.length = j + (cs.length + 1) by omega]
theorem zc4 (x : Int) : ∀ (j i : Nat) (m : List Int), Zj (fun a b => (jz a b).all id) (⟨x, false⟩ : jk) (Yj j m) i = (Yg x m).map fun p => (i + p, ((j + p : Nat) : Int))
  | _, _, [] => rfl
  | j, i, c :: cs => by
    simp only [Yj, Zj, Yg]
    have e : ((jz ⟨x, false⟩ ⟨c, false⟩).all id) = decide (x = c) := by
      simp [jz, BEq.beq]
    rw [e]
    by_cases h : c = x
    · subst h; simp
    · have h2 : ¬ x = c := fun e => h e.symm
      simp only [h, h2, decide_false, if_false, zc4 x (j + 1) (i + 1) cs]
      cases Yg x cs with
      | none => rfl
      | some p => simp; omega
theorem zep {x : Int} : ∀ {m : List Int}, Yg x m = none → Yg x (m ++ [x]) = some m.length
  | [], _ => by simp [Yg]
  | c :: cs, h => by
    simp only [Yg] at h
    split at h
    · cases h
    · rename_i hc
      have h2 : Yg x cs = none := by cases hp : Yg x cs <;> simp [hp] at h ⊢
      simp only [List.cons_append, Yg, if_neg hc, zep h2, Option.map_some, List.length_cons]
theorem zee (x : Int) (m : List Int) : Qe (fun a b => (jz a b).all id) (Yj 0 m) (⟨x, false⟩ : jk) = (Yg x m).map fun p => (p : Int) := by
  unfold Qe
  rw [zc4 x 0 0 m]
  cases Yg x m with
  | none => rfl
  | some p => simp
theorem zme (a : Arr 256 Int) : Tot (Q6 a (arZ 4 0)) (fun r => r.1 = zbj [] a.1) := by
  unfold Q6
  refine Tot.bind ?_
  refine Tot.forC (fun s => s.1) 256 (fun k s => s.1 = (k : Int) ∧ ∃ m done, s.2.2 = Yj 0 m ∧ m.length ≤ k ∧ s.2.1.1 = done ++ a.1.drop k ∧ done.length = k ∧ done ++ zbj m (a.1.drop k) = zbj [] a.1) (fun k s h => h.1) ?_ ?_ ⟨rfl, [], [], rfl, Nat.le_refl _, by simp, rfl, by simp⟩
  · rintro k ⟨i, b, mp⟩ hk ⟨h1, m, done, h2, h3, h4, h5, h6⟩
    simp only at h1 h2 h4 ⊢
    subst h1; subst h2
    have hkl : k < a.1.length := by rw [a.2]; exact hk
    have hd : a.1.drop k = a.1[k] :: a.1.drop (k + 1) := List.drop_eq_getElem_cons hkl
    rw [hd] at h4 h6
    have hix : idx b.1 (k : Int) = some a.1[k] := zah (by rw [h4, List.getElem?_append_right (by omega)]; simp [h5])
    have hwk : w64 ((k : Int) + 1) = ((k + 1 : Nat) : Int) := Jl (by omega)
    have hu : IntKind.u8.wrap (k : Int) = (k : Int) := by
      unfold IntKind.wrap; simp [IntKind.signed, IntKind.bits]; omega
    have hdec : decide ((k : Int) < 256) = true := by simp; omega
    rw [hdec, G.ct]
    refine Tot.bind (Tot.lift hix ?_)
    rw [hu]
    refine Tot.bindE (zl6 hk) ?_
    have hset : ∀ v : Int, (arS b (k : Int) v).1 = (done ++ [v]) ++ a.1.drop (k + 1) := fun v => by
      show b.1.set (k : Int).toNat v = _
      rw [h4, Int.toNat_natCast, List.set_append_right _ _ (by omega), h5, Nat.sub_self, List.append_assoc]
      rfl
    rw [zee]
    cases hp : Yg a.1[k] m with
    | some p =>
      simp only [zbj, hp] at h6
      refine Tot.bind (Tot.pure ?_)
      refine Tot.bind (Tot.lift hix ?_)
      refine Tot.pure ⟨hwk, m, done ++ [(p : Int)], rfl, by omega, ?_, by simp [h5], by simpa using h6⟩
      show (arS b (k : Int) _).1 = _
      rw [hset, zee, hp]; rfl
    | none =>
      simp only [zbj, hp] at h6
      refine Tot.bind (Tot.pure ?_)
      refine Tot.bind (Tot.lift hix ?_)
      have hl : IntKind.u8.wrap ((Yj 0 m).length : Int) = (m.length : Int) := by
        rw [zdw]
        unfold IntKind.wrap; simp [IntKind.signed, IntKind.bits]; omega
      have hput : zh1 (fun a b => (jz a b).all id) (Yj 0 m) (⟨a.1[k], false⟩ : jk) (IntKind.u8.wrap ((Yj 0 m).length : Int)) = Yj 0 (m ++ [a.1[k]]) := by
        unfold zh1
        rw [zc4, hp, hl, zd1]
        simp
      refine Tot.pure ⟨hwk, m ++ [a.1[k]], done ++ [(m.length : Int)], hput, by simp; omega, ?_, by simp [h5], by simpa using h6⟩
      show (arS b (k : Int) _).1 = _
      rw [hset]
      have : Qe (fun a b => (jz a b).all id) (zh1 (fun a b => (jz a b).all id) (Yj 0 m) (⟨a.1[k], false⟩ : jk) (IntKind.u8.wrap ((Yj 0 m).length : Int))) (⟨a.1[k], false⟩ : jk) = some (m.length : Int) := by
        rw [hput, zee, zep hp]; rfl
      rw [this]; rfl
  · rintro ⟨i, b, mp⟩ ⟨h1, m, done, h2, h3, h4, h5, h6⟩
    simp only at h1 h2 h4 ⊢
    subst h1
    have hd : a.1.drop 256 = [] := List.drop_of_length_le (by rw [a.2]; exact Nat.le_refl _)
    rw [hd] at h4 h6
    refine Tot.pure (Tot.pure ?_)
    rw [h4, ← h6]; simp [zbj]
def zis (n : Nat) : List Int := (List.range n).map fun (i : Nat) => (i : Int)
theorem zif (n : Nat) : zis (n + 1) = zis n ++ [(n : Int)] := by simp [zis, List.range_succ]
theorem zid (x : Int) (hx : 0 ≤ x) : ∀ n : Nat, Yg x (zis n) = if x < n then some x.toNat else none
  | 0 => by
    have : ¬ x < ((0 : Nat) : Int) := by omega
    rw [if_neg this]; rfl
  | n + 1 => by
    rw [zif]
    have ih := zid x hx n
    by_cases h : x < (n : Int)
    · rw [if_pos h] at ih
      rw [if_pos (by omega)]
      have key : ∀ (m : List Int) (p : Nat) (c : Int), Yg x m = some p → Yg x (m ++ [c]) = some p := by
        intro m
        induction m with
        | nil => intro p c h; cases h
        | cons d m ihm =>
          intro p c h
          simp only [Yg, List.cons_append] at h ⊢
          split at h
          · rename_i hd; rw [if_pos hd]; exact h
          · rename_i hd
            rw [if_neg hd]
            obtain ⟨q, hq, rfl⟩ := Option.map_eq_some_iff.1 h
            rw [ihm q c hq]; rfl
      exact key _ _ _ ih
    · rw [if_neg h] at ih
      by_cases h2 : x = (n : Int)
      · subst h2
        rw [zep ih, if_pos (by omega)]
        simp [zis]
      · have h3 : ¬ x < ((n + 1 : Nat) : Int) := by omega
        rw [if_neg h3]
        have key : ∀ (m : List Int) (c : Int), Yg x m = none → ¬ c = x → Yg x (m ++ [c]) = none := by
          intro m
          induction m with
          | nil => intro c _ hc; simp [Yg, hc]
          | cons d m ihm =>
            intro c h hc
            simp only [Yg, List.cons_append] at h ⊢
            split at h
            · cases h
            · rename_i hd
              rw [if_neg hd]
              have : Yg x m = none := by cases hq : Yg x m <;> simp [hq] at h ⊢
              rw [ihm c this hc]; rfl
        exact key _ _ ih (fun e => h2 e.symm)
theorem zbo : ∀ (l : List Int) (n : Nat), (∀ x ∈ l, 0 ≤ x) → (zbj (zis n) l = l ↔ Jw n l = true)
  | [], n, _ => by simp [zbj, Jw]
  | x :: xs, n, h => by
    have hx := h x (by simp)
    have hxs : ∀ y ∈ xs, 0 ≤ y := fun y hy => h y (by simp [hy])
    simp only [zbj, Jw, zid x hx n]
    by_cases h1 : x < (n : Int)
    · rw [if_pos h1, if_neg (by omega), if_neg (by omega)]
      have ih := zbo xs n hxs
      simp only [List.cons.injEq]
      have : ((x.toNat : Nat) : Int) = x := by omega
      rw [ih]; simp [this]
    · rw [if_neg h1]
      have hlen : (zis n).length = n := by simp [zis]
      simp only [List.cons.injEq, hlen]
      by_cases h2 : x = (n : Int)
      · subst h2
        have ih := zbo xs (n + 1) hxs
        rw [zif] at ih
        rw [if_neg (by omega), if_pos rfl, ih]
        simp
      · rw [if_pos (by omega)]
        constructor
        · rintro ⟨e, _⟩; exact absurd e.symm h2
        · intro e; cases e
theorem zhy (a : Arr 256 Int) (ha : ziq a.1) : Tot (Q5 a) (· = Jw 0 a.1) := by
  unfold Q5
  refine Tot.bind ((zme a).mono fun r hr => Tot.pure ?_)
  have h := zbo a.1 0 (fun x hx => (ha x hx).1)
  rw [show zis 0 = [] from rfl, ← hr] at h
  rw [Bool.eq_iff_iff, beq_iff_eq]
  exact h
end Go.Proofs.Ytpohfkgjghiofaa

namespace Go.Proofs.Ytpohfkgjghiofaa
open Go Go.RowKit L
set_option linter.unusedVariables false
set_option linter.unusedSimpArgs false
def Y6 (l : List Int) : Int := l.foldl (fun n c => max n (c + 1)) 0
theorem zlf (a : Arr 256 Int) : Vb a = Jp a := rfl
theorem zic (a : Arr 256 Int) (ha : ziq a.1) : Tot (Jp a) (· = Y6 a.1) := by
  unfold Jp
  refine Tot.bind ?_
  refine Tot.forC (fun s => s.2) 256 (fun k s => s.2 = (k : Int) ∧ 0 ≤ s.1 ∧ s.1 ≤ 256 ∧ (a.1.drop k).foldl (fun n c => max n (c + 1)) s.1 = Y6 a.1) (fun k s h => h.1) ?_ ?_ ⟨rfl, by decide, by decide, by simp [Y6]⟩
  · rintro k ⟨n, i⟩ hk ⟨h1, h2, h3, h4⟩
    simp only at h1 h2 h3 h4 ⊢
    subst h1
    have hkl : k < a.1.length := by rw [a.2]; exact hk
    have hb := ha _ (List.getElem_mem hkl)
    have hd : a.1.drop k = a.1[k] :: a.1.drop (k + 1) := List.drop_eq_getElem_cons hkl
    have hix : idx a.1 (k : Int) = some a.1[k] := zah (List.getElem?_eq_getElem hkl)
    have hw : w64 a.1[k] = a.1[k] := zch (by omega) (by omega)
    have hw1 : w64 (a.1[k] + 1) = a.1[k] + 1 := zch (by omega) (by omega)
    have hwk : w64 ((k : Int) + 1) = ((k + 1 : Nat) : Int) := Jl (by omega)
    rw [hd, List.foldl_cons] at h4
    have hdec : decide ((k : Int) < 256) = true := by simp; omega
    rw [hdec, G.ct]
    refine Tot.bind (Tot.lift hix (Tot.pure ?_))
    rw [hw, hw1]
    exact ⟨hwk, by omega, by omega, h4⟩
  · rintro ⟨n, i⟩ ⟨h1, h2, h3, h4⟩
    simp only at h1 h2 h3 h4 ⊢
    subst h1
    refine Tot.pure (Tot.pure ?_)
    rw [← h4, List.drop_of_length_le (by rw [a.2]; exact Nat.le_refl _)]; rfl
theorem zho (a : Arr 256 Int) (ha : ziq a.1) : Tot (Vb a) (· = Y6 a.1) := zlf a ▸ zic a ha
end Go.Proofs.Ytpohfkgjghiofaa

namespace Go.Proofs.Ytpohfkgjghiofaa
open Go Go.RowKit L
set_option linter.unusedVariables false
set_option linter.unusedSimpArgs false
def zh0 (n : Int) (row : List Int) : Bool := row.all fun c => !(decide (c < -1) || decide (n ≤ c))
theorem zk8 (row : List Int) (n : Int) (b0 : Bool) (hl : row.length ≤ 9223372036854775807) :
    Tot (G.loop (σ := (Bool × Int)) (α := Bool ⊕ Bool) (fun (x39, x40) => G.cond (decide (x40 < (row.length : Int))) (G.bind (G.lift (idx row x40)) fun x51 => G.cond ((decide (x51 < (-1))) || (decide (n ≤ x51))) (G.pure (.inr (.inl false))) (G.pure (.inl (x39, (w64 (x40 + 1)))))) (G.pure (.inr (.inr x39)))) (b0, 0)) (· = if zh0 n row then .inr b0 else .inl false) := by
  refine Tot.forC (fun s => s.2) row.length (fun k s => s.2 = (k : Int) ∧ s.1 = b0 ∧ zh0 n row = zh0 n (row.drop k)) (fun k s h => h.1) ?_ ?_ ⟨rfl, rfl, by simp⟩
  · rintro k ⟨b, i⟩ hk ⟨h1, h2, h3⟩
    simp only at h1 h2 h3 ⊢
    subst h1; subst h2
    have hd : row.drop k = row[k] :: row.drop (k + 1) := List.drop_eq_getElem_cons hk
    have hix : idx row (k : Int) = some row[k] := zah (List.getElem?_eq_getElem hk)
    have hwk : w64 ((k : Int) + 1) = ((k + 1 : Nat) : Int) := Jl (by omega)
    have hdec : decide ((k : Int) < (row.length : Int)) = true := by simp; omega
    rw [hd] at h3
    have h4 : zh0 n (row[k] :: row.drop (k + 1)) = (!(decide (row[k] < -1) || decide (n ≤ row[k])) && zh0 n (row.drop (k + 1))) := rfl
    rw [h4] at h3
    rw [hdec, G.ct]
    refine Tot.bind (Tot.lift hix ?_)
    refine Tot.cond (fun hb => Tot.pure ?_) fun hb => Tot.pure ?_
    · rw [hb] at h3
      simp only [Bool.not_true, Bool.false_and] at h3
      rw [h3]; rfl
    · rw [hb] at h3
      exact ⟨hwk, rfl, by simpa using h3⟩
  · rintro ⟨b, i⟩ ⟨h1, h2, h3⟩
    simp only at h1 h2 h3 ⊢
    subst h1; subst h2
    have hdec : decide ((row.length : Int) < (row.length : Int)) = false := by simp
    rw [hdec]
    have h5 : zh0 n row = true := by rw [h3, List.drop_length]; rfl
    refine Tot.pure ?_
    rw [h5]; rfl
end Go.Proofs.Ytpohfkgjghiofaa

namespace Go.Proofs.Ytpohfkgjghiofaa
open Go Go.RowKit L
set_option linter.unusedVariables false
set_option linter.unusedSimpArgs false
def zcx (n w : Int) : List (List Int) → List Int → Bool
  | [], _ => true
  | r :: rs, t :: ts => !(decide (¬ (r.length : Int) = w) || decide (t < -1)) && zh0 n r && zcx n w rs ts
  | _ :: _, [] => false
def z1 (d : jd) : Bool := !(decide ((d.je.length : Int) = 0) || decide (¬ (d.jl.length : Int) = (d.je.length : Int))) && Jw 0 d.jp.1 && decide (Y6 d.jp.1 = d.ji) && zcx d.je.length d.ji d.je d.jl
structure DOk (d : jd) : Prop where
  cls : ziq d.jp.1
  next : d.je.length ≤ 9223372036854775807
  rows : ∀ r ∈ d.je, r.length ≤ 9223372036854775807
theorem zjc (d : jd) (hd : DOk d) : Tot (Ji d) (· = z1 d) := by
  unfold Ji
  by_cases hA : ((decide ((d.je.length : Int) = 0)) || (decide (¬ (d.jl.length : Int) = (d.je.length : Int)))) = true
  · have hR : z1 d = false := by unfold z1; rw [hA]; rfl
    rw [hA, hR]
    exact Tot.pure rfl
  · simp only [Bool.not_eq_true] at hA
    have hlen : d.jl.length = d.je.length := by
      rw [Bool.or_eq_false_iff] at hA
      have := hA.2
      simp at this
      omega
    rw [hA]
    refine Tot.bindE (zhy d.jp hd.cls) ?_
    by_cases hB : Jw 0 d.jp.1 = true
    · rw [hB]
      refine Tot.bindE (zho d.jp hd.cls) ?_
      by_cases hC : Y6 d.jp.1 = d.ji
      · have hR : z1 d = zcx d.je.length d.ji d.je d.jl := by unfold z1; rw [hA, hB, hC]; simp
        rw [hR, hC]
        refine Tot.cond (fun h => by simp at h) fun _ => ?_
        refine Tot.bind (Tot.bind ?_)
        refine Tot.forC (fun s => s.2) d.je.length (fun k s => s.2 = (k : Int) ∧ s.1 = true ∧ zcx d.je.length d.ji d.je d.jl = zcx d.je.length d.ji (d.je.drop k) (d.jl.drop k)) (fun k s h => h.1) ?_ ?_ ⟨rfl, rfl, by simp⟩
        · rintro k ⟨b, i⟩ hk ⟨h1, h2, h3⟩
          simp only at h1 h2 h3 ⊢
          subst h1; subst h2
          have hkl : k < d.jl.length := by omega
          have e1 : d.je.drop k = d.je[k] :: d.je.drop (k + 1) := List.drop_eq_getElem_cons hk
          have e2 : d.jl.drop k = d.jl[k] :: d.jl.drop (k + 1) := List.drop_eq_getElem_cons hkl
          have hix : idx d.je (k : Int) = some d.je[k] := zah (List.getElem?_eq_getElem hk)
          have hil : idx d.jl (k : Int) = some d.jl[k] := zah (List.getElem?_eq_getElem hkl)
          have hwk : w64 ((k : Int) + 1) = ((k + 1 : Nat) : Int) := Jl (by have := hd.next; omega)
          have hdec : decide ((k : Int) < (d.je.length : Int)) = true := by simp; omega
          rw [e1, e2] at h3
          simp only [zcx] at h3
          rw [hdec, G.ct]
          refine Tot.bind (Tot.lift hix ?_)
          by_cases hw : ((d.je[k]).length : Int) = d.ji
          · have hw2 : decide (¬ ((d.je[k]).length : Int) = d.ji) = false := by simp [hw]
            simp only [hw2, Bool.not_false, Bool.false_or] at h3 ⊢
            refine Tot.bind (Tot.lift hil ?_)
            refine Tot.cond (fun hb => Tot.pure (Tot.pure (Tot.pure ?_))) fun hb => ?_
            · rw [hb] at h3; rw [h3]; rfl
            · rw [hb] at h3
              refine Tot.bindE (zk8 d.je[k] d.je.length true (hd.rows _ (List.getElem_mem hk))) ?_
              by_cases hr : zh0 d.je.length d.je[k] = true
              · rw [hr] at h3 ⊢
                exact Tot.pure ⟨hwk, rfl, by simpa using h3⟩
              · simp only [Bool.not_eq_true] at hr
                rw [hr] at h3 ⊢
                refine Tot.pure (Tot.pure (Tot.pure ?_))
                rw [h3]; rfl
          · have hw2 : decide (¬ ((d.je[k]).length : Int) = d.ji) = true := by simp [hw]
            simp only [hw2, Bool.not_true, Bool.true_or] at h3 ⊢
            refine Tot.bind (Tot.pure (Tot.pure (Tot.pure (Tot.pure ?_))))
            rw [h3]; rfl
        · rintro ⟨b, i⟩ ⟨h1, h2, h3⟩
          simp only at h1 h2 h3 ⊢
          subst h1; subst h2
          have hdec : decide ((d.je.length : Int) < (d.je.length : Int)) = false := by simp
          rw [hdec]
          refine Tot.pure (Tot.pure (Tot.pure ?_))
          rw [h3, List.drop_length]; rfl
      · have hR : z1 d = false := by unfold z1; simp [hC]
        rw [hR]
        refine Tot.cond (fun _ => Tot.pure rfl) fun h => ?_
        simp [hC] at h
    · simp only [Bool.not_eq_true] at hB
      have hR : z1 d = false := by unfold z1; rw [hB]; simp
      rw [hB, hR]
      exact Tot.pure rfl
end Go.Proofs.Ytpohfkgjghiofaa

namespace Go.Proofs.Ytpohfkgjghiofaa
open Go Go.RowKit L
set_option linter.unusedVariables false
set_option linter.unusedSimpArgs false
def onB (l : List Bool) (i : Nat) : Prop := l[i]? = some true
theorem zok {l : List Bool} {i j : Nat} (hi : i < l.length) : onB (l.set i true) j ↔ i = j ∨ onB l j := by
  unfold onB
  by_cases h : i = j
  · subst h; simp [List.getElem?_set_self hi]
  · rw [List.getElem?_set_ne h]; simp [h]
theorem zn4 {n i : Nat} : ¬ onB (List.replicate n false) i := by
  unfold onB
  intro h
  obtain ⟨h1, h2⟩ := List.getElem?_eq_some_iff.1 h
  simp at h2
def zbd (l : List Bool) : Nat := l.count false
theorem zh8 (b : Bool) (l : List Bool) : zbd (b :: l) = zbd l + (if b then 0 else 1) := by
  unfold zbd; cases b <;> simp
theorem zjo : ∀ {l : List Bool} {i : Nat}, l[i]? = some false → zbd (l.set i true) + 1 = zbd l
  | [], i, h => by simp at h
  | b :: l, 0, h => by
    simp at h; subst h
    simp [zh8]
  | b :: l, i + 1, h => by
    simp only [List.getElem?_cons_succ] at h
    have := zjo h
    simp only [List.set_cons_succ, zh8]; omega
end Go.Proofs.Ytpohfkgjghiofaa

namespace Go.Proofs.Ytpohfkgjghiofaa
open Go Go.RowKit L
set_option linter.unusedVariables false
set_option linter.unusedSimpArgs false
def at' {α : Type} [Inhabited α] (l : List α) (z : Int) : α := l.getD z.toNat default
theorem Y7 {α : Type} [Inhabited α] {l : List α} {k : Nat} (h : k < l.length) : at' l (k : Int) = l[k] := by
  unfold at'; simp [h]
theorem at_get {α : Type} [Inhabited α] {l : List α} {k : Nat} {x : α} (h : l[k]? = some x) : at' l (k : Int) = x := by
  unfold at'; simp [h]
theorem idx_at {α : Type} [Inhabited α] {l : List α} {z : Int} (h0 : 0 ≤ z) (h1 : z < l.length) : idx l z = some (at' l z) := by
  obtain ⟨k, rfl⟩ := Int.eq_ofNat_of_zero_le h0
  have hk : k < l.length := by omega
  rw [Y7 hk]; exact zah (List.getElem?_eq_getElem hk)
theorem zm1 {α : Type} [Inhabited α] {l : List α} {z : Int} (h0 : 0 ≤ z) (h1 : z < l.length) : at' l z ∈ l := by
  obtain ⟨k, rfl⟩ := Int.eq_ofNat_of_zero_le h0
  have hk : k < l.length := by omega
  rw [Y7 hk]; exact List.getElem_mem hk
theorem zn3 {α : Type} [Inhabited α] {l : List α} {z : Int} {v : α} (h0 : 0 ≤ z) (h1 : z < l.length) : at' (l.set z.toNat v) z = v := by
  unfold at'; simp [show z.toNat < l.length by omega]
theorem at_ne {α : Type} [Inhabited α] {l : List α} {z y : Int} {v : α} (h0 : 0 ≤ z) (hy : 0 ≤ y) (h : z ≠ y) : at' (l.set z.toNat v) y = at' l y := by
  unfold at'; simp only [List.getD_eq_getElem?_getD]; rw [List.getElem?_set_ne (by omega)]
theorem zoi {l : List Bool} {k : Nat} : at' l (k : Int) = true ↔ onB l k := by
  unfold at' onB
  simp only [Int.toNat_natCast, List.getD_eq_getElem?_getD]
  cases h : l[k]? with
  | none => simp
  | some b => simp
theorem zj6 {l : List Bool} {z : Int} (h0 : 0 ≤ z) : at' l z = true ↔ onB l z.toNat := by
  obtain ⟨k, rfl⟩ := Int.eq_ofNat_of_zero_le h0
  exact zoi
theorem j6 {p : Prop} [Decidable p] (h : p) : decide p = true := decide_eq_true h
theorem j5 {p : Prop} [Decidable p] (h : ¬p) : decide p = false := decide_eq_false h
section
variable {α β γ : Type} {Q : γ → Prop}
theorem Tot.idx [Inhabited α] {l : List α} {z : Int} {f : α → G γ} (h0 : 0 ≤ z) (h1 : z < l.length) (h : Tot (f (at' l z)) Q) : Tot (G.bind (G.lift (L.idx l z)) f) Q := .bind (.lift (idx_at h0 h1) h)
theorem Tot.someB {o : Option α} {a : α} {f : α → G γ} (h : o = some a) (h2 : Tot (f a) Q) : Tot (G.bind (G.lift o) f) Q := .bind (.lift h h2)
theorem Tot.apnd {b : Nat} {xs ys : List α} {f : List α → G γ} (h1 : (xs.length + ys.length) * b ≤ 140737488355328) (h2 : xs.length + ys.length ≤ 140737488355328) (h : Tot (f (xs ++ ys)) Q) : Tot (G.bind (G.lift (app b xs ys)) f) Q := Tot.someB (app_of h1 h2) h
theorem Tot.mk {b : Nat} {z : α} {n : Int} {f : List α → G γ} (h0 : 0 ≤ n) (h1 : b * n.toNat ≤ 281474976710656) (h2 : n.toNat ≤ 281474976710656) (h : Tot (f (List.replicate n.toNat z)) Q) : Tot (G.bind (G.lift (mkS b z n)) f) Q := by
  obtain ⟨k, rfl⟩ := Int.eq_ofNat_of_zero_le h0
  exact Tot.someB (mkS_of (by simpa using h1) (by simpa using h2)) h
theorem Tot.bp {a : α} {f : α → G γ} (h : Tot (f a) Q) : Tot (G.bind (G.pure a) f) Q := h
theorem G.bb {m : G α} {f : α → G β} {g : β → G γ} : G.bind (G.bind m f) g = G.bind m fun a => G.bind (f a) g := by
  funext n
  unfold G.bind
  cases m n <;> rfl
theorem Tot.bb {m : G α} {f : α → G β} {g : β → G γ} (h : Tot (G.bind m fun a => G.bind (f a) g) Q) : Tot (G.bind (G.bind m f) g) Q := by rw [G.bb]; exact h
theorem Tot.bc {b : Bool} {x y : G α} {f : α → G γ} (h : Tot (G.cond b (G.bind x f) (G.bind y f)) Q) : Tot (G.bind (G.cond b x y) f) Q := by
  cases b <;> exact h
theorem Tot.ct {b : Bool} {x y : G γ} (hb : b = true) (h : Tot x Q) : Tot (G.cond b x y) Q := by subst hb; exact h
theorem Tot.cf {b : Bool} {x y : G γ} (hb : b = false) (h : Tot y Q) : Tot (G.cond b x y) Q := by subst hb; exact h
theorem Tot.rdx [Inhabited α] {l : List α} {z : Int} {f : α → G γ} (h : 0 ≤ z ∧ z < l.length) (h2 : Tot (f (at' l z)) Q) : Tot (G.bind (G.lift (L.idx l z)) f) Q := Tot.idx h.1 h.2 h2
theorem Tot.apx {b : Nat} {xs ys : List α} {f : List α → G γ} (h : (xs.length + ys.length) * b ≤ 140737488355328 ∧ xs.length + ys.length ≤ 140737488355328) (h2 : Tot (f (xs ++ ys)) Q) : Tot (G.bind (G.lift (app b xs ys)) f) Q := Tot.apnd h.1 h.2 h2
theorem Tot.mkx {b : Nat} {z : α} {n : Int} {f : List α → G γ} (h : 0 ≤ n ∧ b * n.toNat ≤ 281474976710656 ∧ n.toNat ≤ 281474976710656) (h2 : Tot (f (List.replicate n.toNat z)) Q) : Tot (G.bind (G.lift (mkS b z n)) f) Q := Tot.mk h.1 h.2.1 h.2.2 h2
theorem bl_ : ((!true) = false) ∧ ((!false) = true) ∧ (∀ b, (true && b) = b) ∧ (∀ b, (b && true) = b) ∧ (∀ b, (false && b) = false) ∧ (∀ b, (b && false) = false) ∧ (∀ b, (true || b) = true) ∧ (∀ b, (b || true) = true) ∧ (∀ b, (false || b) = b) ∧ (∀ b, (b || false) = b) ∧ (∀ (α : Type) (a : α) (l : List α), (a :: l).length = l.length + 1) ∧ (∀ (α : Type) (l m : List α), (l ++ m).length = l.length + m.length) ∧ (∀ (α : Type) (l : List α) (i : Nat) (a : α), (l.set i a).length = l.length) ∧ (∀ (α : Type), ([] : List α).length = 0) ∧ (∀ (α : Type) (n : Nat) (a : α), (List.replicate n a).length = n) ∧ (∀ (α β : Type) (f : α → β) (l : List α), (l.map f).length = l.length) ∧ (∀ n : Nat, (n : Int).toNat = n) := by
  refine ⟨rfl, rfl, ?_, ?_, ?_, ?_, ?_, ?_, ?_, ?_, ?_, ?_, ?_, ?_, ?_, ?_, ?_⟩ <;> intros <;> simp
theorem Tot.part {m : G α} {f : α → G γ} (R : α → Prop) (hm : Tot m R) (h : ∀ a, R a → Tot (f a) Q) : Tot (G.bind m f) Q := .bind (hm.mono h)
end
theorem zl1 {α : Type} {x : α} {l : List α} : zfp (x :: l) 1 ((x :: l).length : Int) = some l := by
  unfold zfp
  rw [if_pos ⟨by omega, by omega, by simp, by simp⟩]
  simp
theorem znn {α : Type} {x : α} {l : List α} : idx (x :: l) 0 = some x := rfl
end Go.Proofs.Ytpohfkgjghiofaa

namespace Go.Proofs.Ytpohfkgjghiofaa
open Go Go.RowKit L
set_option linter.unusedVariables false
set_option linter.unusedSimpArgs false
structure MOk (d : jd) : Prop where
  n0 : 0 < d.je.length
  lab : d.jl.length = d.je.length
  cls : Jw 0 d.jp.1 = true
  wid : Y6 d.jp.1 = d.ji
  row : ∀ i : Int, 0 ≤ i → i < d.je.length → ((at' d.je i).length : Int) = d.ji
  lb : ∀ i : Int, 0 ≤ i → i < d.je.length → -1 ≤ at' d.jl i
  nx : ∀ i c : Int, 0 ≤ i → i < d.je.length → 0 ≤ c → c < d.ji → -1 ≤ at' (at' d.je i) c ∧ at' (at' d.je i) c < d.je.length
theorem zin : ∀ (l : List Int) (n : Int), (∀ x ∈ l, 0 ≤ x ∧ x < 256) → 0 ≤ n → n ≤ 256 → n ≤ l.foldl (fun n c => max n (c + 1)) n ∧ l.foldl (fun n c => max n (c + 1)) n ≤ 256 ∧ ∀ x ∈ l, x < l.foldl (fun n c => max n (c + 1)) n
  | [], n, _, h0, h1 => ⟨Int.le_refl _, h1, fun x h => by cases h⟩
  | c :: cs, n, h, h0, h1 => by
    have hc := h c (by simp)
    obtain ⟨a, b, e⟩ := zin cs (max n (c + 1)) (fun x hx => h x (by simp [hx])) (by omega) (by omega)
    simp only [List.foldl_cons]
    refine ⟨by omega, b, fun x hx => ?_⟩
    rcases List.mem_cons.1 hx with rfl | hx
    · omega
    · exact e x hx
theorem zaf {l : List Int} (h : ziq l) : 0 ≤ Y6 l ∧ Y6 l ≤ 256 ∧ ∀ x ∈ l, x < Y6 l := by
  have := zin l 0 h (by decide) (by decide)
  exact this
theorem zek (n w : Int) : ∀ (rs : List (List Int)) (ts : List Int), ts.length = rs.length → (zcx n w rs ts = true ↔ ∀ k : Nat, k < rs.length → ((at' rs k).length : Int) = w ∧ -1 ≤ at' ts k ∧ ∀ c : Nat, c < (at' rs k).length → -1 ≤ at' (at' rs k) c ∧ at' (at' rs k) c < n)
  | [], _, _ => by simp [zcx]
  | r :: rs, [], h => by simp at h
  | r :: rs, t :: ts, h => by
    have ih := zek n w rs ts (by simpa using h)
    have e1 : ∀ k : Nat, at' (r :: rs) ((k + 1 : Nat) : Int) = at' rs (k : Int) := fun k => by unfold at'; simp
    have e2 : ∀ k : Nat, at' (t :: ts) ((k + 1 : Nat) : Int) = at' ts (k : Int) := fun k => by unfold at'; simp
    have e3 : at' (r :: rs) ((0 : Nat) : Int) = r := rfl
    have e4 : at' (t :: ts) ((0 : Nat) : Int) = t := rfl
    have hr : zh0 n r = true ↔ ∀ c : Nat, c < r.length → -1 ≤ at' r c ∧ at' r c < n := by
      unfold zh0
      rw [List.all_eq_true]
      constructor
      · intro h c hc
        have := h _ (List.getElem_mem hc)
        rw [Y7 hc]
        simp at this; omega
      · intro h x hx
        obtain ⟨c, hc, rfl⟩ := List.getElem_of_mem hx
        have := h c hc
        rw [Y7 hc] at this
        simp; omega
    simp only [zcx, Bool.and_eq_true, ih, hr]
    constructor
    · rintro ⟨⟨ha, hb⟩, hc⟩ k hk
      cases k with
      | zero => rw [e3, e4]; simp at ha; exact ⟨by omega, by omega, hb⟩
      | succ k => rw [e1, e2]; exact hc k (by simpa using hk)
    · intro hall
      have h0 := hall 0 (by simp)
      rw [e3, e4] at h0
      refine ⟨⟨by simp; omega, h0.2.2⟩, fun k hk => ?_⟩
      have := hall (k + 1) (by simpa using hk)
      rwa [e1, e2] at this
theorem Yx (d : jd) : z1 d = true ↔ MOk d := by
  unfold z1
  constructor
  · intro h
    simp only [Bool.and_eq_true, Bool.not_eq_true', Bool.or_eq_false_iff, decide_eq_false_iff_not, decide_eq_true_eq, Decidable.not_not] at h
    obtain ⟨⟨⟨⟨h1, h2⟩, h3⟩, h4⟩, h5⟩ := h
    have h6 := (zek _ _ _ _ (by omega)).1 h5
    refine ⟨by omega, by omega, h3, h4, ?_, ?_, ?_⟩
    · intro i h0 hi
      obtain ⟨k, rfl⟩ := Int.eq_ofNat_of_zero_le h0
      exact (h6 k (by omega)).1
    · intro i h0 hi
      obtain ⟨k, rfl⟩ := Int.eq_ofNat_of_zero_le h0
      exact (h6 k (by omega)).2.1
    · intro i c h0 hi hc0 hc
      obtain ⟨k, rfl⟩ := Int.eq_ofNat_of_zero_le h0
      obtain ⟨c, rfl⟩ := Int.eq_ofNat_of_zero_le hc0
      have := h6 k (by omega)
      exact this.2.2 c (by omega)
  · intro h
    have h5 : zcx d.je.length d.ji d.je d.jl = true := by
      refine (zek _ _ _ _ h.lab).2 fun k hk => ?_
      have h1 := h.row k (by omega) (by omega)
      have h2 := h.lb k (by omega) (by omega)
      exact ⟨h1, h2, fun c hc => h.nx k c (by omega) (by omega) (by omega) (by omega)⟩
    have := h.n0
    have := h.lab
    simp only [h5, h.cls, h.wid, Bool.and_true, decide_true, Bool.not_eq_true', Bool.or_eq_false_iff, decide_eq_false_iff_not, Decidable.not_not]
    omega
theorem zbh (d : jd) (hd : DOk d) : Tot (z2 d) (· = z1 d) := by
  have key : Tot (z2 d) (fun b => b = true ↔ MOk d) := by
    unfold z2
    refine Tot.bindE (zf3 d.jp hd.cls) ?_
    cases hB : Jw 0 d.jp.1
    · repeat (first | with_reducible (refine Tot.bp ?_) | with_reducible (refine Tot.bb ?_) | (refine Tot.ct ?_ ?_; focus (first | with_reducible rfl | (simp (disch := omega) only [j6, j5, bl_]; done))) | (refine Tot.cf ?_ ?_; focus (first | with_reducible rfl | (simp (disch := omega) only [j6, j5, bl_]; done))) | with_reducible (refine Tot.bc ?_) | ((first | refine Tot.rdx ?_ ?_ | refine Tot.apx ?_ ?_ | refine Tot.mkx ?_ ?_); focus (first | omega | (simp; done) | (simp; omega))))
      refine Tot.pure ?_
      simp; intro h; rw [h.cls] at hB; cases hB
    repeat (first | with_reducible (refine Tot.bp ?_) | with_reducible (refine Tot.bb ?_) | (refine Tot.ct ?_ ?_; focus (first | with_reducible rfl | (simp (disch := omega) only [j6, j5, bl_]; done))) | (refine Tot.cf ?_ ?_; focus (first | with_reducible rfl | (simp (disch := omega) only [j6, j5, bl_]; done))) | with_reducible (refine Tot.bc ?_) | ((first | refine Tot.rdx ?_ ?_ | refine Tot.apx ?_ ?_ | refine Tot.mkx ?_ ?_); focus (first | omega | (simp; done) | (simp; omega))))
    refine Tot.bindE (zic d.jp hd.cls) ?_
    refine Tot.cond (fun hb => Tot.pure ?_) fun hb => ?_
    · simp
      intro h
      have h1 := h.n0
      have h2 := h.lab
      have h3 := h.wid
      simp only [Bool.not_true, Bool.false_or, Bool.or_eq_true, decide_eq_true_eq] at hb
      omega
    simp only [Bool.not_true, Bool.false_or, Bool.or_eq_false_iff, decide_eq_false_iff_not, Decidable.not_not] at hb
    obtain ⟨⟨b1, b2⟩, b3⟩ := hb
    obtain ⟨w0, w1, _⟩ := zaf hd.cls
    have hn := hd.next
    refine Tot.bind ?_
    refine Tot.forC (fun s => s) d.je.length (fun k s => s = (k : Int) ∧ ∀ i : Int, 0 ≤ i → i < k → ((at' d.je i).length : Int) = d.ji ∧ -1 ≤ at' d.jl i ∧ ∀ c : Int, 0 ≤ c → c < d.ji → -1 ≤ at' (at' d.je i) c ∧ at' (at' d.je i) c < d.je.length) (fun k s h => h.1) ?_ ?_ ⟨rfl, fun i h0 h1 => by omega⟩
    · rintro k _ hk ⟨rfl, hI⟩
      repeat (first | with_reducible (refine Tot.bp ?_) | with_reducible (refine Tot.bb ?_) | (refine Tot.ct ?_ ?_; focus (first | with_reducible rfl | (simp (disch := omega) only [j6, j5, bl_]; done))) | (refine Tot.cf ?_ ?_; focus (first | with_reducible rfl | (simp (disch := omega) only [j6, j5, bl_]; done))) | with_reducible (refine Tot.bc ?_) | ((first | refine Tot.rdx ?_ ?_ | refine Tot.apx ?_ ?_ | refine Tot.mkx ?_ ?_); focus (first | omega | (simp; done) | (simp; omega))))
      refine Tot.cond (fun hw => ?_) fun hw => ?_
      · simp only [Bool.not_eq_true', decide_eq_false_iff_not, Decidable.not_not] at hw
        repeat (first | with_reducible (refine Tot.bp ?_) | with_reducible (refine Tot.bb ?_) | (refine Tot.ct ?_ ?_; focus (first | with_reducible rfl | (simp (disch := omega) only [j6, j5, bl_]; done))) | (refine Tot.cf ?_ ?_; focus (first | with_reducible rfl | (simp (disch := omega) only [j6, j5, bl_]; done))) | with_reducible (refine Tot.bc ?_) | ((first | refine Tot.rdx ?_ ?_ | refine Tot.apx ?_ ?_ | refine Tot.mkx ?_ ?_); focus (first | omega | (simp; done) | (simp; omega))))
        refine Tot.cond (fun hl => Tot.pure (Tot.pure ?_)) fun hl => ?_
        · simp
          intro h
          have := h.lb k (by omega) (by omega)
          simp only [Bool.or_eq_true, decide_eq_true_eq] at hl
          omega
        simp only [Bool.or_eq_false_iff, decide_eq_false_iff_not, Decidable.not_not] at hl
        refine Tot.bind ?_
        refine Tot.forC (fun s => s) d.ji.toNat (fun c s => s = (c : Int) ∧ ∀ i : Int, 0 ≤ i → i < c → -1 ≤ at' (at' d.je k) i ∧ at' (at' d.je k) i < d.je.length) (fun k s h => h.1) ?_ ?_ ⟨rfl, fun i h0 h1 => by omega⟩
        · rintro c _ hc ⟨rfl, hJ⟩
          have bad : ¬ (-1 ≤ at' (at' d.je k) c ∧ at' (at' d.je k) c < d.je.length) → ¬ MOk d := fun hx h => hx (h.nx k c (by omega) (by omega) (by omega) (by omega))
          repeat (first | with_reducible (refine Tot.bp ?_) | with_reducible (refine Tot.bb ?_) | (refine Tot.ct ?_ ?_; focus (first | with_reducible rfl | (simp (disch := omega) only [j6, j5, bl_]; done))) | (refine Tot.cf ?_ ?_; focus (first | with_reducible rfl | (simp (disch := omega) only [j6, j5, bl_]; done))) | with_reducible (refine Tot.bc ?_) | ((first | refine Tot.rdx ?_ ?_ | refine Tot.apx ?_ ?_ | refine Tot.mkx ?_ ?_); focus (first | omega | (simp; done) | (simp; omega))))
          refine Tot.cond (fun h1 => ?_) fun h1 => ?_
          · simp only [Bool.not_eq_true', decide_eq_false_iff_not] at h1
            repeat (first | with_reducible (refine Tot.bp ?_) | with_reducible (refine Tot.bb ?_) | (refine Tot.ct ?_ ?_; focus (first | with_reducible rfl | (simp (disch := omega) only [j6, j5, bl_]; done))) | (refine Tot.cf ?_ ?_; focus (first | with_reducible rfl | (simp (disch := omega) only [j6, j5, bl_]; done))) | with_reducible (refine Tot.bc ?_) | ((first | refine Tot.rdx ?_ ?_ | refine Tot.apx ?_ ?_ | refine Tot.mkx ?_ ?_); focus (first | omega | (simp; done) | (simp; omega))))
            refine Tot.cond (fun h2 => Tot.pure (Tot.pure (Tot.pure ?_))) fun h2 => Tot.pure ?_
            · simp
              simp only [Bool.or_eq_true, decide_eq_true_eq] at h2
              exact bad (by omega)
            · simp only [Bool.or_eq_false_iff, decide_eq_false_iff_not] at h2
              refine ⟨Jl (by omega), fun i h0 h3 => ?_⟩
              by_cases hi : i = c
              · subst hi; omega
              · exact hJ i h0 (by omega)
          · simp only [Bool.not_eq_false', decide_eq_true_eq] at h1
            repeat (first | with_reducible (refine Tot.bp ?_) | with_reducible (refine Tot.bb ?_) | (refine Tot.ct ?_ ?_; focus (first | with_reducible rfl | (simp (disch := omega) only [j6, j5, bl_]; done))) | (refine Tot.cf ?_ ?_; focus (first | with_reducible rfl | (simp (disch := omega) only [j6, j5, bl_]; done))) | with_reducible (refine Tot.bc ?_) | ((first | refine Tot.rdx ?_ ?_ | refine Tot.apx ?_ ?_ | refine Tot.mkx ?_ ?_); focus (first | omega | (simp; done) | (simp; omega))))
            refine Tot.pure (Tot.pure (Tot.pure ?_))
            simp
            exact bad (by omega)
        · rintro _ ⟨rfl, hJ⟩
          repeat (first | with_reducible (refine Tot.bp ?_) | with_reducible (refine Tot.bb ?_) | (refine Tot.ct ?_ ?_; focus (first | with_reducible rfl | (simp (disch := omega) only [j6, j5, bl_]; done))) | (refine Tot.cf ?_ ?_; focus (first | with_reducible rfl | (simp (disch := omega) only [j6, j5, bl_]; done))) | with_reducible (refine Tot.bc ?_) | ((first | refine Tot.rdx ?_ ?_ | refine Tot.apx ?_ ?_ | refine Tot.mkx ?_ ?_); focus (first | omega | (simp; done) | (simp; omega))))
          refine Tot.pure (Tot.pure ⟨Jl (by omega), fun i h0 h3 => ?_⟩)
          by_cases hi : i = k
          · subst hi
            exact ⟨hw, by omega, fun c hc hc2 => hJ c hc (by omega)⟩
          · exact hI i h0 (by omega)
      · simp only [Bool.not_eq_false', decide_eq_true_eq] at hw
        repeat (first | with_reducible (refine Tot.bp ?_) | with_reducible (refine Tot.bb ?_) | (refine Tot.ct ?_ ?_; focus (first | with_reducible rfl | (simp (disch := omega) only [j6, j5, bl_]; done))) | (refine Tot.cf ?_ ?_; focus (first | with_reducible rfl | (simp (disch := omega) only [j6, j5, bl_]; done))) | with_reducible (refine Tot.bc ?_) | ((first | refine Tot.rdx ?_ ?_ | refine Tot.apx ?_ ?_ | refine Tot.mkx ?_ ?_); focus (first | omega | (simp; done) | (simp; omega))))
        refine Tot.pure (Tot.pure ?_)
        simp
        intro h
        exact hw (h.row k (by omega) (by omega))
    · rintro _ ⟨rfl, hI⟩
      repeat (first | with_reducible (refine Tot.bp ?_) | with_reducible (refine Tot.bb ?_) | (refine Tot.ct ?_ ?_; focus (first | with_reducible rfl | (simp (disch := omega) only [j6, j5, bl_]; done))) | (refine Tot.cf ?_ ?_; focus (first | with_reducible rfl | (simp (disch := omega) only [j6, j5, bl_]; done))) | with_reducible (refine Tot.bc ?_) | ((first | refine Tot.rdx ?_ ?_ | refine Tot.apx ?_ ?_ | refine Tot.mkx ?_ ?_); focus (first | omega | (simp; done) | (simp; omega))))
      refine Tot.pure (Tot.pure ?_)
      simp
      exact ⟨by omega, by omega, hB, b1.symm, fun i h0 h1 => (hI i h0 h1).1, fun i h0 h1 => (hI i h0 h1).2.1, fun i c h0 h1 => (hI i h0 h1).2.2 c⟩
  refine key.mono fun b hb => ?_
  rw [Bool.eq_iff_iff, hb, Yx]
end Go.Proofs.Ytpohfkgjghiofaa

namespace Go.Proofs.Ytpohfkgjghiofaa
open Go Go.RowKit L
set_option linter.unusedVariables false
set_option linter.unusedSimpArgs false
theorem zj5 {l : List Bool} {z : Int} {j : Nat} (h0 : 0 ≤ z) (h1 : z < l.length) : onB (l.set z.toNat true) j ↔ (j : Int) = z ∨ onB l j := by
  rw [zok (by omega)]
  constructor
  · rintro (rfl | h)
    · left; omega
    · exact .inr h
  · rintro (h | h)
    · left; omega
    · exact .inr h
theorem zie {l : List Bool} {z : Int} (h0 : 0 ≤ z) (h1 : z < l.length) (h : at' l z = false) : zbd (l.set z.toNat true) + 1 = zbd l := by
  refine zjo ?_
  obtain ⟨k, rfl⟩ := Int.eq_ofNat_of_zero_le h0
  have hk : k < l.length := by omega
  rw [Y7 hk] at h
  simp [hk, h]
end Go.Proofs.Ytpohfkgjghiofaa

namespace Go.Proofs.Ytpohfkgjghiofaa
open Go Go.RowKit L
set_option linter.unusedVariables false
set_option linter.unusedSimpArgs false
def nxt (d : jd) (i : Nat) (c : Int) : Int := at' (at' d.je i) c
def zf1 (d : jd) (i : Nat) : Int := at' d.jl i
theorem zmp {d : jd} (hd : DOk d) (hm : MOk d) : 0 ≤ d.ji ∧ d.ji ≤ 256 := by
  have := zaf hd.cls
  rw [← hm.wid]; exact ⟨this.1, this.2.1⟩
end Go.Proofs.Ytpohfkgjghiofaa

namespace Go.Proofs.Ytpohfkgjghiofaa
open Go Go.RowKit L
set_option linter.unusedVariables false
set_option linter.unusedSimpArgs false
theorem zk4 {d : jd} (hd : DOk d) (hm : MOk d) : 1 ≤ d.ji := by
  have h := zaf hd.cls
  have hl : 0 < d.jp.1.length := by rw [d.jp.2]; decide
  have h1 := h.2.2 _ (List.getElem_mem hl)
  have h2 := hd.cls _ (List.getElem_mem hl)
  rw [← hm.wid]; omega
end Go.Proofs.Ytpohfkgjghiofaa

namespace Go.Proofs.Ytpohfkgjghiofaa
open Go Go.RowKit L
set_option linter.unusedVariables false
set_option linter.unusedSimpArgs false
abbrev bl (a b : List UInt8) : Bool := Op.bytesLess a b
theorem zn0 (a b : UInt8) : a < b ∨ a = b ∨ b < a := by
  rcases Nat.lt_trichotomy a.toNat b.toNat with h | h | h
  · exact .inl (UInt8.lt_iff_toNat_lt.2 h)
  · exact .inr (.inl (UInt8.toNat_inj.1 h))
  · exact .inr (.inr (UInt8.lt_iff_toNat_lt.2 h))
theorem Zq {a b : UInt8} {x y : List UInt8} : bl (a :: x) (b :: y) = true ↔ a < b ∨ (a = b ∧ bl x y = true) := by
  simp [bl, Op.bytesLess]
theorem zcf : ∀ a : List UInt8, bl a a = false
  | [] => rfl
  | a :: x => by
    have h := zcf x
    cases e : bl (a :: x) (a :: x)
    · rfl
    · rcases Zq.1 e with h1 | ⟨_, h1⟩
      · exact absurd h1 (UInt8.lt_irrefl a)
      · rw [h] at h1; cases h1
theorem zbg : ∀ {a b c : List UInt8}, bl a b = true → bl b c = true → bl a c = true
  | a, b, [], _, h => by cases b <;> simp [bl, Op.bytesLess] at h
  | [], b, c :: cs, _, _ => rfl
  | a :: xs, [], c :: cs, h, _ => by simp [bl, Op.bytesLess] at h
  | a :: xs, b :: ys, c :: cs, h1, h2 => by
    rw [Zq] at h1 h2 ⊢
    rcases h1 with h1 | ⟨rfl, h1⟩
    · rcases h2 with h2 | ⟨rfl, h2⟩
      · exact .inl (UInt8.lt_trans h1 h2)
      · exact .inl h1
    · rcases h2 with h2 | ⟨rfl, h2⟩
      · exact .inl h2
      · exact .inr ⟨rfl, zbg h1 h2⟩
theorem zjb : ∀ {a b : List UInt8}, a.length = b.length → bl a b = false → bl b a = false → a = b
  | [], [], _, _, _ => rfl
  | [], b :: ys, h, _, _ => by simp at h
  | a :: xs, [], h, _, _ => by simp at h
  | a :: xs, b :: ys, h, h1, h2 => by
    rcases zn0 a b with e | e | e
    · have := Zq.2 (.inl e : a < b ∨ (a = b ∧ bl xs ys = true)); rw [this] at h1; cases h1
    · subst e
      congr 1
      refine zjb (by simpa using h) ?_ ?_
      · cases e : bl xs ys
        · rfl
        · have := Zq.2 (.inr ⟨rfl, e⟩ : a < a ∨ (a = a ∧ bl xs ys = true)); rw [this] at h1; cases h1
      · cases e : bl ys xs
        · rfl
        · have := Zq.2 (.inr ⟨rfl, e⟩ : a < a ∨ (a = a ∧ bl ys xs = true)); rw [this] at h2; cases h2
    · have := Zq.2 (.inl e : b < a ∨ (b = a ∧ bl ys xs = true)); rw [this] at h2; cases h2
theorem zlb : ∀ {a b x y : List UInt8}, a.length = b.length → bl a b = true → bl (a ++ x) (b ++ y) = true
  | [], [], x, y, _, h => by simp [bl, Op.bytesLess] at h
  | [], b :: ys, x, y, h, _ => by simp at h
  | a :: xs, [], x, y, h, _ => by simp at h
  | a :: xs, b :: ys, x, y, hl, h => by
    simp only [List.cons_append]
    rw [Zq] at h ⊢
    rcases h with h | ⟨rfl, h⟩
    · exact .inl h
    · exact .inr ⟨rfl, zlb (by simpa using hl) h⟩
theorem zi1 : ∀ (a : List UInt8) {x y : List UInt8}, bl (a ++ x) (a ++ y) = bl x y
  | [], _, _ => rfl
  | a :: xs, x, y => by
    simp only [List.cons_append]
    have ih := zi1 xs (x := x) (y := y)
    rw [Bool.eq_iff_iff, Zq, ih]
    constructor
    · rintro (h | h)
      · exact absurd h (UInt8.lt_irrefl a)
      · exact h.2
    · exact fun h => .inr ⟨rfl, h⟩
def Y9 (u v : List UInt8) : Prop := u.length < v.length ∨ (u.length = v.length ∧ bl u v = true)
def sle (u v : List UInt8) : Prop := ¬ Y9 v u
theorem zd9 (u : List UInt8) : sle u u := by
  rintro (h | ⟨_, h⟩)
  · omega
  · rw [zcf] at h; cases h
theorem zd8 {u v : List UInt8} : sle u v ↔ u.length < v.length ∨ (u.length = v.length ∧ bl v u = false) := by
  unfold sle Y9
  rw [← Bool.not_eq_true]
  constructor
  · intro h
    by_cases h1 : u.length < v.length
    · exact .inl h1
    · by_cases h2 : v.length < u.length
      · exact absurd (.inl h2) h
      · exact .inr ⟨by omega, fun e => h (.inr ⟨by omega, e⟩)⟩
  · rintro (h | ⟨h, h2⟩) (h3 | ⟨h3, h4⟩)
    · omega
    · omega
    · omega
    · exact h2 h4
theorem zmk {a b c : List UInt8} (hl : a.length = b.length) (h1 : bl b a = false) (h2 : bl c b = false) : bl c a = false := by
  cases e : bl c a
  · rfl
  cases e2 : bl a b
  · have := zjb hl e2 h1
    subst this; rw [h2] at e; cases e
  · have := zbg e e2; rw [h2] at this; cases this
theorem zem {u v w : List UInt8} (h1 : sle u v) (h2 : sle v w) : sle u w := by
  rw [zd8] at *
  rcases h1 with h1 | ⟨h1, h3⟩ <;> rcases h2 with h2 | ⟨h2, h4⟩
  · left; omega
  · left; omega
  · left; omega
  · exact .inr ⟨by omega, zmk h1 h3 h4⟩
theorem zeq {u v : List UInt8} (h : Y9 u v) : sle u v := by
  rw [zd8]
  rcases h with h | ⟨h, h2⟩
  · exact .inl h
  · refine .inr ⟨h, ?_⟩
    cases e : bl v u
    · rfl
    · have := zbg h2 e; rw [zcf] at this; cases this
theorem znb {u v : List UInt8} {x y : UInt8} (h : sle u v) (hx : x ≤ y) : sle (u ++ [x]) (v ++ [y]) := by
  rw [zd8] at *
  rcases h with h | ⟨h, h2⟩
  · left; simp; omega
  · right
    refine ⟨by simp [h], ?_⟩
    cases e : bl u v
    · have := zjb h e h2
      subst this
      rw [zi1]
      cases e2 : bl [y] [x]
      · rfl
      · rcases Zq.1 e2 with h3 | ⟨_, h3⟩
        · rw [UInt8.lt_iff_toNat_lt] at h3; rw [UInt8.le_iff_toNat_le] at hx; omega
        · simp [bl, Op.bytesLess] at h3
    · cases e2 : bl (v ++ [y]) (u ++ [x])
      · rfl
      · have h3 := zlb (x := [x]) (y := [y]) h e
        have := zbg e2 h3
        rw [zcf] at this; cases this
theorem zf6 {u v : List UInt8} {x y : UInt8} (h : Y9 u v) : Y9 (u ++ [x]) (v ++ [y]) := by
  rcases h with h | ⟨h, h2⟩
  · left; simp; omega
  · right; exact ⟨by simp [h], zlb h h2⟩
theorem zf0 {u : List UInt8} {x y : UInt8} (h : x < y) : Y9 (u ++ [x]) (u ++ [y]) := by
  right
  refine ⟨by simp, ?_⟩
  rw [zi1, Zq]; exact .inl h
theorem zni (u : List UInt8) (x : UInt8) : sle u (u ++ [x]) := by
  rw [zd8]; left; simp
theorem zjj {u v w : List UInt8} (h1 : Y9 u v) (h2 : Y9 v w) : Y9 u w := by
  rcases h1 with h1 | ⟨h1, h3⟩ <;> rcases h2 with h2 | ⟨h2, h4⟩
  · left; omega
  · left; omega
  · left; omega
  · exact .inr ⟨by omega, zbg h3 h4⟩
def zjw (d : jd) (b : UInt8) : Int := at' d.jp.1 (b.toNat : Int)
def stp (d : jd) (at_ : Int) (b : UInt8) : Int := if at_ < 0 then at_ else nxt d at_.toNat (zjw d b)
def Jm (d : jd) (w : List UInt8) : Int := w.foldl (stp d) 0
theorem zcj (d : jd) (w : List UInt8) (b : UInt8) : Jm d (w ++ [b]) = stp d (Jm d w) b := by simp [Jm]
theorem zm6 (d : jd) (w v : List UInt8) : Jm d (w ++ v) = v.foldl (stp d) (Jm d w) := by simp [Jm]
theorem zjq {P : List UInt8 → Prop} (h0 : P []) (h1 : ∀ w b, P w → P (w ++ [b])) (w : List UInt8) : P w := by
  have key : ∀ n (w : List UInt8), w.length = n → P w := by
    intro n
    induction n with
    | zero => intro w hw; have := List.length_eq_zero_iff.1 hw; subst this; exact h0
    | succ n ih =>
      intro w hw
      have hne : w ≠ [] := fun e => by subst e; simp at hw
      rw [← List.dropLast_concat_getLast hne]
      exact h1 _ _ (ih _ (by simp [hw]))
  exact key _ w rfl
section
variable {d : jd} (hd : DOk d) (hm : MOk d)
include hd hm
theorem zfx (b : UInt8) : 0 ≤ zjw d b ∧ zjw d b < d.ji := by
  have hl : (b.toNat : Int) < d.jp.1.length := by rw [d.jp.2]; have := b.toNat_lt; omega
  have h := zm1 (l := d.jp.1) (z := (b.toNat : Int)) (by omega) hl
  have h1 := zaf hd.cls
  have h2 := hd.cls _ h
  have h3 := h1.2.2 _ h
  rw [hm.wid] at h3
  exact ⟨h2.1, h3⟩
theorem stp_ok {a : Int} (h : a < d.je.length) (b : UInt8) : stp d a b < d.je.length := by
  unfold stp
  split
  · exact h
  · have hc := zfx hd hm b
    exact (hm.nx a.toNat _ (by omega) (by omega) hc.1 hc.2).2
theorem zfw (w : List UInt8) : Jm d w < d.je.length := by
  refine zjq (P := fun w => Jm d w < d.je.length) ?_ (fun w b h => ?_) w
  · have := hm.n0; simp [Jm]; omega
  · rw [zcj]; exact stp_ok hd hm h b
omit hd hm in
theorem zn8 {a : Int} (h : a < 0) (b : UInt8) : stp d a b = a := if_pos h
omit hd hm in
theorem zny {w : List UInt8} {b : UInt8} (h : 0 ≤ Jm d (w ++ [b])) : 0 ≤ Jm d w ∧ Jm d (w ++ [b]) = nxt d (Jm d w).toNat (zjw d b) := by
  rw [zcj] at h ⊢
  unfold stp at h ⊢
  split at h
  · omega
  · rename_i h1; rw [if_neg h1]; exact ⟨by omega, rfl⟩
end
theorem zc8 : ∀ (l : List Int) (n c : Int), Jw n l = true → n ≤ c → c < l.foldl (fun n c => max n (c + 1)) n → c ∈ l
  | [], n, c, _, h1, h2 => by simp at h2; omega
  | x :: xs, n, c, h, h1, h2 => by
    simp only [Jw] at h
    by_cases hx : n < x
    · rw [if_pos hx] at h; cases h
    · rw [if_neg hx] at h
      simp only [List.foldl_cons] at h2
      by_cases he : x = n
      · rw [if_pos he] at h
        rw [show max n (x + 1) = n + 1 by omega] at h2
        by_cases hc : c = n
        · rw [hc, he]; simp
        · exact List.mem_cons_of_mem _ (zc8 xs (n + 1) c h (by omega) h2)
      · rw [if_neg he] at h
        rw [show max n (x + 1) = n by omega] at h2
        exact List.mem_cons_of_mem _ (zc8 xs n c h h1 h2)
def Zr (d : jd) (c : Int) : Nat := ((List.range 256).find? fun (b : Nat) => decide (at' d.jp.1 (b : Int) = c)).getD 0
theorem Vn {d : jd} (hd : DOk d) (hm : MOk d) {c : Int} (h0 : 0 ≤ c) (h1 : c < d.ji) : Zr d c < 256 ∧ at' d.jp.1 (Zr d c : Int) = c ∧ ∀ b : Nat, b < 256 → at' d.jp.1 (b : Int) = c → Zr d c ≤ b := by
  have hmem := zc8 d.jp.1 0 c hm.cls h0 (by have := hm.wid; unfold Y6 at this; rw [this]; exact h1)
  obtain ⟨k, hk, hkc⟩ := List.getElem_of_mem hmem
  have hl := d.jp.2
  unfold Zr
  cases hf : (List.range 256).find? fun (b : Nat) => decide (at' d.jp.1 (b : Int) = c) with
  | none =>
    have := List.find?_eq_none.1 hf k (by simp; omega)
    rw [Y7 hk, hkc] at this; simp at this
  | some b =>
    obtain ⟨hp, as1, bs1, hab, hall⟩ := List.find?_eq_some_iff_append.1 hf
    have hb := List.mem_of_find?_eq_some hf
    simp at hb hp
    refine ⟨by simpa using hb, by simpa using hp, fun b' hb' he => ?_⟩
    simp only [Option.getD_some]
    rcases Nat.lt_or_ge b' b with hlt | hge
    · exfalso
      have hmem2 : b' ∈ as1 := by
        have hlen : as1.length = b := by
          have := congrArg (fun l => l[as1.length]?) hab
          simp at this
          have h2 : as1.length < 256 := by have := congrArg List.length hab; simp at this; omega
          simp [h2] at this
          exact this
        have := congrArg (fun l => l[b']?) hab
        simp only [List.getElem?_append_left (show b' < as1.length by omega)] at this
        simp [hb'] at this
        exact List.mem_of_getElem? this.symm
      have := hall b' hmem2
      simp at this; exact this he
    · exact hge
def Jx (d : jd) (c : Int) : UInt8 := UInt8.ofNat (Zr d c)
theorem zau {d : jd} (hd : DOk d) (hm : MOk d) {c : Int} (h0 : 0 ≤ c) (h1 : c < d.ji) : (Jx d c).toNat = Zr d c := by
  unfold Jx
  have := (Vn hd hm h0 h1).1
  simp; omega
theorem zk0 {d : jd} (hd : DOk d) (hm : MOk d) {c : Int} (h0 : 0 ≤ c) (h1 : c < d.ji) : zjw d (Jx d c) = c := by
  unfold zjw
  rw [zau hd hm h0 h1]
  exact (Vn hd hm h0 h1).2.1
theorem zl5 {d : jd} (hd : DOk d) (hm : MOk d) (b : UInt8) : Jx d (zjw d b) ≤ b := by
  have hc := zfx hd hm b
  rw [UInt8.le_iff_toNat_le, zau hd hm hc.1 hc.2]
  exact (Vn hd hm hc.1 hc.2).2.2 b.toNat b.toNat_lt rfl
theorem zay : ∀ (l : List Int) (n : Int), Jw n l = true → ∀ (j : Nat) (x : Int), l[j]? = some x → n ≤ x → ∀ c, n ≤ c → c < x → ∃ i, i < j ∧ l[i]? = some c
  | [], n, _, j, x, h, _, c, _, _ => by simp at h
  | y :: ys, n, h, 0, x, hx, h1, c, h2, h3 => by
    simp at hx; subst hx
    simp only [Jw] at h
    by_cases hy : n < y
    · rw [if_pos hy] at h; cases h
    · omega
  | y :: ys, n, h, j + 1, x, hx, h1, c, h2, h3 => by
    simp at hx
    simp only [Jw] at h
    by_cases hy : n < y
    · rw [if_pos hy] at h; cases h
    · rw [if_neg hy] at h
      by_cases he : y = n
      · rw [if_pos he] at h
        by_cases hc : c = n
        · exact ⟨0, by omega, by simp [he, hc]⟩
        · obtain ⟨i, hi, hic⟩ := zay ys (n + 1) h j x hx (by omega) c (by omega) h3
          exact ⟨i + 1, by omega, by simpa using hic⟩
      · rw [if_neg he] at h
        obtain ⟨i, hi, hic⟩ := zay ys n h j x hx h1 c h2 h3
        exact ⟨i + 1, by omega, by simpa using hic⟩
theorem zij {d : jd} (hd : DOk d) (hm : MOk d) {c e : Int} (h0 : 0 ≤ c) (h1 : c < e) (h2 : e < d.ji) : Jx d c < Jx d e := by
  rw [UInt8.lt_iff_toNat_lt, zau hd hm h0 (by omega), zau hd hm (by omega) h2]
  obtain ⟨a1, a2, a3⟩ := Vn hd hm (c := c) h0 (by omega)
  obtain ⟨b1, b2, b3⟩ := Vn hd hm (c := e) (by omega) h2
  have hl := d.jp.2
  have hx : d.jp.1[Zr d e]? = some e := by
    rw [Y7 (by omega)] at b2
    rw [List.getElem?_eq_getElem (by omega), b2]
  obtain ⟨i, hi, hic⟩ := zay d.jp.1 0 hm.cls (Zr d e) e hx (by omega) c h0 h1
  have := a3 i (by omega) (at_get hic)
  omega
end Go.Proofs.Ytpohfkgjghiofaa

namespace Go.Proofs.Ytpohfkgjghiofaa
open Go Go.RowKit L
set_option linter.unusedVariables false
set_option linter.unusedSimpArgs false
def tl (s : ByteArray) : List UInt8 := s.data.toList
theorem zio (s : ByteArray) : s.toList = tl s := ByteArray.toList_eq s
theorem tl_app (a b : ByteArray) : tl (a ++ b) = tl a ++ tl b := ByteArray.toList_data_append
theorem zgc (a : ByteArray) : (tl a).length = a.size := rfl
theorem zn9 (l : List Int) : tl (strOfNums l) = l.map fun n => UInt8.ofNat n.toNat := rfl
theorem zno {l : List Int} {z : Int} (h : z < l.length) (h0 : 0 ≤ z) (hb : z < 1000000) : zfp l z (w64 (z + 1)) = some [at' l z] := by
  obtain ⟨k, rfl⟩ := Int.eq_ofNat_of_zero_le h0
  have hk : k < l.length := by omega
  rw [Jl (by omega)]
  unfold zfp
  rw [if_pos ⟨by omega, by omega, by simp, by simp; omega⟩, Y7 hk]
  simp only [Int.toNat_natCast]
  rw [List.take_succ_eq_append_getElem hk, List.drop_append_of_le_length (by simp; omega), List.drop_of_length_le (by simp; omega)]
  rfl
theorem zol {a b : ByteArray} (h : a.size + b.size ≤ 1000000) : zmw a b = some (a ++ b) := by
  unfold zmw; rw [if_pos (by omega)]
def zk3 (d : jd) (t : Int) (r : ByteArray × Bool) : Prop :=
  (r.2 = true ∧ 0 ≤ t ∧ 0 ≤ Jm d (tl r.1) ∧ zf1 d (Jm d (tl r.1)).toNat = t ∧ ∀ u, 0 ≤ Jm d u → zf1 d (Jm d u).toNat = t → sle (tl r.1) u) ∨
  (r.2 = false ∧ r.1 = ⟨#[]⟩ ∧ ∀ u, 0 ≤ Jm d u → zf1 d (Jm d u).toNat = t → t < 0)
abbrev SW := Int × List UInt8
def prS (x : qc) : SW := (x.Qd, tl x.Jh)
theorem zop {d : jd} (hd : DOk d) (hm : MOk d) {pop wt : List SW} (h1 : ∀ y ∈ pop ++ wt, Jm d y.2 = y.1) (h4 : ∀ y ∈ pop, ∀ c : Int, 0 ≤ c → c < d.ji → 0 ≤ nxt d y.1.toNat c → ∃ w', (nxt d y.1.toNat c, w') ∈ pop ++ wt ∧ sle w' (y.2 ++ [Jx d c]))
    (h7 : ((0 : Int), ([] : List UInt8)) ∈ pop ++ wt) (u : List UInt8) (hu : 0 ≤ Jm d u) : (∃ w, (Jm d u, w) ∈ pop ∧ sle w u) ∨ ∃ y ∈ wt, sle y.2 u := by
  revert hu
  refine zjq (P := fun u => 0 ≤ Jm d u → (∃ w, (Jm d u, w) ∈ pop ∧ sle w u) ∨ ∃ y ∈ wt, sle y.2 u) ?_ ?_ u
  · intro _
    rcases List.mem_append.1 h7 with h | h
    · exact .inl ⟨[], h, zd9 _⟩
    · exact .inr ⟨_, h, zd9 _⟩
  · intro u b ih hu
    obtain ⟨a1, a2⟩ := zny hu
    rcases ih a1 with ⟨w, hw, hle⟩ | ⟨y, hy, hle⟩
    · have hc := zfx hd hm b
      obtain ⟨w', hw', hle'⟩ := h4 _ hw _ hc.1 hc.2 (by rw [← a2]; exact hu)
      rw [← a2] at hw'
      have hl := zem hle' (znb hle (zl5 hd hm b))
      rcases List.mem_append.1 hw' with h | h
      · exact .inl ⟨w', h, hl⟩
      · exact .inr ⟨_, h, hl⟩
    · exact .inr ⟨y, hy, zem hle (zni _ _)⟩
structure BInv (d : jd) (t : Int) (seen : List Bool) (pop wt : List SW) : Prop where
  len : seen.length = d.je.length
  run : ∀ y ∈ pop ++ wt, Jm d y.2 = y.1 ∧ 0 ≤ y.1
  on : ∀ i : Nat, onB seen i ↔ ∃ w, ((i : Int), w) ∈ pop ++ wt
  sort : (pop ++ wt).Pairwise fun a b => Y9 a.2 b.2
  kids : ∀ y ∈ pop, zf1 d y.1.toNat ≠ t ∧ ∀ c : Int, 0 ≤ c → c < d.ji → 0 ≤ nxt d y.1.toNat c → ∃ w', (nxt d y.1.toNat c, w') ∈ pop ++ wt ∧ sle w' (y.2 ++ [Jx d c])
  front : ∀ h rest, wt = h :: rest → ∀ y ∈ pop ++ wt, ∀ b, Y9 y.2 (h.2 ++ [b])
  count : pop.length + wt.length + zbd seen = d.je.length
  short : ∀ y ∈ pop ++ wt, y.2.length ≤ pop.length
  root : ((0 : Int), ([] : List UInt8)) ∈ pop ++ wt
structure BIn (d : jd) (t : Int) (h : SW) (pop : List SW) (c : Int) (seen : List Bool) (wt : List SW) : Prop where
  len : seen.length = d.je.length
  run : ∀ y ∈ (pop ++ [h]) ++ wt, Jm d y.2 = y.1 ∧ 0 ≤ y.1
  on : ∀ i : Nat, onB seen i ↔ ∃ w, ((i : Int), w) ∈ (pop ++ [h]) ++ wt
  sort : ((pop ++ [h]) ++ wt).Pairwise fun a b => Y9 a.2 b.2
  kids : ∀ y ∈ pop, zf1 d y.1.toNat ≠ t ∧ ∀ c : Int, 0 ≤ c → c < d.ji → 0 ≤ nxt d y.1.toNat c → ∃ w', (nxt d y.1.toNat c, w') ∈ (pop ++ [h]) ++ wt ∧ sle w' (y.2 ++ [Jx d c])
  mine : ∀ c' : Int, 0 ≤ c' → c' < c → 0 ≤ nxt d h.1.toNat c' → ∃ w', (nxt d h.1.toNat c', w') ∈ (pop ++ [h]) ++ wt ∧ sle w' (h.2 ++ [Jx d c'])
  hs : h.2.length ≤ pop.length
  front : ∀ y ∈ (pop ++ [h]) ++ wt, (∃ c' : Int, 0 ≤ c' ∧ c' < c ∧ y.2 = h.2 ++ [Jx d c']) ∨ ∀ b, Y9 y.2 (h.2 ++ [b])
  count : pop.length + 1 + wt.length + zbd seen = d.je.length
  short : ∀ y ∈ (pop ++ [h]) ++ wt, y.2.length ≤ pop.length + 1
  root : ((0 : Int), ([] : List UInt8)) ∈ (pop ++ [h]) ++ wt
theorem BInv.enter {d : jd} {t : Int} {seen : List Bool} {pop rest : List SW} {h : SW} (H : BInv d t seen pop (h :: rest)) : BIn d t h pop 0 seen rest := by
  have e : pop ++ h :: rest = (pop ++ [h]) ++ rest := by simp
  refine ⟨H.len, ?_, ?_, ?_, ?_, fun c' h0 h1 => by omega, H.short h (by simp), ?_, ?_, ?_, ?_⟩
  · rw [← e]; exact H.run
  · rw [← e]; exact H.on
  · rw [← e]; exact H.sort
  · rw [← e]; exact H.kids
  · rw [← e]; exact fun y hy => .inr (H.front h rest rfl y hy)
  · have := H.count; simp at this; omega
  · rw [← e]; exact fun y hy => Nat.le_succ_of_le (H.short y hy)
  · rw [← e]; exact H.root
theorem BIn.leave {d : jd} {t : Int} {seen : List Bool} {pop wt : List SW} {h : SW} (H : BIn d t h pop d.ji seen wt) (hl : zf1 d h.1.toNat ≠ t) : BInv d t seen (pop ++ [h]) wt := by
  refine ⟨H.len, H.run, H.on, H.sort, ?_, ?_, by have := H.count; simp; omega, by simpa using H.short, H.root⟩
  · intro y hy
    rcases List.mem_append.1 hy with hy | hy
    · exact H.kids y hy
    · simp at hy; subst hy
      exact ⟨hl, fun c h0 h1 h2 => H.mine c h0 h1 h2⟩
  · intro g rest hw y hy b
    have hs : Y9 h.2 g.2 := (List.pairwise_append.1 H.sort).2.2 h (by simp) g (by rw [hw]; simp)
    rcases H.front y hy with ⟨c', _, _, e⟩ | hb
    · rw [e]; exact zf6 hs
    · exact zjj (hb b) (zf6 hs)
theorem BIn.skip {d : jd} (hd : DOk d) (hm : MOk d) {t : Int} {seen : List Bool} {pop wt : List SW} {h : SW} {c : Int} (H : BIn d t h pop c seen wt) (h0 : 0 ≤ c) (hc : c < d.ji) (hs : nxt d h.1.toNat c < 0 ∨ onB seen (nxt d h.1.toNat c).toNat) : BIn d t h pop (c + 1) seen wt := by
  refine ⟨H.len, H.run, H.on, H.sort, H.kids, ?_, H.hs, fun y hy => ?_, H.count, H.short, H.root⟩
  · intro c' g0 g1 g2
    by_cases hcc : c' = c
    · subst hcc
      rcases hs with hs | hs
      · omega
      · obtain ⟨w, hw⟩ := (H.on _).1 hs
        rw [Int.toNat_of_nonneg g2] at hw
        refine ⟨w, hw, ?_⟩
        rcases H.front _ hw with ⟨c'', g3, g4, e⟩ | hb
        · simp only at e; rw [e]
          exact zeq (zf0 (zij hd hm g3 g4 hc))
        · exact zeq (hb _)
    · exact H.mine c' g0 (by omega) g2
  · rcases H.front y hy with ⟨c', g0, g1, e⟩ | hb
    · exact .inl ⟨c', g0, by omega, e⟩
    · exact .inr hb
theorem BIn.push {d : jd} (hd : DOk d) (hm : MOk d) {t : Int} {seen seen' : List Bool} {pop wt : List SW} {h : SW} {c : Int} (H : BIn d t h pop c seen wt) (h0 : 0 ≤ c) (hc : c < d.ji) (hn : 0 ≤ nxt d h.1.toNat c) (hs : ¬ onB seen (nxt d h.1.toNat c).toNat)
    (hl : seen'.length = seen.length) (hon : ∀ j : Nat, onB seen' j ↔ (j : Int) = nxt d h.1.toNat c ∨ onB seen j) (hof : zbd seen' + 1 = zbd seen) : BIn d t h pop (c + 1) seen' (wt ++ [(nxt d h.1.toNat c, h.2 ++ [Jx d c])]) := by
  have e : (pop ++ [h]) ++ (wt ++ [(nxt d h.1.toNat c, h.2 ++ [Jx d c])]) = ((pop ++ [h]) ++ wt) ++ [(nxt d h.1.toNat c, h.2 ++ [Jx d c])] := by simp
  have hr := H.run h (by simp)
  have key : ∀ y ∈ (pop ++ [h]) ++ wt, Y9 y.2 (h.2 ++ [Jx d c]) := fun y hy => by
    rcases H.front y hy with ⟨c', g0, g1, e⟩ | hb
    · rw [e]; exact zf0 (zij hd hm g0 g1 hc)
    · exact hb _
  refine ⟨by rw [hl, H.len], ?_, ?_, ?_, ?_, ?_, H.hs, ?_, ?_, ?_, ?_⟩
  · rw [e]
    intro y hy
    rcases List.mem_append.1 hy with hy | hy
    · exact H.run y hy
    · simp at hy; subst hy
      refine ⟨?_, hn⟩
      simp only
      rw [zcj, hr.1]
      unfold stp
      rw [if_neg (by omega), zk0 hd hm h0 hc]
  · intro i
    rw [hon, H.on, e]
    constructor
    · rintro (hi | ⟨w, hw⟩)
      · exact ⟨h.2 ++ [Jx d c], List.mem_append.2 (.inr (by rw [hi]; simp))⟩
      · exact ⟨w, List.mem_append.2 (.inl hw)⟩
    · rintro ⟨w, hw⟩
      rcases List.mem_append.1 hw with hw | hw
      · exact .inr ⟨w, hw⟩
      · simp at hw; exact .inl hw.1
  · rw [e]
    refine List.pairwise_append.2 ⟨H.sort, by simp, fun a ha b hb => ?_⟩
    simp at hb; subst hb
    exact key a ha
  · intro y hy
    refine ⟨(H.kids y hy).1, fun c' g0 g1 g2 => ?_⟩
    obtain ⟨w', hw, hle⟩ := (H.kids y hy).2 c' g0 g1 g2
    exact ⟨w', by rw [e]; exact List.mem_append.2 (.inl hw), hle⟩
  · intro c' g0 g1 g2
    by_cases hcc : c' = c
    · subst hcc
      exact ⟨_, by rw [e]; exact List.mem_append.2 (.inr (by simp)), zd9 _⟩
    · obtain ⟨w', hw, hle⟩ := H.mine c' g0 (by omega) g2
      exact ⟨w', by rw [e]; exact List.mem_append.2 (.inl hw), hle⟩
  · intro y hy
    rw [e] at hy
    rcases List.mem_append.1 hy with hy | hy
    · rcases H.front y hy with ⟨c', g0, g1, e⟩ | hb
      · exact .inl ⟨c', g0, by omega, e⟩
      · exact .inr hb
    · simp at hy; subst hy
      exact .inl ⟨c, h0, by omega, rfl⟩
  · have := H.count; simp; omega
  · intro y hy
    rw [e] at hy
    rcases List.mem_append.1 hy with hy | hy
    · exact H.short y hy
    · simp at hy; subst hy
      have := H.hs
      simp; omega
  · rw [e]; exact List.mem_append.2 (.inl H.root)
theorem zk5 (d : jd) (hd : DOk d) (hm : MOk d) (l0 : List Int) (hl0 : (l0.length : Int) = d.ji) :
    Tot (G.loop (σ := (Int × (List Int))) (α := (List Int)) (fun (x16, x17) => G.cond (decide (0 ≤ x16)) (G.bind (G.lift (idx d.jp.1 x16)) fun x28 => G.bind (G.lift (idx x17 x28)) fun x29 => G.pure (.inl ((w64 (x16 - 1)), (x17.set (x28 : Int).toNat (IntKind.u8.wrap x16))))) (G.pure (.inr x17))) (255, l0))
      (fun l => (l.length : Int) = d.ji ∧ ∀ c : Int, 0 ≤ c → c < d.ji → at' l c = (Zr d c : Int)) := by
  have hcl := d.jp.2
  refine Tot.loop (fun s : Int × List Int => -1 ≤ s.1 ∧ s.1 ≤ 255 ∧ (s.2.length : Int) = d.ji ∧ ∀ b : Nat, s.1 < b → b < 256 → s.1 < at' s.2 (at' d.jp.1 (b : Int)) ∧ at' s.2 (at' d.jp.1 (b : Int)) ≤ b ∧ at' d.jp.1 (at' s.2 (at' d.jp.1 (b : Int))) = at' d.jp.1 (b : Int)) (fun s : Int × List Int => (s.1 + 1).toNat) ?_ ⟨by simp, by simp, hl0, fun b h0 h1 => by simp at h0; omega⟩
  rintro ⟨i, l⟩ ⟨h1, h2, h3, h4⟩
  simp only at h1 h2 h3 h4
  have cls : ∀ b : Nat, b < 256 → 0 ≤ at' d.jp.1 (b : Int) ∧ at' d.jp.1 (b : Int) < d.ji := fun b hb => by
    have h := zm1 (l := d.jp.1) (z := (b : Int)) (by omega) (by omega)
    have g1 := zaf hd.cls
    have g3 := g1.2.2 _ h
    rw [hm.wid] at g3
    exact ⟨(hd.cls _ h).1, g3⟩
  by_cases hi : 0 ≤ i
  · obtain ⟨k, rfl⟩ := Int.eq_ofNat_of_zero_le hi
    have hk := cls k (by omega)
    repeat (first | with_reducible (refine Tot.bp ?_) | with_reducible (refine Tot.bb ?_) | (refine Tot.ct ?_ ?_; focus (first | with_reducible rfl | (simp (disch := omega) only [j6, j5, bl_]; done))) | (refine Tot.cf ?_ ?_; focus (first | with_reducible rfl | (simp (disch := omega) only [j6, j5, bl_]; done))) | with_reducible (refine Tot.bc ?_) | ((first | refine Tot.rdx ?_ ?_ | refine Tot.apx ?_ ?_ | refine Tot.mkx ?_ ?_); focus (first | omega | (simp; done) | (simp; omega))))
    have hu : IntKind.u8.wrap (k : Int) = (k : Int) := by
      unfold IntKind.wrap; simp [IntKind.signed, IntKind.bits]; omega
    have hw : w64 ((k : Int) - 1) = (k : Int) - 1 := w64_of (by omega) (by omega)
    rw [hu, hw]
    refine Tot.pure ⟨⟨by simp only; omega, by simp only; omega, by simp [h3], fun b g0 g1 => ?_⟩, by simp only; omega⟩
    simp only at g0 ⊢
    have hb := cls b g1
    by_cases he : at' d.jp.1 (b : Int) = at' d.jp.1 (k : Int)
    · rw [he, zn3 hk.1 (by omega)]
      exact ⟨by omega, by omega, rfl⟩
    · rw [at_ne hk.1 hb.1 (fun e => he e.symm)]
      have hne : b ≠ k := fun e => he (by rw [e])
      have := h4 b (by omega) g1
      exact ⟨by omega, this.2⟩
  · have hi1 : i = -1 := by omega
    subst hi1
    repeat (first | with_reducible (refine Tot.bp ?_) | with_reducible (refine Tot.bb ?_) | (refine Tot.ct ?_ ?_; focus (first | with_reducible rfl | (simp (disch := omega) only [j6, j5, bl_]; done))) | (refine Tot.cf ?_ ?_; focus (first | with_reducible rfl | (simp (disch := omega) only [j6, j5, bl_]; done))) | with_reducible (refine Tot.bc ?_) | ((first | refine Tot.rdx ?_ ?_ | refine Tot.apx ?_ ?_ | refine Tot.mkx ?_ ?_); focus (first | omega | (simp; done) | (simp; omega))))
    refine Tot.pure ⟨h3, fun c h0 h5 => ?_⟩
    obtain ⟨a1, a2, a3⟩ := Vn hd hm h0 h5
    have := h4 (Zr d c) (by omega) a1
    rw [a2] at this
    obtain ⟨q, hq⟩ := Int.eq_ofNat_of_zero_le (show 0 ≤ at' l c by omega)
    rw [hq] at this ⊢
    have := a3 q (by omega) this.2.2
    omega
theorem ze7 (d : jd) (hd : DOk d) (hn : d.je.length ≤ 300) (t : Int) : Tot (Je d t) (fun r => (if 0 ≤ t ∧ z1 d = true then zk3 d t r else r = (⟨#[]⟩, false)) ∧ r.1.size ≤ 300) := by
  unfold Je
  by_cases ht : 0 ≤ t
  rotate_left
  · repeat (first | with_reducible (refine Tot.bp ?_) | with_reducible (refine Tot.bb ?_) | (refine Tot.ct ?_ ?_; focus (first | with_reducible rfl | (simp (disch := omega) only [j6, j5, bl_]; done))) | (refine Tot.cf ?_ ?_; focus (first | with_reducible rfl | (simp (disch := omega) only [j6, j5, bl_]; done))) | with_reducible (refine Tot.bc ?_) | ((first | refine Tot.rdx ?_ ?_ | refine Tot.apx ?_ ?_ | refine Tot.mkx ?_ ?_); focus (first | omega | (simp; done) | (simp; omega))))
    refine Tot.pure ⟨?_, Nat.zero_le _⟩
    rw [if_neg (fun h => ht h.1)]
  repeat (first | with_reducible (refine Tot.bp ?_) | with_reducible (refine Tot.bb ?_) | (refine Tot.ct ?_ ?_; focus (first | with_reducible rfl | (simp (disch := omega) only [j6, j5, bl_]; done))) | (refine Tot.cf ?_ ?_; focus (first | with_reducible rfl | (simp (disch := omega) only [j6, j5, bl_]; done))) | with_reducible (refine Tot.bc ?_) | ((first | refine Tot.rdx ?_ ?_ | refine Tot.apx ?_ ?_ | refine Tot.mkx ?_ ?_); focus (first | omega | (simp; done) | (simp; omega))))
  refine Tot.bindE (zjc d hd) ?_
  cases hR : z1 d
  · repeat (first | with_reducible (refine Tot.bp ?_) | with_reducible (refine Tot.bb ?_) | (refine Tot.ct ?_ ?_; focus (first | with_reducible rfl | (simp (disch := omega) only [j6, j5, bl_]; done))) | (refine Tot.cf ?_ ?_; focus (first | with_reducible rfl | (simp (disch := omega) only [j6, j5, bl_]; done))) | with_reducible (refine Tot.bc ?_) | ((first | refine Tot.rdx ?_ ?_ | refine Tot.apx ?_ ?_ | refine Tot.mkx ?_ ?_); focus (first | omega | (simp; done) | (simp; omega))))
    refine Tot.pure ⟨?_, Nat.zero_le _⟩
    simp
  have hm := (Yx d).1 hR
  have hn0 := hm.n0
  have hlab := hm.lab
  have hw := zmp hd hm
  have hw1 := zk4 hd hm
  repeat (first | with_reducible (refine Tot.bp ?_) | with_reducible (refine Tot.bb ?_) | (refine Tot.ct ?_ ?_; focus (first | with_reducible rfl | (simp (disch := omega) only [j6, j5, bl_]; done))) | (refine Tot.cf ?_ ?_; focus (first | with_reducible rfl | (simp (disch := omega) only [j6, j5, bl_]; done))) | with_reducible (refine Tot.bc ?_) | ((first | refine Tot.rdx ?_ ?_ | refine Tot.apx ?_ ?_ | refine Tot.mkx ?_ ?_); focus (first | omega | (simp; done) | (simp; omega))))
  refine Tot.mono (Q := fun r => zk3 d t r ∧ r.1.size ≤ 300) ?_ (fun r hr => by rw [if_pos ⟨ht, rfl⟩]; exact hr)
  refine Tot.part _ (zk5 d hd hm _ (by simp; omega)) fun lst hlst => ?_
  obtain ⟨l1, l2⟩ := hlst
  repeat (first | with_reducible (refine Tot.bp ?_) | with_reducible (refine Tot.bb ?_) | (refine Tot.ct ?_ ?_; focus (first | with_reducible rfl | (simp (disch := omega) only [j6, j5, bl_]; done))) | (refine Tot.cf ?_ ?_; focus (first | with_reducible rfl | (simp (disch := omega) only [j6, j5, bl_]; done))) | with_reducible (refine Tot.bc ?_) | ((first | refine Tot.rdx ?_ ?_ | refine Tot.apx ?_ ?_ | refine Tot.mkx ?_ ?_); focus (first | omega | (simp; done) | (simp; omega))))
  refine Tot.part (fun r => zk3 d t r ∧ r.1.size ≤ 300) ?_ fun a ha => Tot.pure ha
  generalize hA : (List.replicate (d.je.length : Int).toNat false).set (0 : Int).toNat true = A
  have hA1 : A.length = d.je.length := by rw [← hA]; simp
  have hA2 : ∀ i, onB A i ↔ i = 0 := fun i => by
    rw [← hA, zj5 (by omega) (by simp; omega)]
    simp [zn4]
  have hA3 : zbd A + 1 = d.je.length := by
    rw [← hA, zie (by omega) (by simp; omega) (by rw [show ((0 : Int)) = ((0 : Nat) : Int) from rfl, Y7 (by simp; omega)]; simp)]
    unfold zbd; simp
  refine Tot.loop (fun s : ByteArray × Bool × List Bool × List qc => s.1 = ⟨#[]⟩ ∧ s.2.1 = false ∧ ∃ pop, BInv d t s.2.2.1 pop (s.2.2.2.map prS)) (fun s : ByteArray × Bool × List Bool × List qc => 2 * zbd s.2.2.1 + s.2.2.2.length) ?_ ⟨rfl, rfl, [], ?_⟩
  rotate_left
  · refine ⟨hA1, ?_, ?_, ?_, ?_, ?_, ?_, ?_, ?_⟩
    · intro y hy; simp [prS, tl] at hy; subst hy; exact ⟨rfl, by decide⟩
    · intro i; rw [hA2]; simp [prS, tl]
    · simp
    · intro y hy; simp at hy
    · intro h rest e y hy b
      simp [prS, tl] at e hy
      obtain ⟨e1, e2⟩ := e
      subst hy e1
      exact .inl (by simp)
    · simp; omega
    · intro y hy; simp [prS, tl] at hy; subst hy; simp
    · simp [prS, tl]
  · rintro ⟨e, s, seen, wait⟩ ⟨h1, h2, pop, H⟩
    simp only at h1 h2 H
    subst h1 h2
    have hall := fun u hu => zop hd hm (fun y hy => (H.run y hy).1) (fun y hy => (H.kids y hy).2) H.root u hu
    cases wait with
    | nil =>
      repeat (first | with_reducible (refine Tot.bp ?_) | with_reducible (refine Tot.bb ?_) | (refine Tot.ct ?_ ?_; focus (first | with_reducible rfl | (simp (disch := omega) only [j6, j5, bl_]; done))) | (refine Tot.cf ?_ ?_; focus (first | with_reducible rfl | (simp (disch := omega) only [j6, j5, bl_]; done))) | with_reducible (refine Tot.bc ?_) | ((first | refine Tot.rdx ?_ ?_ | refine Tot.apx ?_ ?_ | refine Tot.mkx ?_ ?_); focus (first | omega | (simp; done) | (simp; omega))))
      refine Tot.pure ⟨.inr ⟨rfl, rfl, fun u hu he => ?_⟩, Nat.zero_le _⟩
      rcases hall u hu with ⟨w, hw, _⟩ | ⟨y, hy, _⟩
      · exact absurd he (H.kids _ hw).1
      · simp at hy
    | cons x rest =>
      simp only [List.map_cons] at H hall
      have hx := H.run (prS x) (by simp)
      have hx1 : 0 ≤ x.Qd := hx.2
      have hx2 : x.Qd < d.je.length := by have := zfw hd hm (prS x).2; rw [hx.1] at this; exact this
      have hshort := H.short (prS x) (by simp)
      have hcount := H.count
      simp only [List.length_cons, List.length_map] at hcount
      repeat (first | with_reducible (refine Tot.bp ?_) | with_reducible (refine Tot.bb ?_) | (refine Tot.ct ?_ ?_; focus (first | with_reducible rfl | (simp (disch := omega) only [j6, j5, bl_]; done))) | (refine Tot.cf ?_ ?_; focus (first | with_reducible rfl | (simp (disch := omega) only [j6, j5, bl_]; done))) | with_reducible (refine Tot.bc ?_) | ((first | refine Tot.rdx ?_ ?_ | refine Tot.apx ?_ ?_ | refine Tot.mkx ?_ ?_); focus (first | omega | (simp; done) | (simp; omega))))
      refine Tot.someB znn ?_
      refine Tot.someB zl1 ?_
      repeat (first | with_reducible (refine Tot.bp ?_) | with_reducible (refine Tot.bb ?_) | (refine Tot.ct ?_ ?_; focus (first | with_reducible rfl | (simp (disch := omega) only [j6, j5, bl_]; done))) | (refine Tot.cf ?_ ?_; focus (first | with_reducible rfl | (simp (disch := omega) only [j6, j5, bl_]; done))) | with_reducible (refine Tot.bc ?_) | ((first | refine Tot.rdx ?_ ?_ | refine Tot.apx ?_ ?_ | refine Tot.mkx ?_ ?_); focus (first | omega | (simp; done) | (simp; omega))))
      refine Tot.cond (fun hb => Tot.pure ?_) fun hb => ?_
      · simp only [decide_eq_true_eq] at hb
        have hz : x.Jh.size ≤ pop.length := hshort
        refine ⟨.inl ⟨rfl, ht, ?_, ?_, fun u hu he => ?_⟩, by simp only; omega⟩
        · rw [show Jm d (tl x.Jh) = x.Qd from hx.1]; exact hx1
        · rw [show Jm d (tl x.Jh) = x.Qd from hx.1]
          unfold zf1; rw [Int.toNat_of_nonneg hx1]; exact hb
        · rcases hall u hu with ⟨w, hw, _⟩ | ⟨y, hy, hle⟩
          · exact absurd he (H.kids _ hw).1
          · refine zem ?_ hle
            rcases List.mem_cons.1 hy with rfl | hy
            · exact zd9 _
            · have := (List.pairwise_append.1 H.sort).2.1
              exact zeq ((List.pairwise_cons.1 this).1 y hy)
      · simp only [decide_eq_false_iff_not] at hb
        have hl : zf1 d (prS x).1.toNat ≠ t := by
          unfold zf1; rw [Int.toNat_of_nonneg hx.2]; exact hb
        repeat (first | with_reducible (refine Tot.bp ?_) | with_reducible (refine Tot.bb ?_) | (refine Tot.ct ?_ ?_; focus (first | with_reducible rfl | (simp (disch := omega) only [j6, j5, bl_]; done))) | (refine Tot.cf ?_ ?_; focus (first | with_reducible rfl | (simp (disch := omega) only [j6, j5, bl_]; done))) | with_reducible (refine Tot.bc ?_) | ((first | refine Tot.rdx ?_ ?_ | refine Tot.apx ?_ ?_ | refine Tot.mkx ?_ ?_); focus (first | omega | (simp; done) | (simp; omega))))
        have hrow := hm.row x.Qd hx1 hx2
        have hE := H.enter
        refine Tot.part (fun (r : List Bool × List qc) => BIn d t (prS x) pop d.ji r.1 (r.2.map prS) ∧ zbd r.1 ≤ zbd seen) ?_ ?_
        · refine Tot.forC (fun s => s.1) d.ji.toNat (fun k (s : Int × List Bool × List qc) => s.1 = (k : Int) ∧ BIn d t (prS x) pop (k : Int) s.2.1 (s.2.2.map prS) ∧ zbd s.2.1 ≤ zbd seen) (fun k s h => h.1) ?_ ?_ ⟨rfl, hE, Nat.le_refl _⟩
          · rintro c ⟨_, sn, wt⟩ hc ⟨rfl, I, hof⟩
            simp only at I hof
            have hnx := hm.nx x.Qd c (by omega) (by omega) (by omega) (by omega)
            have hN : nxt d (prS x).1.toNat (c : Int) = at' (at' d.je x.Qd) (c : Int) := by
              unfold nxt; rw [Int.toNat_of_nonneg hx.2]; rfl
            have hIl := I.len
            have hIc := I.count
            simp only [List.length_map] at hIc
            have key := fun hs => I.skip hd hm (by omega) (by omega) hs
            repeat (first | with_reducible (refine Tot.bp ?_) | with_reducible (refine Tot.bb ?_) | (refine Tot.ct ?_ ?_; focus (first | with_reducible rfl | (simp (disch := omega) only [j6, j5, bl_]; done))) | (refine Tot.cf ?_ ?_; focus (first | with_reducible rfl | (simp (disch := omega) only [j6, j5, bl_]; done))) | with_reducible (refine Tot.bc ?_) | ((first | refine Tot.rdx ?_ ?_ | refine Tot.apx ?_ ?_ | refine Tot.mkx ?_ ?_); focus (first | omega | (simp; done) | (simp; omega))))
            refine Tot.cond (fun hb => ?_) fun hb => ?_
            · simp only [Bool.not_eq_true', decide_eq_false_iff_not] at hb
              repeat (first | with_reducible (refine Tot.bp ?_) | with_reducible (refine Tot.bb ?_) | (refine Tot.ct ?_ ?_; focus (first | with_reducible rfl | (simp (disch := omega) only [j6, j5, bl_]; done))) | (refine Tot.cf ?_ ?_; focus (first | with_reducible rfl | (simp (disch := omega) only [j6, j5, bl_]; done))) | with_reducible (refine Tot.bc ?_) | ((first | refine Tot.rdx ?_ ?_ | refine Tot.apx ?_ ?_ | refine Tot.mkx ?_ ?_); focus (first | omega | (simp; done) | (simp; omega))))
              cases hon : at' sn (at' (at' d.je x.Qd) (c : Int))
              · repeat (first | with_reducible (refine Tot.bp ?_) | with_reducible (refine Tot.bb ?_) | (refine Tot.ct ?_ ?_; focus (first | with_reducible rfl | (simp (disch := omega) only [j6, j5, bl_]; done))) | (refine Tot.cf ?_ ?_; focus (first | with_reducible rfl | (simp (disch := omega) only [j6, j5, bl_]; done))) | with_reducible (refine Tot.bc ?_) | ((first | refine Tot.rdx ?_ ?_ | refine Tot.apx ?_ ?_ | refine Tot.mkx ?_ ?_); focus (first | omega | (simp; done) | (simp; omega))))
                rw [zno (show (c : Int) < (lst.length : Int) by omega) (by omega) (by omega)]
                refine Tot.someB rfl ?_
                have hlt := Vn hd hm (c := (c : Int)) (by omega) (by omega)
                have hz1 : x.Jh.size ≤ pop.length := hshort
                have hz2 : (strOfNums [at' lst (c : Int)]).size = 1 := rfl
                refine Tot.bb ?_
                refine Tot.someB (a := x.Jh ++ strOfNums [at' lst (c : Int)]) (zol (Nat.le_trans (Nat.add_le_add hz1 (Nat.le_of_eq hz2)) (Nat.le_trans (Nat.add_le_add_right (show pop.length ≤ 300 by omega) 1) (by decide)))) ?_
                repeat (first | with_reducible (refine Tot.bp ?_) | with_reducible (refine Tot.bb ?_) | (refine Tot.ct ?_ ?_; focus (first | with_reducible rfl | (simp (disch := omega) only [j6, j5, bl_]; done))) | (refine Tot.cf ?_ ?_; focus (first | with_reducible rfl | (simp (disch := omega) only [j6, j5, bl_]; done))) | with_reducible (refine Tot.bc ?_) | ((first | refine Tot.rdx ?_ ?_ | refine Tot.apx ?_ ?_ | refine Tot.mkx ?_ ?_); focus (first | omega | (simp; done) | (simp; omega))))
                have hset := zie (by omega) (by omega) hon
                refine Tot.pure ⟨Jl (by omega), ?_, by simp only; omega⟩
                have hp := I.push (seen' := sn.set (at' (at' d.je x.Qd) (c : Int)).toNat true) hd hm (by omega) (by omega) (by rw [hN]; omega) (by rw [hN]; rw [← zj6 (by omega), hon]; simp) (by simp) (fun j => by rw [zj5 (by omega) (by omega), hN]) hset
                simp only [List.map_append, List.map_cons, List.map_nil]
                have e : prS ⟨at' (at' d.je x.Qd) (c : Int), x.Jh ++ strOfNums [at' lst (c : Int)]⟩ = (nxt d (prS x).1.toNat (c : Int), (prS x).2 ++ [Jx d (c : Int)]) := by
                  rw [hN]
                  unfold prS
                  rw [tl_app, zn9, l2 _ (by omega) (by omega)]
                  simp [Jx]
                rw [e]
                exact hp
              · repeat (first | with_reducible (refine Tot.bp ?_) | with_reducible (refine Tot.bb ?_) | (refine Tot.ct ?_ ?_; focus (first | with_reducible rfl | (simp (disch := omega) only [j6, j5, bl_]; done))) | (refine Tot.cf ?_ ?_; focus (first | with_reducible rfl | (simp (disch := omega) only [j6, j5, bl_]; done))) | with_reducible (refine Tot.bc ?_) | ((first | refine Tot.rdx ?_ ?_ | refine Tot.apx ?_ ?_ | refine Tot.mkx ?_ ?_); focus (first | omega | (simp; done) | (simp; omega))))
                exact Tot.pure ⟨Jl (by omega), key (.inr (by rw [hN, ← zj6 (by omega)]; exact hon)), hof⟩
            · simp only [Bool.not_eq_false', decide_eq_true_eq] at hb
              repeat (first | with_reducible (refine Tot.bp ?_) | with_reducible (refine Tot.bb ?_) | (refine Tot.ct ?_ ?_; focus (first | with_reducible rfl | (simp (disch := omega) only [j6, j5, bl_]; done))) | (refine Tot.cf ?_ ?_; focus (first | with_reducible rfl | (simp (disch := omega) only [j6, j5, bl_]; done))) | with_reducible (refine Tot.bc ?_) | ((first | refine Tot.rdx ?_ ?_ | refine Tot.apx ?_ ?_ | refine Tot.mkx ?_ ?_); focus (first | omega | (simp; done) | (simp; omega))))
              exact Tot.pure ⟨Jl (by omega), key (.inl (by rw [hN]; exact hb)), hof⟩
          · rintro ⟨_, sn, wt⟩ ⟨rfl, I, hof⟩
            simp only at I hof
            repeat (first | with_reducible (refine Tot.bp ?_) | with_reducible (refine Tot.bb ?_) | (refine Tot.ct ?_ ?_; focus (first | with_reducible rfl | (simp (disch := omega) only [j6, j5, bl_]; done))) | (refine Tot.cf ?_ ?_; focus (first | with_reducible rfl | (simp (disch := omega) only [j6, j5, bl_]; done))) | with_reducible (refine Tot.bc ?_) | ((first | refine Tot.rdx ?_ ?_ | refine Tot.apx ?_ ?_ | refine Tot.mkx ?_ ?_); focus (first | omega | (simp; done) | (simp; omega))))
            rw [Int.toNat_of_nonneg hw.1] at I
            exact Tot.pure ⟨I, hof⟩
        · rintro ⟨sn, wt⟩ ⟨I, hof⟩
          simp only at I hof
          have hIc := I.count
          simp only [List.length_map] at hIc
          refine Tot.pure ⟨⟨rfl, rfl, pop ++ [prS x], I.leave hl⟩, ?_⟩
          simp only [List.length_cons]
          omega
end Go.Proofs.Ytpohfkgjghiofaa

namespace Go.Proofs.Ytpohfkgjghiofaa
open Go Go.RowKit L
set_option linter.unusedVariables false
set_option linter.unusedSimpArgs false
instance (l : List Bool) (i : Nat) : Decidable (onB l i) := inferInstanceAs (Decidable (l[i]? = some true))
end Go.Proofs.Ytpohfkgjghiofaa

namespace Go.Proofs.Ytpohfkgjghiofaa
open Go Go.RowKit L
set_option linter.unusedVariables false
set_option linter.unusedSimpArgs false
theorem zob (a b : ByteArray) : zel a b = bl (tl a) (tl b) := by unfold zel; rw [zio, zio]
end Go.Proofs.Ytpohfkgjghiofaa

namespace Go.Proofs.Ytpohfkgjghiofaa
open Go Go.RowKit L
set_option maxRecDepth 100000 in
theorem zmg (n : Nat) : Ju (n + 300) = some true := by kernel_rfl
theorem Z8 : Tot Ju (· = true) := ⟨true, 300, fun n hn => by
  have := zmg (n - 300)
  rwa [show n - 300 + 300 = n by omega] at this, rfl⟩
end Go.Proofs.Ytpohfkgjghiofaa

namespace Go.Proofs.Ytpohfkgjghiofaa
open Go Go.RowKit L
set_option linter.unusedVariables false
set_option linter.unusedSimpArgs false
theorem ext_at {α : Type} [Inhabited α] {a b : List α} (hl : a.length = b.length) (h : ∀ i : Nat, i < a.length → at' a (i : Int) = at' b (i : Int)) : a = b :=
  List.ext_getElem hl fun i h1 h2 => by have := h i h1; rwa [Y7 h1, Y7 h2] at this
theorem zhd (a b : List Int) (ha : a.length ≤ 9223372036854775807) : Tot (zg a b) (· = decide (a = b)) := by
  have key : Tot (zg a b) (fun r => r = true ↔ a = b) := by
    unfold zg
    refine Tot.cond (fun hb => Tot.pure ?_) fun hb => ?_
    · simp only [decide_eq_true_eq] at hb
      simp; intro e; subst e; exact hb rfl
    simp only [decide_eq_false_iff_not, Decidable.not_not] at hb
    refine Tot.bind ?_
    refine Tot.forC (fun s => s) a.length (fun k (s : Int) => s = (k : Int) ∧ ∀ i : Nat, i < k → at' a (i : Int) = at' b (i : Int)) (fun k s h => h.1) ?_ ?_ ⟨rfl, fun i hi => by omega⟩
    · rintro k _ hk ⟨rfl, h⟩
      repeat (first | with_reducible (refine Tot.bp ?_) | with_reducible (refine Tot.bb ?_) | (refine Tot.ct ?_ ?_; focus (first | with_reducible rfl | (simp (disch := omega) only [j6, j5, bl_]; done))) | (refine Tot.cf ?_ ?_; focus (first | with_reducible rfl | (simp (disch := omega) only [j6, j5, bl_]; done))) | with_reducible (refine Tot.bc ?_) | ((first | refine Tot.rdx ?_ ?_ | refine Tot.apx ?_ ?_ | refine Tot.mkx ?_ ?_); focus (first | omega | (simp; done) | (simp; omega))))
      refine Tot.cond (fun h1 => Tot.pure (Tot.pure ?_)) fun h1 => Tot.pure ?_
      · simp only [decide_eq_true_eq] at h1
        simp; intro e; subst e; exact h1 rfl
      · simp only [decide_eq_false_iff_not, Decidable.not_not] at h1
        refine ⟨Jl (by omega), fun i hi => ?_⟩
        by_cases hik : i = k
        · subst hik; exact h1
        · exact h i (by omega)
    · rintro _ ⟨rfl, h⟩
      repeat (first | with_reducible (refine Tot.bp ?_) | with_reducible (refine Tot.bb ?_) | (refine Tot.ct ?_ ?_; focus (first | with_reducible rfl | (simp (disch := omega) only [j6, j5, bl_]; done))) | (refine Tot.cf ?_ ?_; focus (first | with_reducible rfl | (simp (disch := omega) only [j6, j5, bl_]; done))) | with_reducible (refine Tot.bc ?_) | ((first | refine Tot.rdx ?_ ?_ | refine Tot.apx ?_ ?_ | refine Tot.mkx ?_ ?_); focus (first | omega | (simp; done) | (simp; omega))))
      refine Tot.pure (Tot.pure ?_)
      simp
      exact ext_at (by omega) h
  refine key.mono fun r hr => ?_
  rw [Bool.eq_iff_iff, hr]; simp
theorem same14_self (d : jd) (h1 : d.je.length ≤ 9223372036854775807) (h2 : d.jl.length ≤ 9223372036854775807) (h3 : ∀ i : Nat, i < d.je.length → (at' d.je i).length ≤ 9223372036854775807) : Tot (zdl d d) (· = true) := by
  unfold zdl
  have e : (!(d.jp.1 == d.jp.1)) = false := by simp
  simp only [e, not_true_eq_false, decide_false, Bool.or_false, Bool.not_false, G.ct]
  refine Tot.bindE (zhd _ _ h2) ?_
  simp only [decide_true, Bool.not_true, G.cf]
  refine Tot.bind ?_
  refine Tot.forC (fun s => s) d.je.length (fun k (s : Int) => s = (k : Int)) (fun k s h => h) ?_ ?_ rfl
  · rintro k _ hk rfl
    repeat (first | with_reducible (refine Tot.bp ?_) | with_reducible (refine Tot.bb ?_) | (refine Tot.ct ?_ ?_; focus (first | with_reducible rfl | (simp (disch := omega) only [j6, j5, bl_]; done))) | (refine Tot.cf ?_ ?_; focus (first | with_reducible rfl | (simp (disch := omega) only [j6, j5, bl_]; done))) | with_reducible (refine Tot.bc ?_) | ((first | refine Tot.rdx ?_ ?_ | refine Tot.apx ?_ ?_ | refine Tot.mkx ?_ ?_); focus (first | omega | (simp; done) | (simp; omega))))
    refine Tot.bindE (zhd _ _ (h3 k hk)) ?_
    simp only [decide_true, Bool.not_true, G.cf]
    exact Tot.pure (Jl (by omega))
  · rintro _ rfl
    repeat (first | with_reducible (refine Tot.bp ?_) | with_reducible (refine Tot.bb ?_) | (refine Tot.ct ?_ ?_; focus (first | with_reducible rfl | (simp (disch := omega) only [j6, j5, bl_]; done))) | (refine Tot.cf ?_ ?_; focus (first | with_reducible rfl | (simp (disch := omega) only [j6, j5, bl_]; done))) | with_reducible (refine Tot.bc ?_) | ((first | refine Tot.rdx ?_ ?_ | refine Tot.apx ?_ ?_ | refine Tot.mkx ?_ ?_); focus (first | omega | (simp; done) | (simp; omega))))
    exact Tot.pure (Tot.pure rfl)
theorem zjv (d : jd) (hd : DOk d) (hlen : d.je.length ≤ 9223372036854775807) : Tot (Qp d) (fun b => b = true → d.je.length ≤ 300 ∧ d.jl.length ≤ 300) := by
  unfold Qp
  refine Tot.part (fun _ => True) ?_ fun n _ => Tot.pure fun h => by simp at h; omega
  refine Tot.forC (fun s => s.2) d.je.length (fun k (s : Int × Int) => s.2 = (k : Int)) (fun k s h => h) ?_ ?_ rfl
  · rintro k ⟨n, _⟩ hk rfl
    repeat (first | with_reducible (refine Tot.bp ?_) | with_reducible (refine Tot.bb ?_) | (refine Tot.ct ?_ ?_; focus (first | with_reducible rfl | (simp (disch := omega) only [j6, j5, bl_]; done))) | (refine Tot.cf ?_ ?_; focus (first | with_reducible rfl | (simp (disch := omega) only [j6, j5, bl_]; done))) | with_reducible (refine Tot.bc ?_) | ((first | refine Tot.rdx ?_ ?_ | refine Tot.apx ?_ ?_ | refine Tot.mkx ?_ ?_); focus (first | omega | (simp; done) | (simp; omega))))
    exact Tot.pure (Jl (by omega))
  · rintro ⟨n, _⟩ rfl
    repeat (first | with_reducible (refine Tot.bp ?_) | with_reducible (refine Tot.bb ?_) | (refine Tot.ct ?_ ?_; focus (first | with_reducible rfl | (simp (disch := omega) only [j6, j5, bl_]; done))) | (refine Tot.cf ?_ ?_; focus (first | with_reducible rfl | (simp (disch := omega) only [j6, j5, bl_]; done))) | with_reducible (refine Tot.bc ?_) | ((first | refine Tot.rdx ?_ ?_ | refine Tot.apx ?_ ?_ | refine Tot.mkx ?_ ?_); focus (first | omega | (simp; done) | (simp; omega))))
    exact Tot.pure trivial
end Go.Proofs.Ytpohfkgjghiofaa

namespace Go.Proofs.Ytpohfkgjghiofaa
open Go Go.RowKit L
set_option linter.unusedVariables false
set_option linter.unusedSimpArgs false
theorem zn5 {s : ByteArray} {k : Nat} (h : k < s.size) : Yc s (k : Int) = some (((tl s)[k]'(by rw [zgc]; exact h)).toNat : Int) := by
  unfold Yc
  rw [if_pos (by omega)]
  simp only [Int.toNat_natCast]
  have : s[k]? = some s[k] := getElem?_pos s k h
  rw [this]
  rfl
theorem zii (d : jd) (hd : DOk d) (s : ByteArray) (hs : s.size ≤ 9223372036854775807) : Tot (Qz d s) (· = if z1 d = true then Jm d (tl s) else -1) := by
  unfold Qz
  refine Tot.bindE (zbh d hd) ?_
  cases hR : z1 d
  · repeat (first | with_reducible (refine Tot.bp ?_) | with_reducible (refine Tot.bb ?_) | (refine Tot.ct ?_ ?_; focus (first | with_reducible rfl | (simp (disch := omega) only [j6, j5, bl_]; done))) | (refine Tot.cf ?_ ?_; focus (first | with_reducible rfl | (simp (disch := omega) only [j6, j5, bl_]; done))) | with_reducible (refine Tot.bc ?_) | ((first | refine Tot.rdx ?_ ?_ | refine Tot.apx ?_ ?_ | refine Tot.mkx ?_ ?_); focus (first | omega | (simp; done) | (simp; omega))))
    exact Tot.pure (by simp)
  have hm := (Yx d).1 hR
  have hn0 := hm.n0
  have hcl := d.jp.2
  repeat (first | with_reducible (refine Tot.bp ?_) | with_reducible (refine Tot.bb ?_) | (refine Tot.ct ?_ ?_; focus (first | with_reducible rfl | (simp (disch := omega) only [j6, j5, bl_]; done))) | (refine Tot.cf ?_ ?_; focus (first | with_reducible rfl | (simp (disch := omega) only [j6, j5, bl_]; done))) | with_reducible (refine Tot.bc ?_) | ((first | refine Tot.rdx ?_ ?_ | refine Tot.apx ?_ ?_ | refine Tot.mkx ?_ ?_); focus (first | omega | (simp; done) | (simp; omega))))
  rw [if_pos rfl]
  refine Tot.part (· = Jm d (tl s)) ?_ fun a ha => Tot.pure ha
  have neg : ∀ v : List UInt8, ∀ a : Int, a < 0 → v.foldl (stp d) a = a := by
    intro v
    induction v with
    | nil => intro a _; rfl
    | cons b v ih => intro a ha; simp only [List.foldl_cons]; rw [zn8 ha, ih a ha]
  refine Tot.forC (fun s => s.2) s.size (fun k (r : Int × Int) => r.2 = (k : Int) ∧ r.1 = Jm d ((tl s).take k)) (fun k s h => h.1) ?_ ?_ ⟨rfl, by simp [Jm]⟩
  · rintro k ⟨_, _⟩ hk ⟨rfl, rfl⟩
    have hkl : k < (tl s).length := by rw [zgc]; exact hk
    have hlt := zfw hd hm ((tl s).take k)
    have htk : (tl s).take (k + 1) = (tl s).take k ++ [(tl s)[k]] := List.take_succ_eq_append_getElem hkl
    by_cases h0 : 0 ≤ Jm d ((tl s).take k)
    · have hrow := hm.row _ h0 hlt
      have hc := zfx hd hm ((tl s)[k])
      have hb := ((tl s)[k]).toNat_lt
      repeat (first | with_reducible (refine Tot.bp ?_) | with_reducible (refine Tot.bb ?_) | (refine Tot.ct ?_ ?_; focus (first | with_reducible rfl | (simp (disch := omega) only [j6, j5, bl_]; done))) | (refine Tot.cf ?_ ?_; focus (first | with_reducible rfl | (simp (disch := omega) only [j6, j5, bl_]; done))) | with_reducible (refine Tot.bc ?_) | ((first | refine Tot.rdx ?_ ?_ | refine Tot.apx ?_ ?_ | refine Tot.mkx ?_ ?_); focus (first | omega | (simp; done) | (simp; omega))))
      refine Tot.someB (zn5 hk) ?_
      have hcu : zjw d ((tl s)[k]) = at' d.jp.1 (((tl s)[k]).toNat : Int) := rfl
      refine Tot.rdx ⟨by omega, by omega⟩ ?_
      rw [← hcu]
      repeat (first | with_reducible (refine Tot.bp ?_) | with_reducible (refine Tot.bb ?_) | (refine Tot.ct ?_ ?_; focus (first | with_reducible rfl | (simp (disch := omega) only [j6, j5, bl_]; done))) | (refine Tot.cf ?_ ?_; focus (first | with_reducible rfl | (simp (disch := omega) only [j6, j5, bl_]; done))) | with_reducible (refine Tot.bc ?_) | ((first | refine Tot.rdx ?_ ?_ | refine Tot.apx ?_ ?_ | refine Tot.mkx ?_ ?_); focus (first | omega | (simp; done) | (simp; omega))))
      refine Tot.pure ⟨Jl (by omega), ?_⟩
      simp only
      rw [htk, zcj]
      unfold stp nxt
      rw [if_neg (by omega), Int.toNat_of_nonneg h0]
    · repeat (first | with_reducible (refine Tot.bp ?_) | with_reducible (refine Tot.bb ?_) | (refine Tot.ct ?_ ?_; focus (first | with_reducible rfl | (simp (disch := omega) only [j6, j5, bl_]; done))) | (refine Tot.cf ?_ ?_; focus (first | with_reducible rfl | (simp (disch := omega) only [j6, j5, bl_]; done))) | with_reducible (refine Tot.bc ?_) | ((first | refine Tot.rdx ?_ ?_ | refine Tot.apx ?_ ?_ | refine Tot.mkx ?_ ?_); focus (first | omega | (simp; done) | (simp; omega))))
      refine Tot.pure ?_
      have : tl s = (tl s).take k ++ (tl s).drop k := (List.take_append_drop k _).symm
      rw [this, zm6, neg _ _ (by omega)]
      simp
  · rintro ⟨_, _⟩ ⟨rfl, rfl⟩
    repeat (first | with_reducible (refine Tot.bp ?_) | with_reducible (refine Tot.bb ?_) | (refine Tot.ct ?_ ?_; focus (first | with_reducible rfl | (simp (disch := omega) only [j6, j5, bl_]; done))) | (refine Tot.cf ?_ ?_; focus (first | with_reducible rfl | (simp (disch := omega) only [j6, j5, bl_]; done))) | with_reducible (refine Tot.bc ?_) | ((first | refine Tot.rdx ?_ ?_ | refine Tot.apx ?_ ?_ | refine Tot.mkx ?_ ?_); focus (first | omega | (simp; done) | (simp; omega))))
    refine Tot.pure ?_
    rw [← zgc, List.take_length]
def zhr (d : jd) (a : Int) : Int := if a < 0 then -1 else zf1 d a.toNat
theorem ze4 (d : jd) (hd : DOk d) (a : Int) (ha : a < d.je.length) : Tot (Jv d a) (· = if z1 d = true then zhr d a else -1) := by
  unfold Jv
  refine Tot.bindE (zbh d hd) ?_
  cases hR : z1 d
  · repeat (first | with_reducible (refine Tot.bp ?_) | with_reducible (refine Tot.bb ?_) | (refine Tot.ct ?_ ?_; focus (first | with_reducible rfl | (simp (disch := omega) only [j6, j5, bl_]; done))) | (refine Tot.cf ?_ ?_; focus (first | with_reducible rfl | (simp (disch := omega) only [j6, j5, bl_]; done))) | with_reducible (refine Tot.bc ?_) | ((first | refine Tot.rdx ?_ ?_ | refine Tot.apx ?_ ?_ | refine Tot.mkx ?_ ?_); focus (first | omega | (simp; done) | (simp; omega))))
    exact Tot.pure (by simp)
  have hm := (Yx d).1 hR
  have hlab := hm.lab
  rw [if_pos rfl]
  by_cases h0 : a < 0
  · repeat (first | with_reducible (refine Tot.bp ?_) | with_reducible (refine Tot.bb ?_) | (refine Tot.ct ?_ ?_; focus (first | with_reducible rfl | (simp (disch := omega) only [j6, j5, bl_]; done))) | (refine Tot.cf ?_ ?_; focus (first | with_reducible rfl | (simp (disch := omega) only [j6, j5, bl_]; done))) | with_reducible (refine Tot.bc ?_) | ((first | refine Tot.rdx ?_ ?_ | refine Tot.apx ?_ ?_ | refine Tot.mkx ?_ ?_); focus (first | omega | (simp; done) | (simp; omega))))
    refine Tot.pure ?_
    unfold zhr; rw [if_pos h0]
  · repeat (first | with_reducible (refine Tot.bp ?_) | with_reducible (refine Tot.bb ?_) | (refine Tot.ct ?_ ?_; focus (first | with_reducible rfl | (simp (disch := omega) only [j6, j5, bl_]; done))) | (refine Tot.cf ?_ ?_; focus (first | with_reducible rfl | (simp (disch := omega) only [j6, j5, bl_]; done))) | with_reducible (refine Tot.bc ?_) | ((first | refine Tot.rdx ?_ ?_ | refine Tot.apx ?_ ?_ | refine Tot.mkx ?_ ?_); focus (first | omega | (simp; done) | (simp; omega))))
    refine Tot.pure ?_
    unfold zhr zf1; rw [if_neg h0, Int.toNat_of_nonneg (by omega)]
theorem zht (d : jd) (t : Int) (w : ByteArray) (hd : DOk d) (hlen : d.je.length ≤ 9223372036854775807) (hw : w.size ≤ 9223372036854775807) : Tot (g_law15_LiveShown d t w) (· = true) := by
  unfold g_law15_LiveShown
  refine Tot.part _ (zjv d hd hlen) fun b hb => ?_
  refine Tot.cond (fun h => ?_) fun h => ?_
  · exact Tot.bindE Z8 (Tot.pure rfl)
  simp only [Bool.or_eq_false_iff, Bool.not_eq_false', decide_eq_false_iff_not] at h
  obtain ⟨n1, n2⟩ := hb h.1.1
  refine Tot.part _ (ze7 d hd (by omega) t) ?_
  rintro ⟨x, is⟩ ⟨hr, hxs⟩
  simp only at hxs
  have hnil : ((⟨#[]⟩ : ByteArray).toList == (⟨#[]⟩ : ByteArray).toList) = true := by simp
  by_cases hc : 0 ≤ t ∧ z1 d = true
  · rw [if_pos hc] at hr
    have hm := (Yx d).1 hc.2
    have ht : ¬ t < 0 := by omega
    have run := fun (s : ByteArray) hs => zii d hd s hs
    simp only [hc.2, if_true] at run
    have lab := fun (a : Int) ha => ze4 d hd a ha
    simp only [hc.2, if_true] at lab
    have hlw := zfw hd hm (tl w)
    rcases hr with ⟨h1, _, h3, h4, h5⟩ | ⟨h1, h2, h3⟩
    · simp only at h1 h3 h4 h5
      subst h1
      have hlx := zfw hd hm (tl x)
      have hx : x.size ≤ 9223372036854775807 := by omega
      repeat (first | with_reducible (refine Tot.bp ?_) | with_reducible (refine Tot.bb ?_) | (refine Tot.ct ?_ ?_; focus (first | with_reducible rfl | (simp (disch := omega) only [j6, j5, bl_]; done))) | (refine Tot.cf ?_ ?_; focus (first | with_reducible rfl | (simp (disch := omega) only [j6, j5, bl_]; done))) | with_reducible (refine Tot.bc ?_) | ((first | refine Tot.rdx ?_ ?_ | refine Tot.apx ?_ ?_ | refine Tot.mkx ?_ ?_); focus (first | omega | (simp; done) | (simp; omega))))
      refine Tot.bindE (run x hx) ?_
      repeat (first | with_reducible (refine Tot.bp ?_) | with_reducible (refine Tot.bb ?_) | (refine Tot.ct ?_ ?_; focus (first | with_reducible rfl | (simp (disch := omega) only [j6, j5, bl_]; done))) | (refine Tot.cf ?_ ?_; focus (first | with_reducible rfl | (simp (disch := omega) only [j6, j5, bl_]; done))) | with_reducible (refine Tot.bc ?_) | ((first | refine Tot.rdx ?_ ?_ | refine Tot.apx ?_ ?_ | refine Tot.mkx ?_ ?_); focus (first | omega | (simp; done) | (simp; omega))))
      refine Tot.bindE (lab _ hlx) ?_
      have e1 : zhr d (Jm d (tl x)) = t := by unfold zhr; rw [if_neg (by omega)]; exact h4
      simp only [e1]
      repeat (first | with_reducible (refine Tot.bp ?_) | with_reducible (refine Tot.bb ?_) | (refine Tot.ct ?_ ?_; focus (first | with_reducible rfl | (simp (disch := omega) only [j6, j5, bl_, not_true_eq_false, decide_false]; done))) | (refine Tot.cf ?_ ?_; focus (first | with_reducible rfl | (simp (disch := omega) only [j6, j5, bl_, not_true_eq_false, decide_false]; done))) | with_reducible (refine Tot.bc ?_) | ((first | refine Tot.rdx ?_ ?_ | refine Tot.apx ?_ ?_ | refine Tot.mkx ?_ ?_); focus (first | omega | (simp [not_true_eq_false, decide_false]; done) | (simp [not_true_eq_false, decide_false]; omega))))
      refine Tot.bindE (run w hw) ?_
      repeat (first | with_reducible (refine Tot.bp ?_) | with_reducible (refine Tot.bb ?_) | (refine Tot.ct ?_ ?_; focus (first | with_reducible rfl | (simp (disch := omega) only [j6, j5, bl_]; done))) | (refine Tot.cf ?_ ?_; focus (first | with_reducible rfl | (simp (disch := omega) only [j6, j5, bl_]; done))) | with_reducible (refine Tot.bc ?_) | ((first | refine Tot.rdx ?_ ?_ | refine Tot.apx ?_ ?_ | refine Tot.mkx ?_ ?_); focus (first | omega | (simp; done) | (simp; omega))))
      refine Tot.bindE (lab _ hlw) ?_
      refine Tot.cf ?_ ?_
      · by_cases e2 : zhr d (Jm d (tl w)) = t
        · have hl : 0 ≤ Jm d (tl w) := by
            unfold zhr at e2
            by_cases hh : Jm d (tl w) < 0
            · rw [if_pos hh] at e2; omega
            · omega
          have := h5 (tl w) hl (by unfold zhr at e2; rw [if_neg (by omega)] at e2; exact e2)
          rw [zd8, zgc, zgc] at this
          rw [zob]
          rcases this with h6 | ⟨h6, h7⟩
          · have g1 : decide ((w.size : Int) < (x.size : Int)) = false := by simp; omega
            have g2 : decide ((w.size : Int) = (x.size : Int)) = false := by simp; omega
            rw [g1, g2]; simp
          · have g1 : decide ((w.size : Int) < (x.size : Int)) = false := by simp; omega
            rw [g1, h7]; simp
        · simp [e2]
      · repeat (first | with_reducible (refine Tot.bp ?_) | with_reducible (refine Tot.bb ?_) | (refine Tot.ct ?_ ?_; focus (first | with_reducible rfl | (simp (disch := omega) only [j6, j5, bl_]; done))) | (refine Tot.cf ?_ ?_; focus (first | with_reducible rfl | (simp (disch := omega) only [j6, j5, bl_]; done))) | with_reducible (refine Tot.bc ?_) | ((first | refine Tot.rdx ?_ ?_ | refine Tot.apx ?_ ?_ | refine Tot.mkx ?_ ?_); focus (first | omega | (simp; done) | (simp; omega))))
        refine Tot.bindE Z8 (Tot.pure ?_)
        simp
    · simp only at h1 h2 h3
      subst h1 h2
      repeat (first | with_reducible (refine Tot.bp ?_) | with_reducible (refine Tot.bb ?_) | (refine Tot.ct ?_ ?_; focus (first | with_reducible rfl | (simp (disch := omega) only [j6, j5, bl_]; done))) | (refine Tot.cf ?_ ?_; focus (first | with_reducible rfl | (simp (disch := omega) only [j6, j5, bl_]; done))) | with_reducible (refine Tot.bc ?_) | ((first | refine Tot.rdx ?_ ?_ | refine Tot.apx ?_ ?_ | refine Tot.mkx ?_ ?_); focus (first | omega | (simp; done) | (simp; omega))))
      refine Tot.bindE (run w hw) ?_
      repeat (first | with_reducible (refine Tot.bp ?_) | with_reducible (refine Tot.bb ?_) | (refine Tot.ct ?_ ?_; focus (first | with_reducible rfl | (simp (disch := omega) only [j6, j5, bl_]; done))) | (refine Tot.cf ?_ ?_; focus (first | with_reducible rfl | (simp (disch := omega) only [j6, j5, bl_]; done))) | with_reducible (refine Tot.bc ?_) | ((first | refine Tot.rdx ?_ ?_ | refine Tot.apx ?_ ?_ | refine Tot.mkx ?_ ?_); focus (first | omega | (simp; done) | (simp; omega))))
      refine Tot.bindE (lab _ hlw) ?_
      refine Tot.cf ?_ ?_
      · have : ¬ zhr d (Jm d (tl w)) = t := fun e => by
          unfold zhr at e
          by_cases hh : Jm d (tl w) < 0
          · rw [if_pos hh] at e; omega
          · rw [if_neg hh] at e
            have := h3 (tl w) (by omega) e
            omega
        simp [this]
      · rw [hnil]
        repeat (first | with_reducible (refine Tot.bp ?_) | with_reducible (refine Tot.bb ?_) | (refine Tot.ct ?_ ?_; focus (first | with_reducible rfl | (simp (disch := omega) only [j6, j5, bl_]; done))) | (refine Tot.cf ?_ ?_; focus (first | with_reducible rfl | (simp (disch := omega) only [j6, j5, bl_]; done))) | with_reducible (refine Tot.bc ?_) | ((first | refine Tot.rdx ?_ ?_ | refine Tot.apx ?_ ?_ | refine Tot.mkx ?_ ?_); focus (first | omega | (simp; done) | (simp; omega))))
        refine Tot.bindE Z8 (Tot.pure ?_)
        simp
  · rw [if_neg hc] at hr
    cases hr
    by_cases ht : 0 ≤ t
    · have hR : z1 d = false := by
        cases h : z1 d
        · rfl
        · exact absurd ⟨ht, h⟩ hc
      have r1 := zii d hd w hw
      have l1 := ze4 d hd (-1) (by omega)
      rw [hR] at r1 l1
      repeat (first | with_reducible (refine Tot.bp ?_) | with_reducible (refine Tot.bb ?_) | (refine Tot.ct ?_ ?_; focus (first | with_reducible rfl | (simp (disch := omega) only [j6, j5, bl_]; done))) | (refine Tot.cf ?_ ?_; focus (first | with_reducible rfl | (simp (disch := omega) only [j6, j5, bl_]; done))) | with_reducible (refine Tot.bc ?_) | ((first | refine Tot.rdx ?_ ?_ | refine Tot.apx ?_ ?_ | refine Tot.mkx ?_ ?_); focus (first | omega | (simp; done) | (simp; omega))))
      refine Tot.bindE r1 ?_
      repeat (first | with_reducible (refine Tot.bp ?_) | with_reducible (refine Tot.bb ?_) | (refine Tot.ct ?_ ?_; focus (first | with_reducible rfl | (simp (disch := omega) only [j6, j5, bl_]; done))) | (refine Tot.cf ?_ ?_; focus (first | with_reducible rfl | (simp (disch := omega) only [j6, j5, bl_]; done))) | with_reducible (refine Tot.bc ?_) | ((first | refine Tot.rdx ?_ ?_ | refine Tot.apx ?_ ?_ | refine Tot.mkx ?_ ?_); focus (first | omega | (simp; done) | (simp; omega))))
      refine Tot.bindE l1 ?_
      have hne : ¬ (-1 : Int) = t := by omega
      simp only [Bool.false_eq_true, if_false]
      repeat (first | with_reducible (refine Tot.bp ?_) | with_reducible (refine Tot.bb ?_) | (refine Tot.ct ?_ ?_; focus (first | with_reducible rfl | (simp (disch := omega) only [j6, j5, bl_]; done))) | (refine Tot.cf ?_ ?_; focus (first | with_reducible rfl | (simp (disch := omega) only [j6, j5, bl_]; done))) | with_reducible (refine Tot.bc ?_) | ((first | refine Tot.rdx ?_ ?_ | refine Tot.apx ?_ ?_ | refine Tot.mkx ?_ ?_); focus (first | omega | (simp; done) | (simp; omega))))
      rw [hnil]
      repeat (first | with_reducible (refine Tot.bp ?_) | with_reducible (refine Tot.bb ?_) | (refine Tot.ct ?_ ?_; focus (first | with_reducible rfl | (simp (disch := omega) only [j6, j5, bl_]; done))) | (refine Tot.cf ?_ ?_; focus (first | with_reducible rfl | (simp (disch := omega) only [j6, j5, bl_]; done))) | with_reducible (refine Tot.bc ?_) | ((first | refine Tot.rdx ?_ ?_ | refine Tot.apx ?_ ?_ | refine Tot.mkx ?_ ?_); focus (first | omega | (simp; done) | (simp; omega))))
      refine Tot.bindE Z8 (Tot.pure ?_)
      simp
    · repeat (first | with_reducible (refine Tot.bp ?_) | with_reducible (refine Tot.bb ?_) | (refine Tot.ct ?_ ?_; focus (first | with_reducible rfl | (simp (disch := omega) only [j6, j5, bl_]; done))) | (refine Tot.cf ?_ ?_; focus (first | with_reducible rfl | (simp (disch := omega) only [j6, j5, bl_]; done))) | with_reducible (refine Tot.bc ?_) | ((first | refine Tot.rdx ?_ ?_ | refine Tot.apx ?_ ?_ | refine Tot.mkx ?_ ?_); focus (first | omega | (simp; done) | (simp; omega))))
      rw [hnil]
      repeat (first | with_reducible (refine Tot.bp ?_) | with_reducible (refine Tot.bb ?_) | (refine Tot.ct ?_ ?_; focus (first | with_reducible rfl | (simp (disch := omega) only [j6, j5, bl_]; done))) | (refine Tot.cf ?_ ?_; focus (first | with_reducible rfl | (simp (disch := omega) only [j6, j5, bl_]; done))) | with_reducible (refine Tot.bc ?_) | ((first | refine Tot.rdx ?_ ?_ | refine Tot.apx ?_ ?_ | refine Tot.mkx ?_ ?_); focus (first | omega | (simp; done) | (simp; omega))))
      refine Tot.bindE Z8 (Tot.pure ?_)
      simp
end Go.Proofs.Ytpohfkgjghiofaa

namespace Go.Proofs.Ytpohfkgjghiofaa
open Go Go.RowKit L
set_option linter.unusedVariables false
set_option linter.unusedSimpArgs false
section
variable {d : jd} (hd : DOk d) (hm : MOk d)
include hm in
include hm in
include hm in
include hm in
include hm in
include hd hm in
include hd hm in
include hd hm in
include hd hm in
include hd hm in
end
end Go.Proofs.Ytpohfkgjghiofaa

namespace Go.Proofs.Ytpohfkgjghiofaa
open Go.ChangeShapes Go.WideShapes Go.ChangeAt Go.RowKit
theorem zc1 {H : Type} {enc : TypeId × Value → H} {P : Program} (hl : laidOutB P = true) {W W' : World} (hb : Below W.heap.size W W') :
    ∀ (ts : List TypeId) (vs : List Value) (ds : List (DataW H)) (ps : List MemPlace), (∀ t ∈ ts, P.readableRec t = true ∧ t < P.types.size) → (∀ x ∈ ps, x.block < W.heap.size) →
      DataW.TrodAll enc P W 0 (fun _ => true) true ts vs ds ps → DataW.TrodAll enc P W' 0 (fun b => decide (b < W.heap.size)) true ts vs ds ps
  | [], vs, ds, ps, _, _, h => by
    obtain ⟨rfl, rfl, rfl⟩ := trodAll_nil h
    exact trodAll_mk0
  | t :: ts, vs, ds, ps, hr, hlt, h => by
    obtain ⟨v, vs', d, ds', p, q, rfl, rfl, rfl, h0, h1⟩ := trodAll_cons h
    have ht := hr t (by simp)
    exact trodAll_cons_mk (Below.trod hl ht.1 ht.2 h0 hb fun x hx => hlt x (by simp [hx]))
      (zc1 hl hb ts vs' ds' q (fun t ht => hr t (by simp [ht])) (fun x hx => hlt x (by simp [hx])) h1)
theorem law_post {H : Type} {enc : TypeId × Value → H} {P : Program} {f : Func} {s : ChangeSpec} {tB : TypeId} (hl : laidOutB P = true) (hr : (f.params.toList.all fun t => P.readableRec t && decide (t < P.types.size)) = true)
    (hvars : s.vars = []) (hbool : f.resultTypes = #[tB]) (hB : P.underlying tB = some .bool) {W W' : World} {args : Array Value} {ds gs : List (DataW H)} {before : List MemPlace}
    (hW : DataW.Whole enc P f.params.toList s.vars false W args.toList ds gs before) (hfn : s.fn H ds = { results := [.lit (.bool true)], args := ds }) (hb : Below W.heap.size W W') :
    s.post enc P f false true false false W args (.bool true) W' := by
  have hW' := hW
  obtain ⟨p, q, hA, hV, hbef, _, _⟩ := hW
  rw [hvars] at hV
  obtain ⟨rfl, rfl⟩ := trodVars_none hV
  rw [List.append_nil] at hbef
  subst hbef
  have hlt : ∀ x ∈ before, x.block < W.heap.size := fun x hx => by simpa using hW'.lt x hx
  have hr' : ∀ t ∈ f.params.toList, P.readableRec t = true ∧ t < P.types.size := by
    intro t ht
    have := List.all_eq_true.1 hr t ht
    simpa using this
  refine ⟨ds, [], before, [], before, [], hW', ?_, ?_, ?_, hb.frame _, fun h => by cases h⟩
  · rw [List.append_nil, hfn, hbool]
    exact trodAll_mk1 (shut_bool hB true)
  · rw [List.append_nil, hfn]
    exact zc1 hl hb _ _ _ _ hr' hlt hA
  · rw [List.append_nil, hfn, hvars]
    rfl
end Go.Proofs.Ytpohfkgjghiofaa

namespace Go.Proofs.Ytpohfkgjghiofaa
open Go Go.RowKit Go.ChangeShapes Go.WideShapes L
set_option linter.unusedVariables false
set_option linter.unusedSimpArgs false
abbrev F0 : ZM := ⟨fun _ => False, 0⟩
def OkI (k : IntKind) (z : Int) : Prop := (Lit.int k z).wf = true
theorem OkI.u8 {z : Int} (h : OkI .u8 z) : 0 ≤ z ∧ z < 256 := by
  have : 0 ≤ z ∧ z ≤ 255 := by simpa [OkI, Lit.wf, IntKind.min, IntKind.max, IntKind.signed, IntKind.bits] using h
  omega
section
variable {w : World} {Z : ZM} {H : PHeap} {V : Nat → Value}
theorem rl_nil : RpL Z H V w [] [] := ⟨rfl, fun i p v h => by simp at h⟩
theorem rl_cons {p : PV} {v : Value} {ps : List PV} {vs : List Value} (h : Rp Z H V w p v) (hs : RpL Z H V w ps vs) : RpL Z H V w (p :: ps) (v :: vs) := ⟨by simp [hs.1], fun i a b h1 h2 => by
  cases i with
  | zero => simp at h1 h2; subst h1; subst h2; exact h
  | succ i => exact hs.2 i a b (by simpa using h1) (by simpa using h2)⟩
theorem rl_app {ps qs : List PV} {vs us : List Value} (h : RpL Z H V w ps vs) (hs : RpL Z H V w qs us) : RpL Z H V w (ps ++ qs) (vs ++ us) := by
  refine ⟨by simp [h.1, hs.1], fun i a b h1 h2 => ?_⟩
  by_cases hi : i < ps.length
  · rw [List.getElem?_append_left hi] at h1
    rw [List.getElem?_append_left (h.1 ▸ hi)] at h2
    exact h.2 i a b h1 h2
  · rw [List.getElem?_append_right (by omega)] at h1
    rw [List.getElem?_append_right (by rw [← h.1]; omega), ← h.1] at h2
    exact hs.2 _ a b h1 h2
theorem zkt {ps qs : List PV} {cs : List Value} (n : Nat) (h : RpL Z H V w ps (cs.take n)) (hs : RpL Z H V w qs (cs.drop n)) : RpL Z H V w (ps ++ qs) cs := by
  have := rl_app h hs
  rwa [List.take_append_drop] at this
theorem rl_all {ps : List PV} {cs : List Value} {n : Nat} (hn : cs.length ≤ n) (h : RpL Z H V w ps (cs.take n)) : RpL Z H V w ps cs := by rwa [List.take_of_length_le hn] at h
theorem zo3 {ps : List PV} {cs : List Value} {m n k : Nat} (e : m + n = k) (h : RpL Z H V w ps (cs.drop k)) : RpL Z H V w ps ((cs.drop m).drop n) := by rw [List.drop_drop, e]; exact h
theorem rl_one {p : PV} {v : Value} (h : RpL Z H V w [p] [v]) : Rp Z H V w p v := h.2 0 p v rfl rfl
theorem rl_agg {ps : List PV} {cs : Array Value} (h : RpL Z H V w ps (Value.agg cs).cells.toList) : Rp Z H V w (.agg ps) (.agg cs) :=
  .agg _ _ (by simpa [Value.cells] using h.1) fun i p u h1 h2 => h.2 i p u h1 (by simpa [Value.cells] using h2)
end
section
variable {H : Type} {enc : TypeId × Value → H} {P : Program} {w : World} {base : Nat} {spare : Nat → Bool} {held : Bool}
def Z6 (enc : TypeId × Value → H) (P : Program) (w : World) (base : Nat) (spare : Nat → Bool) (held : Bool) (t : TypeId) {α : Type} (rep : α → PV) (C : α → Prop) : Prop :=
  ∀ (fuel : Nat) (cs : List Value) (x : DataW H × List MemPlace), DataW.trod enc P w base spare held fuel t cs = some x → ∃ a, RpL F0 PHeap.empty V0 w (rep a).cells cs ∧ C a
theorem zh6 {t : TypeId} {k : IntKind} (ht : P.underlying t = some (.int k)) : Z6 enc P w base spare held t (fun z => .u (.int k z)) (OkI k) := fun fuel cs x h => by
  obtain ⟨n, rfl, _, hw⟩ := DataW.trod_int ht h
  exact ⟨n, rl_cons (.u _) rl_nil, hw⟩
theorem zmc {t : TypeId} (ht : P.underlying t = some .string) : Z6 enc P w base spare held t S (fun s => s.size ≤ maxLen) := fun fuel cs x h => by
  obtain ⟨n, rfl, _, hs⟩ := DataW.trod_string ht h
  exact ⟨n, rl_cons (.u _) rl_nil, hs⟩
theorem zj4 {α : Type} [Inhabited α] {t e : TypeId} {k : Nat} {rep : α → PV} {C : α → Prop} (ht : P.underlying t = some (.slice e)) (hk : P.cellsOf e = k) (hpos : 0 < k) (hcell : ∀ a, (rep a).cells.length = k)
    (he : Z6 enc P w base spare held e rep C) : Z6 enc P w base spare held t (fun (l : List α) => .sl k (l.map rep)) (fun l => l.length ≤ maxLen ∧ ∀ a ∈ l, C a) := fun fuel cs x h => by
  have helem := he
  suffices hs : ∃ (l : List α) (v : Value), cs = [v] ∧ Rp F0 PHeap.empty V0 w (.sl k (l.map rep)) v ∧ l.length ≤ maxLen ∧ ∀ a ∈ l, C a by
    obtain ⟨l, v, rfl, h1, h2⟩ := hs
    exact ⟨l, rl_cons h1 rl_nil, h2⟩
  rcases Go.Deep.open_slice ht h with ⟨hcs, _⟩ | ⟨a, len, cap, m, n, D, Pl, hcs, hb, hl, hm, hmm, _, hx⟩
  · exact ⟨[], _, hcs, .nil _ _ _, Nat.zero_le _, fun a ha => by cases ha⟩
  · have hlm : len ≤ m := by rw [hmm]; split <;> omega
    by_cases h0 : len = 0
    · subst h0; exact ⟨[], _, hcs, .nil _ _ _, Nat.zero_le _, fun a ha => by cases ha⟩
    have each : ∀ i, i < m → ∃ q : α, (∀ r, r < k → ∃ u p, w.cell? (a.add (i * k + r)) = some u ∧ (rep q).cells[r]? = some p ∧ Rp F0 PHeap.empty V0 w p u) ∧ C q := fun i hi => by
      obtain ⟨cs', h1, h2⟩ := hx i hi
      rw [hk] at h1
      obtain ⟨_, hlen, hcl⟩ := World.cells?_some h1
      obtain ⟨q, hq, hC⟩ := helem n cs' _ h2
      refine ⟨q, fun r hr => ?_, hC⟩
      have e0 := hcl r hr
      rw [Go.Deep.add_add] at e0
      have h3 : r < cs'.length := by omega
      have h4 : r < (rep q).cells.length := by rw [hcell]; exact hr
      rw [List.getElem?_eq_getElem h3] at e0
      exact ⟨_, _, e0, List.getElem?_eq_getElem h4, hq.2 r _ _ (List.getElem?_eq_getElem h4) (List.getElem?_eq_getElem h3)⟩
    obtain ⟨q, hq⟩ := Go.Deep.choose_lt each
    obtain ⟨b, o, spot⟩ := a
    obtain ⟨u0, _, hu0, _, _⟩ := (hq 0 (by omega)).1 0 hpos
    have hspot : spot = none := by simpa [Addr.add] using World.cell?_spot hu0
    subst hspot
    have hbl : b < w.heap.size := by
      unfold World.cell? at hu0
      by_cases hlt : b < w.heap.size
      · exact hlt
      · simp [Addr.add, Array.getElem?_eq_none (by omega : w.heap.size ≤ b)] at hu0
    refine ⟨(List.range len).map q, _, hcs, ?_, by simp; omega, fun z hz => by obtain ⟨i, hi, rfl⟩ := List.mem_map.1 hz; exact (hq i (by have := List.mem_range.1 hi; omega)).2⟩
    have hu : ∀ y ∈ ((List.range len).map q).map rep, y.cells.length = k := fun y hy => by obtain ⟨z, _, rfl⟩ := List.mem_map.1 hy; exact hcell z
    have hlx : (((List.range len).map q).map rep).length = len := by simp
    have hadd : ∀ k, w.cell? ((⟨b, o, none⟩ : Addr).add k) = w.cell? ⟨b, o + k, none⟩ := fun k => by rw [zl]
    have key : ∀ (i : Nat) (p : PV), ((((List.range len).map q).map rep).flatMap PV.cells)[i]? = some p → ∃ v, w.cell? ⟨b, o + i, none⟩ = some v ∧ Rp F0 PHeap.empty V0 w p v := fun i p hp => by
      have hi : i < len * k := by
        have := (List.getElem?_eq_some_iff.1 hp).1
        rw [L.flat_length _ hu, hlx] at this
        exact this
      have hj : i / k < len := by rw [Nat.div_lt_iff_lt_mul hpos]; exact hi
      have hr : i % k < k := Nat.mod_lt _ hpos
      have hy : (((List.range len).map q).map rep)[i / k]? = some (rep (q (i / k))) := by simp [hj]
      have e := zci hu (i / k) (i % k) _ hy hr
      have hdm : i / k * k + i % k = i := by rw [Nat.mul_comm]; exact Nat.div_add_mod i k
      rw [hdm, hp] at e
      obtain ⟨u, p', h1, h2, h3⟩ := (hq (i / k) (by omega)).1 (i % k) hr
      rw [← e] at h2
      cases h2
      rw [hadd, hdm] at h1
      exact ⟨u, h1, h3⟩
    have hsl := Rp.sl (Z := F0) (H := PHeap.empty) (V := V0) (w := w) k (((List.range len).map q).map rep) b o cap (fun i => (w.cell? ⟨b, o + i, none⟩).getD undef) hu (by simpa using hl) (fun h => (Qj.1 h).elim) hbl
      (fun i p hp => by obtain ⟨v, hv, _⟩ := key i p hp; rw [hv]; rfl) (fun i p hp => by obtain ⟨v, hv, hr⟩ := key i p hp; simp only [hv, Option.getD_some]; exact hr)
    rwa [hlx] at hsl
theorem zmd {α : Type} [Inhabited α] {t e : TypeId} {n : Nat} {rep : α → PV} {C : α → Prop} (ht : P.underlying t = some (.array n e)) (hk : P.cellsOf e = 1) (hn : P.cellsOf t = n) (hcell : ∀ a, (rep a).cells = [rep a])
    (he : Z6 enc P w base spare held e rep C) : Z6 enc P w base spare held t (arV (n := n) rep) (fun a => ∀ x ∈ a.1, C x) := fun fuel cs x h => by
  obtain ⟨zs, m, _, _, hcl, hzl, hz⟩ := DataW.trod_array ht h
  rw [hn] at hcl
  have each : ∀ i, i < n → ∃ q : α, (∃ u, cs[i]? = some u ∧ Rp F0 PHeap.empty V0 w (rep q) u) ∧ C q := fun i hi => by
    have h1 := hz i hi
    rw [hk, Nat.mul_one, List.getElem?_eq_getElem (by omega)] at h1
    obtain ⟨q, hq, hC⟩ := he m _ _ h1
    have hd : (cs.drop i).take 1 = [cs[i]'(by omega)] := by rw [List.drop_eq_getElem_cons (by omega)]; rfl
    rw [hd, hcell] at hq
    exact ⟨q, ⟨_, List.getElem?_eq_getElem (by omega), rl_one hq⟩, hC⟩
  obtain ⟨q, hq⟩ := Go.Deep.choose_lt each
  refine ⟨⟨(List.range n).map q, by simp⟩, ?_, fun x hx => ?_⟩
  · refine ⟨by simp [arV, PV.cells, hcl], fun i p v h1 h2 => ?_⟩
    have hi : i < n := by have := (List.getElem?_eq_some_iff.1 h2).1; omega
    simp [arV, PV.cells, hi] at h1
    obtain ⟨u, h3, h4⟩ := (hq i hi).1
    rw [h3] at h2
    cases h2
    subst h1
    exact h4
  · obtain ⟨i, hi, rfl⟩ := List.mem_map.1 hx
    exact (hq i (List.mem_range.1 hi)).2
end
theorem row_calls {f : FuncId} {qs : List PV} (h : PCall Try.prog f qs (· = B true)) {w : World} {vs : List Value} (hr : RpL F0 PHeap.empty V0 w qs vs) : Calls Try.prog f vs.toArray w fun e w' => e = .returned (.bool true) ∧ Below w.heap.size w w' :=
  (h F0 w vs (fun b hb => False.elim hb) (Nat.zero_le _) hr).mono fun e w' ⟨v, p, he, hp, _, hR, hb⟩ => by
    subst hp
    rw [rpu hR] at he
    exact ⟨he, hb⟩
end Go.Proofs.Ytpohfkgjghiofaa

namespace Go.Proofs.Ytpohfkgjghiofaa
open Go Go.RowKit Go.ChangeShapes Go.WideShapes L
set_option linter.unusedVariables false
set_option linter.unusedSimpArgs false
section
variable {H : Type} {enc : TypeId × Value → H} {w : World} {base : Nat} {spare : Nat → Bool} {held : Bool}
theorem cl_5 : Try.prog.cellsOf 5 = 1 := by kernel_rfl
set_option maxRecDepth 20000 in
theorem op_5 : Z6 enc Try.prog w base spare held 5 U8 (fun x => OkI .u8 x) := zh6 Try.underlying5
theorem zo1 : Try.prog.cellsOf 22 = 256 := by kernel_rfl
set_option maxRecDepth 20000 in
theorem op_22 : Z6 enc Try.prog w base spare held 22 (arV (n := 256) U8) (fun x => ∀ y1 ∈ x.1, OkI .u8 y1) := zmd Try.underlying22 cl_5 zo1 (fun _ => rfl) op_5
theorem cl_3 : Try.prog.cellsOf 3 = 1 := by kernel_rfl
set_option maxRecDepth 20000 in
theorem op_3 : Z6 enc Try.prog w base spare held 3 I (fun x => OkI .i64 x) := zh6 Try.underlying3
theorem zo2 : Try.prog.cellsOf 24 = 1 := by kernel_rfl
set_option maxRecDepth 20000 in
theorem zoy : Z6 enc Try.prog w base spare held 24 slI (fun x => x.length ≤ maxLen ∧ ∀ y1 ∈ x, OkI .i64 y1) := zj4 Try.underlying24 cl_3 (by decide) (fun _ => rfl) op_3
theorem cl_23 : Try.prog.cellsOf 23 = 1 := by kernel_rfl
set_option maxRecDepth 20000 in
theorem op_23 : Z6 enc Try.prog w base spare held 23 qk (fun x => x.length ≤ maxLen ∧ ∀ y1 ∈ x, y1.length ≤ maxLen ∧ ∀ y2 ∈ y1, OkI .i64 y2) := zj4 Try.underlying23 zo2 (by decide) (fun _ => rfl) zoy
theorem cl_26 : Try.prog.cellsOf 26 = 259 := by kernel_rfl
instance : Inhabited jd := ⟨⟨(arZ 256 0), 0, [], []⟩⟩
structure zak (x : jd) : Prop where
  jp : ∀ y9 ∈ x.jp.1, OkI .u8 y9
  ji : OkI .i64 x.ji
  je : x.je.length ≤ maxLen ∧ ∀ y8 ∈ x.je, y8.length ≤ maxLen ∧ ∀ y2 ∈ y8, OkI .i64 y2
  jl : x.jl.length ≤ maxLen ∧ ∀ y9 ∈ x.jl, OkI .i64 y9
set_option maxRecDepth 20000 in
theorem op_26 : Z6 enc Try.prog w base spare held 26 jc (zak) := fun fuel cs x h => by
  obtain ⟨xs, n, _, _, hcl, hxl, hf⟩ := DataW.trod_struct Try.underlying26 h
  rw [cl_26] at hcl
  have hx : xs.length = 4 := hxl
  have g0 : DataW.trod enc Try.prog w base spare held n 22 ((cs.drop 0).take (Try.prog.cellsOf 22)) = xs[0]? := hf 0 _ rfl
  rw [zo1, List.getElem?_eq_getElem (by omega)] at g0
  obtain ⟨a0, r0, c0⟩ := op_22 _ _ _ g0
  have g1 : DataW.trod enc Try.prog w base spare held n 3 ((cs.drop 256).take (Try.prog.cellsOf 3)) = xs[1]? := hf 1 _ rfl
  rw [cl_3, List.getElem?_eq_getElem (by omega)] at g1
  obtain ⟨a1, r1, c1⟩ := op_3 _ _ _ g1
  have g2 : DataW.trod enc Try.prog w base spare held n 23 ((cs.drop 257).take (Try.prog.cellsOf 23)) = xs[2]? := hf 2 _ rfl
  rw [cl_23, List.getElem?_eq_getElem (by omega)] at g2
  obtain ⟨a2, r2, c2⟩ := op_23 _ _ _ g2
  have g3 : DataW.trod enc Try.prog w base spare held n 24 ((cs.drop 258).take (Try.prog.cellsOf 24)) = xs[3]? := hf 3 _ rfl
  rw [zo2, List.getElem?_eq_getElem (by omega)] at g3
  obtain ⟨a3, r3, c3⟩ := zoy _ _ _ g3
  exact ⟨⟨a0, a1, a2, a3⟩, (zkt 256 r0 (zkt 1 r1 (zo3 (m := 256) (n := 1) (k := 257) rfl (zkt 1 r2 (zo3 (m := 257) (n := 1) (k := 258) rfl (rl_all (n := 1) (by simp [hcl]) r3)))))), ⟨c0, c1, c2, c3⟩⟩
set_option maxRecDepth 20000 in
theorem op_9 : Z6 enc Try.prog w base spare held 9 S (fun x => x.size ≤ maxLen) := zmc Try.underlying9
end
end Go.Proofs.Ytpohfkgjghiofaa

namespace Go.Proofs.Ytpohfkgjghiofaa
open Go Go.RowKit L
theorem dOk_of {d : jd} (h : zak d) : DOk d := ⟨fun x hx => (h.jp x hx).u8, Nat.le_trans h.je.1 (by decide), fun r hr => Nat.le_trans (h.je.2 r hr).1 (by decide)⟩
theorem LiveShown_tot (d : jd) (t : Int) (w : ByteArray) (h : zak d) (_ : OkI .i64 t) (hw : w.size ≤ maxLen) : Tot (g_law15_LiveShown d t w) (· = true) := zht d t w (dOk_of h) (Nat.le_trans h.je.1 (by decide)) (Nat.le_trans hw (by decide))
end Go.Proofs.Ytpohfkgjghiofaa
