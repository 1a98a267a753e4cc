/-
  Texts of this proof, put together: Lv30.
-/

import Derived.Test.YtpohfkgjghiofaaQ3LiveShown

namespace Go.Proofs.Ytpohfkgjghiofaa
open Go Go.RowKit L
set_option maxRecDepth 10000
set_option maxHeartbeats 4000000
set_option linter.unusedVariables false
set_option linter.unusedSimpArgs false
structure jd where
  jp : (Arr 256 Int)
  ji : Int
  je : (List (List Int))
  jl : (List Int)
def jc (x : jd) : PV := .agg (((arV (n := 256) U8) x.jp).cells ++ [I x.ji, qk x.je, slI x.jl])
theorem qa (x : jd) : NoP (jc x) := .agg _ (zoc (Vr (vc _ (fun _ => (.u _)))) (js (.u _) (js (zb3 _) (js (ye _) (j2)))))
theorem qe (x : jd) : (jc x).cells.length = 259 := (zll (jj _ _ (fun _ => rfl)) rfl)
theorem qt (H : PHeap) (x : jd) : (jc x).cells.all (ya H) = true := (zls (zet _ _ _ (fun _ => rfl)) rfl)
theorem yy (x : jd) : vy true 256 ((jc x).cells.drop 0) = some ((arV (n := 256) U8) x.jp) := (ld_l (jj _ _ (fun _ => rfl)))
theorem zi (x : jd) : vy false 1 ((jc x).cells.drop 256) = some (I x.ji) := (zhq (m := 256) (i := 0) (jj _ _ (fun _ => rfl)) rfl)
theorem qm (x : jd) : vy false 1 ((jc x).cells.drop 257) = some (qk x.je) := (zhq (m := 256) (i := 1) (jj _ _ (fun _ => rfl)) rfl)
theorem yg (x : jd) : vy false 1 ((jc x).cells.drop 258) = some (slI x.jl) := (zhq (m := 256) (i := 2) (jj _ _ (fun _ => rfl)) rfl)
structure jo where
  jq : Int
  Q0 : (Arr 4 Int)
def jr (x : jo) : PV := .agg ([I x.jq] ++ ((arV (n := 4) (iK .u64)) x.Q0).cells)
theorem zix (x : jo) : NoP (jr x) := .agg _ (zoc (js (.u _) (j2)) (Vr (vc _ (fun _ => (.u _)))))
theorem zja (x : jo) : NoF (jr x) := .agg _ (nofa (Yr (.u _) (zkn)) (zmm (zlr _ (fun _ => (.u _)))))
theorem ym (x : jo) : (jr x).cells.length = 5 := (zll rfl (jj _ _ (fun _ => rfl)))
theorem zu (H : PHeap) (x : jo) : (jr x).cells.all (ya H) = true := (zls rfl (zet _ _ _ (fun _ => rfl)))
theorem zr (x : jo) : vy false 1 ((jr x).cells.drop 0) = some (I x.jq) := rfl
theorem zde (x : jo) : vy true 4 ((jr x).cells.drop 1) = some ((arV (n := 4) (iK .u64)) x.Q0) := (zhq (m := 1) (i := 0) rfl (znl (jj _ _ (fun _ => rfl))))
def ja (l : List jo) : PV := .sl 5 (l.map jr)
theorem jt (l : List jo) : NoP (ja l) := .sl _ _ fun c hc => by obtain ⟨z, _, rfl⟩ := List.mem_map.1 hc; exact (zix _)
theorem Qb (l : List jo) : NoF (ja l) := .sl _ _ fun c hc => by obtain ⟨z, _, rfl⟩ := List.mem_map.1 hc; exact (zja _)
def Zi (l : List Int) : PV := .sl 1 (l.map U8)
def qf (l : List (List jo)) : PV := .sl 1 (l.map ja)
theorem z8 (l : List (List jo)) : NoP (qf l) := .sl _ _ fun c hc => by obtain ⟨z, _, rfl⟩ := List.mem_map.1 hc; exact (jt _)
def jg (l : List (Arr 4 Int)) : PV := .sl 4 (l.map (arV (n := 4) (iK .u64)))
theorem vq (l : List (Arr 4 Int)) : NoP (jg l) := .sl _ _ fun c hc => by obtain ⟨z, _, rfl⟩ := List.mem_map.1 hc; exact (vc _ (fun _ => (.u _)))
theorem Vg (l : List (Arr 4 Int)) : NoF (jg l) := .sl _ _ fun c hc => by obtain ⟨z, _, rfl⟩ := List.mem_map.1 hc; exact (zlr _ (fun _ => (.u _)))
structure q6 where
  f_Name : ByteArray
  Zp : (List jo)
  jp : Int
def qd (x : q6) : PV := .agg [S x.f_Name, ja x.Zp, I x.jp]
theorem zfh (x : q6) : NoP (qd x) := .agg _ (js (.u _) (js (jt _) (js (.u _) (j2))))
theorem zg0 (H : PHeap) (x : q6) : (qd x).cells.all (ya H) = true := rfl
theorem Qu (x : q6) : vy false 1 ((qd x).cells.drop 1) = some (ja x.Zp) := rfl
def vg (l : List q6) : PV := .sl 3 (l.map qd)
theorem zcp (l : List q6) : NoP (vg l) := .sl _ _ fun c hc => by obtain ⟨z, _, rfl⟩ := List.mem_map.1 hc; exact (zfh _)
structure jy where
  jm : (List (Arr 4 Int))
  yd : (List Int)
  qv : (List Bool)
  qp : (List (List Int))
  Qc : (List Int)
def jn (x : jy) : PV := .agg [jg x.jm, slI x.yd, slB x.qv, qk x.qp, slI x.Qc]
theorem yl (x : jy) : NoP (jn x) := .agg _ (js (vq _) (js (ye _) (js (zcl _) (js (zb3 _) (js (ye _) (j2))))))
theorem zcu (x : jy) : NoF (jn x) := .agg _ (Yr (Vg _) (Yr (zdr _) (Yr (zoo _) (Yr (zna _) (Yr (zdr _) (zkn))))))
theorem yb (x : jy) : (jn x).cells.length = 5 := rfl
theorem zw (H : PHeap) (x : jy) : (jn x).cells.all (ya H) = true := rfl
theorem yp (x : jy) : vy false 1 ((jn x).cells.drop 0) = some (jg x.jm) := rfl
theorem V3 (x : jy) : vy false 1 ((jn x).cells.drop 1) = some (slI x.yd) := rfl
theorem zcr (x : jy) : vy false 1 ((jn x).cells.drop 2) = some (slB x.qv) := rfl
theorem Zy (x : jy) : vy false 1 ((jn x).cells.drop 3) = some (qk x.qp) := rfl
theorem zc2 (x : jy) : vy false 1 ((jn x).cells.drop 4) = some (slI x.Qc) := rfl
def zhm (l : List ByteArray) : PV := .sl 1 (l.map S)
theorem zkb (l : List ByteArray) : NoP (zhm l) := .sl _ _ fun c hc => by obtain ⟨z, _, rfl⟩ := List.mem_map.1 hc; exact (.u _)
structure jk where
  vi : Int
  yr : Bool
def y0 (x : jk) : PV := .agg [U8 x.vi, B x.yr]
theorem Ye (x : jk) : (y0 x).cells.length = 2 := rfl
theorem zgf (H : PHeap) (x : jk) : (y0 x).cells.all (ya H) = true := rfl
def zj (x : jk) : Array Value := #[.int .u8 x.vi, .bool x.yr]
def jz (a b : jk) : List Bool := [a.vi == b.vi, a.yr == b.yr]
theorem zfi (a b : jk) : eqS Try.prog 115 (zj a) (zj b) = some (jz a b) := by kernel_rfl
theorem zfg (a b : jk) (h : (jz a b).all id = true) : a = b := by cases a; cases b; simp only [jz, List.all_cons, List.all_nil, Bool.and_true, Bool.and_eq_true, id, beq_iff_eq] at h; obtain ⟨rfl, rfl⟩ := h; rfl
theorem Vo : zkq Try.prog 115 (fun a => Value.agg (zj a)) (fun a b => (jz a b).all id) := klawS (⟨0, false⟩ : jk) zfi zfg (fun a => by simp [zj, Instr.sameBits])
structure qc where
  Qd : Int
  Jh : ByteArray
def ve (x : qc) : PV := .agg [I x.Qd, S x.Jh]
theorem za6 (H : PHeap) (x : qc) : (ve x).cells.all (ya H) = true := rfl
def Z9 (l : List qc) : PV := .sl 2 (l.map ve)
def Qp (a0 : jd) : G Bool :=
  G.bind (G.loop (σ := (Int × Int)) (α := Int) (fun (x7, x8) => G.cond (decide (x8 < (a0.je.length : Int))) (G.bind (G.lift (idx a0.je x8)) fun x18 => G.pure (.inl ((w64 (x7 + (min (x18.length : Int) 10000))), (w64 (x8 + 1))))) (G.pure (.inr x7))) (0, 0)) fun x20 => G.pure (((decide ((a0.je.length : Int) ≤ 300)) && (decide ((a0.jl.length : Int) ≤ 300))) && (decide (x20 ≤ 10000)))
theorem zfc {nn : Nat} {a0 : jd} {r : Bool} (h0 : Qp a0 nn = some r) : PCall Try.prog 5 [jc a0] (· = B r) := by
 unfold Qp at h0
 refine PCall.intro' Try.func5 rfl Try.ntmps5 (by simp) fun W => ?_
 refine A1 0 (e_ (jc a0)) fun F f0 => ?_
 generalize PHeap.empty = H
 refine SR fun K1 hK1 => ?_
 refine Q3 (PV.rp (jc a0).cells) (zk f0 (qt _ _)) ?_
 refine Q1 _ (jf (e_ (B false))) ?_
 refine PL.nil (hK1 _ _ ?_)
 refine A1 1 (e_ (PV.rp (jc a0).cells)) fun F f1 => ?_
 refine SR fun K2 hK2 => ?_
 refine Q1 _ (jf (e_ (I 0))) ?_
 refine PL.nil (hK2 _ _ ?_)
 refine A2 1 f1 3 (e_ (I 0)) fun F f1 f3 => ?_
 refine PC.seq fun K3 hK3 => ?_
 refine SR fun K4 hK4 => ?_
 refine Q1 _ (jf (e_ (I 0))) ?_
 refine PL.nil (hK4 _ _ ?_)
 refine A3 1 f1 3 f3 4 (e_ (I 0)) fun F f1 f3 f4 => ?_
 refine PC.block ?_
 obtain ⟨o9, ho9, h0⟩ := bs h0
 obtain ⟨B10, hB10, ho9⟩ := G.loop_some ho9
 refine PC.loop (fun m13 F H => ∃ s22 : (Int × Int), qw B10 m13 s22 = some o9 ∧ F 1 = (PV.rp (jc a0).cells) ∧ F 3 = (I s22.1) ∧ F 4 = (I s22.2)) (m := nn) ⟨(0, 0), ho9, f1, f3, f4⟩ fun m13 F H hI => ?_
 obtain ⟨⟨x7, x8⟩, ho9, f1, f3, f4⟩ := hI
 obtain ⟨m13, rfl, st11, hs12, ho9⟩ := jw ho9
 rw [hB10] at hs12
 try dsimp only at hs12
 refine PC.seq fun K14 hK14 => ?_
 refine SR fun K15 hK15 => ?_
 refine Q1 _ (jb f4) ?_
 refine Q1 (PV.rp ((jc a0).cells.drop 257)) (j8 vx qi (by decide) f1) ?_
 refine Q1 (qk a0.je) (jx qi (e_ (PV.rp ((jc a0).cells.drop 257))) (qm a0)) ?_
 refine Q1 (I (a0.je.length : Int)) (qg (rep := slI) (xs := a0.je) vp (e_ (qk a0.je))) ?_
 refine Q1 _ (jh rfl (e_ (I x8)) (e_ (I (a0.je.length : Int))) jv) ?_
 refine PL.nil (hK15 _ _ ?_)
 refine A4 1 f1 3 f3 4 f4 9 (e_ (B (decide (x8 < (a0.je.length : Int))))) fun F f1 f3 f4 f9 => ?_
 rcases cz hs12 with ⟨hb16, hs12⟩ | ⟨hb16, hs12⟩
 refine PC.condTb f9 hb16 ?_
 refine PC.skip ?_
 refine hK14 _ _ ?_
 refine A3 1 f1 3 f3 4 f4 fun F f1 f3 f4 => ?_
 refine PC.seq fun K17 hK17 => ?_
 refine PC.block ?_
 refine PC.region ?_
 refine Q1 _ (jb f3) ?_
 refine Q1 (PV.rp ((jc a0).cells.drop 257)) (j8 vx qi (by decide) f1) ?_
 refine Q1 (qk a0.je) (jx qi (e_ (PV.rp ((jc a0).cells.drop 257))) (qm a0)) ?_
 refine Q1 _ (jb f4) ?_
 obtain ⟨x18, hx18, hs12⟩ := bs hs12
 refine Q1 (PV.rp (slI x18).cells) (j1 (rep := slI) (xs := a0.je) Jz (e_ (qk a0.je)) (e_ (I x8)) hx18) ?_
 refine Q1 (slI x18) (qr qh (e_ (PV.rp (slI x18).cells))) ?_
 refine Q1 (I (x18.length : Int)) (qg (rep := I) (xs := x18) ql (e_ (slI x18))) ?_
 refine Q1 (I (min (x18.length : Int) 10000)) (znc (e_ (I (x18.length : Int))) (e_ (I 10000))) ?_
 refine Q1 _ (jh rfl (e_ (I x7)) (e_ (I (min (x18.length : Int) 10000))) j3) ?_
 refine Q1 _ (jf (e_ (I (w64 (x7 + (min (x18.length : Int) 10000)))))) ?_
 refine PL.nil (hK17 _ _ ?_)
 refine A3 1 f1 3 (e_ (I (w64 (x7 + (min (x18.length : Int) 10000))))) 4 f4 fun F f1 f3 f4 => ?_
 refine PC.region ?_
 refine Q1 _ (jb f4) ?_
 refine Q1 _ (jh rfl (e_ (I x8)) (e_ (I 1)) j3) ?_
 refine Q1 _ (jf (e_ (I (w64 (x8 + 1))))) ?_
 refine PL.nil ?_
 have hs12 := pz hs12
 subst hs12
 exact ⟨m13, Nat.lt_succ_self _, ((w64 (x7 + (min (x18.length : Int) 10000))), (w64 (x8 + 1))), ho9, f1, f3, (e_ (I (w64 (x8 + 1))))⟩
 refine PC.condFb f9 hb16 ?_
 refine PC.exit ?_
 have hs12 := pz hs12
 subst hs12
 try dsimp only at ho9
 subst ho9
 try dsimp only at h0
 refine hK3 _ _ ?_
 refine A2 1 f1 3 f3 fun F f1 f3 => ?_
 refine SR fun K19 hK19 => ?_
 refine Q1 (PV.rp ((jc a0).cells.drop 257)) (j8 vx qi (by decide) f1) ?_
 refine Q1 (qk a0.je) (jx qi (e_ (PV.rp ((jc a0).cells.drop 257))) (qm a0)) ?_
 refine Q1 (I (a0.je.length : Int)) (qg (rep := slI) (xs := a0.je) vp (e_ (qk a0.je))) ?_
 refine Q1 _ (jh rfl (e_ (I (a0.je.length : Int))) (e_ (I 300)) Qq) ?_
 refine Q1 _ (jb (e_ (B (decide ((a0.je.length : Int) ≤ 300))))) ?_
 refine GT (PV.rp ((jc a0).cells.drop 258)) rfl (e_ (B (decide ((a0.je.length : Int) ≤ 300)))) (fun hb => j8 ze qh (by decide) f1) ?_
 refine GT (slI a0.jl) rfl (e_ (B (decide ((a0.je.length : Int) ≤ 300)))) (fun hb => jx qh (gvp hb (e_ (gv (decide ((a0.je.length : Int) ≤ 300)) (PV.rp ((jc a0).cells.drop 258))))) (yg a0)) ?_
 refine GT (I (a0.jl.length : Int)) rfl (e_ (B (decide ((a0.je.length : Int) ≤ 300)))) (fun hb => qg (rep := I) (xs := a0.jl) ql (gvp hb (e_ (gv (decide ((a0.je.length : Int) ≤ 300)) (slI a0.jl))))) ?_
 refine GT (B (decide ((a0.jl.length : Int) ≤ 300))) rfl (e_ (B (decide ((a0.je.length : Int) ≤ 300)))) (fun hb => jh rfl (gvp hb (e_ (gv (decide ((a0.je.length : Int) ≤ 300)) (I (a0.jl.length : Int))))) (e_ (I 300)) Qq) ?_
 refine Q1 (B ((decide ((a0.je.length : Int) ≤ 300)) && (decide ((a0.jl.length : Int) ≤ 300)))) (vt (e_ (B (decide ((a0.je.length : Int) ≤ 300)))) (e_ (gv (decide ((a0.je.length : Int) ≤ 300)) (B (decide ((a0.jl.length : Int) ≤ 300))))) rfl) ?_
 refine Q1 _ (jb (e_ (B ((decide ((a0.je.length : Int) ≤ 300)) && (decide ((a0.jl.length : Int) ≤ 300)))))) ?_
 refine GT (I x7) rfl (e_ (B ((decide ((a0.je.length : Int) ≤ 300)) && (decide ((a0.jl.length : Int) ≤ 300))))) (fun hb => jb f3) ?_
 refine GT (B (decide (x7 ≤ 10000))) rfl (e_ (B ((decide ((a0.je.length : Int) ≤ 300)) && (decide ((a0.jl.length : Int) ≤ 300))))) (fun hb => jh rfl (gvp hb (e_ (gv ((decide ((a0.je.length : Int) ≤ 300)) && (decide ((a0.jl.length : Int) ≤ 300))) (I x7)))) (e_ (I 10000)) Qq) ?_
 refine Q1 (B (((decide ((a0.je.length : Int) ≤ 300)) && (decide ((a0.jl.length : Int) ≤ 300))) && (decide (x7 ≤ 10000)))) (vt (e_ (B ((decide ((a0.je.length : Int) ≤ 300)) && (decide ((a0.jl.length : Int) ≤ 300))))) (e_ (gv ((decide ((a0.je.length : Int) ≤ 300)) && (decide ((a0.jl.length : Int) ≤ 300))) (B (decide (x7 ≤ 10000))))) rfl) ?_
 refine Q1 _ (jf (e_ (B (((decide ((a0.je.length : Int) ≤ 300)) && (decide ((a0.jl.length : Int) ≤ 300))) && (decide (x7 ≤ 10000)))))) ?_
 refine PL.nil (hK19 _ _ ?_)
 refine A1 2 (e_ (B (((decide ((a0.je.length : Int) ≤ 300)) && (decide ((a0.jl.length : Int) ≤ 300))) && (decide (x7 ≤ 10000))))) fun F f2 => ?_
 refine PC.ret ?_
 have h0 := pz h0
 subst h0
 exact fin (.inr rfl) (j9 Try.results5 f2) (.u _)
def Va (a0 : (Arr 4 Int)) (a1 : Int) : G (Arr 4 Int) :=
  G.bind (G.lift (zkz .i64 a1 64)) fun x5 => G.bind (G.lift (zkz .i64 a1 64)) fun x6 => G.bind (G.lift (idx a0.1 x6)) fun x7 => G.bind (G.lift (zlj .u64 (IntKind.u64.wrap a1) 64)) fun x8 => G.bind (G.lift (zom .u64 1 x8)) fun x9 => G.bind (G.lift (idx a0.1 x5)) fun x10 => G.pure (arS a0 x5 (orI .u64 x7 x9))
theorem Yv {nn : Nat} {a0 : (Arr 4 Int)} {a1 : Int} {r : (Arr 4 Int)} (h0 : Va a0 a1 nn = some r) : PCall Try.prog 97 [(arV (n := 4) (iK .u64)) a0, I a1] (· = (arV (n := 4) (iK .u64)) r) := by
 unfold Va at h0
 refine PCall.intro' Try.func97 rfl Try.ntmps97 (by simp) fun W => ?_
 refine A2 0 (e_ ((arV (n := 4) (iK .u64)) a0)) 1 (e_ (I a1)) fun F f0 f1 => ?_
 generalize PHeap.empty = H
 refine SR fun K1 hK1 => ?_
 refine PL.boxA 202 (v := ((arV (n := 4) (iK .u64)) a0)) (cs := ((arV (n := 4) (iK .u64)) a0).cells) rfl rfl rfl (by decide) f0 (v8 _ _ _ (fun _ => rfl)) rfl fun v202 H b202 fz2 => ?_
 refine PL.allocA 204 (cs := ((arV (n := 4) (iK .u64)) (arZ 4 0)).cells) rfl rfl rfl (by decide) Qr (by kernel_rfl) (by kernel_rfl) fun v204 H b204 fz3 => ?_
 have b202 := (fz3 202 (by decide)).trans b202
 refine PL.nil (hK1 _ _ ?_)
 refine A3 1 f1 2 (e_ (PV.pp 202 0 v202)) 4 (e_ (PV.pp 204 0 v204)) fun F f1 f2 f4 => ?_
 refine SR fun K4 hK4 => ?_
 refine Q1 _ (jb f1) ?_
 obtain ⟨x5, hx5, h0⟩ := bs h0
 refine Q1 _ (jh rfl (e_ (I a1)) (e_ (I 64)) (zjt hx5)) ?_
 refine Q1 _ (jb f1) ?_
 obtain ⟨x6, hx6, h0⟩ := bs h0
 refine Q1 _ (jh rfl (e_ (I a1)) (e_ (I 64)) (zjt hx6)) ?_
 obtain ⟨x7, hx7, h0⟩ := bs h0
 refine Q1 (PV.pp 202 ((x6 : Int).toNat * 1) v202) (zao (rep := (iK .u64)) (a := a0) zi3 f2 b202 (e_ (I x6)) hx7) ?_
 refine Q1 ((iK .u64) x7) (vm ziy (e_ (PV.pp 202 ((x6 : Int).toNat * 1) v202)) b202 (zjf hx7)) ?_
 refine Q1 _ (jb f1) ?_
 refine Q1 ((iK .u64) (IntKind.u64.wrap a1)) (Ja (by kernel_rfl) (by kernel_rfl) (e_ (I a1))) ?_
 obtain ⟨x8, hx8, h0⟩ := bs h0
 refine Q1 _ (jh rfl (e_ ((iK .u64) (IntKind.u64.wrap a1))) (e_ ((iK .u64) 64)) (zki hx8)) ?_
 obtain ⟨x9, hx9, h0⟩ := bs h0
 refine Q1 _ (jh rfl (e_ ((iK .u64) 1)) (e_ ((iK .u64) x8)) (zow hx9)) ?_
 refine Q1 _ (jh rfl (e_ ((iK .u64) x7)) (e_ ((iK .u64) x9)) (b_or _ _)) ?_
 obtain ⟨x10, hx10, h0⟩ := bs h0
 refine Q1 (PV.pp 202 ((x5 : Int).toNat * 1) v202) (zao (rep := (iK .u64)) (a := a0) zi3 f2 b202 (e_ (I x5)) hx10) ?_
 refine PL.stB (rep := (iK .u64)) (u' := (orI .u64 x7 x9)) rfl rfl (fun _ h => by cases h) (e_ (PV.pp 202 ((x5 : Int).toNat * 1) v202)) b202 ziy hx10 (e_ ((iK .u64) (orI .u64 x7 x9))) (fun _ => rfl) rfl fun H b202 fz11 => ?_
 have b204 := (fz11 204 (by decide)).trans b204
 refine PL.nil (hK4 _ _ ?_)
 refine A2 2 f2 4 f4 fun F f2 f4 => ?_
 refine SR fun K12 hK12 => ?_
 refine Q1 ((arV (n := 4) (iK .u64)) (arS a0 x5 (orI .u64 x7 x9))) (vm qy f2 b202 (yo (jj _ _ (fun _ => rfl)))) ?_
 refine PL.storeA (ag := true) (cs' := ((arV (n := 4) (iK .u64)) (arS a0 x5 (orI .u64 x7 x9))).cells) (ps := ((arV (n := 4) (iK .u64)) (arS a0 x5 (orI .u64 x7 x9))).cells) rfl rfl (fun _ h => by cases h) f4 b204 qy (e_ ((arV (n := 4) (iK .u64)) (arS a0 x5 (orI .u64 x7 x9)))) (v8 _ _ _ (fun _ => rfl)) rfl (jj _ _ (fun _ => rfl)) (by rw [(jj _ _ (fun _ => rfl))]; exact Nat.le_of_ble_eq_true rfl) (vz (N := 4) (jj _ _ (fun _ => rfl)) (jj _ _ (fun _ => rfl))) fun H b204 fz13 => ?_
 have b202 := (fz13 202 (by decide)).trans b202
 refine PL.nil (hK12 _ _ ?_)
 refine A1 4 f4 fun F f4 => ?_
 refine PC.ret ?_
 have h0 := pz h0
 subst h0
 exact fin (p0 := ((arV (n := 4) (iK .u64)) (arS a0 x5 (orI .u64 x7 x9)))) (.inr rfl) (Zu Try.results97 (zf qy f4 b204 (yo (jj _ _ (fun _ => rfl))))) (vc _ (fun _ => (.u _)))
def Zd (a0 : Int) : G (Arr 4 Int) :=
  G.bind (Va (arZ 4 0) (w64 a0)) fun x4 => G.pure x4
theorem zcq {nn : Nat} {a0 : Int} {r : (Arr 4 Int)} (h0 : Zd a0 nn = some r) : PCall Try.prog 90 [U8 a0] (· = (arV (n := 4) (iK .u64)) r) := by
 unfold Zd at h0
 refine PCall.intro' Try.func90 rfl Try.ntmps90 (by simp) fun W => ?_
 refine A1 0 (e_ (U8 a0)) fun F f0 => ?_
 generalize PHeap.empty = H
 refine SR fun K1 hK1 => ?_
 refine PL.allocA 202 (cs := ((arV (n := 4) (iK .u64)) (arZ 4 0)).cells) rfl rfl rfl (by decide) Qr (by kernel_rfl) (by kernel_rfl) fun v202 H b202 fz2 => ?_
 refine PL.nil (hK1 _ _ ?_)
 refine A2 0 f0 2 (e_ (PV.pp 202 0 v202)) fun F f0 f2 => ?_
 refine SR fun K3 hK3 => ?_
 refine Q1 ((arV (n := 4) (iK .u64)) (arZ 4 0)) (Jg (bm0) (by kernel_rfl)) ?_
 refine Q1 _ (jb f0) ?_
 refine Q1 (I (w64 a0)) (Jc (by kernel_rfl) (by kernel_rfl) (e_ (U8 a0))) ?_
 obtain ⟨x4, hx4, h0⟩ := bs h0
 refine Q3 ((arV (n := 4) (iK .u64)) x4) (j0 (by kernel_rfl) (am (e_ ((arV (n := 4) (iK .u64)) (arZ 4 0))) (am (e_ (I (w64 a0))) (am0))) (js (vc _ (fun _ => (.u _))) (js (.u _) (j2))) (Yv hx4)) ?_
 refine PL.storeA (ag := true) (cs' := ((arV (n := 4) (iK .u64)) x4).cells) (ps := ((arV (n := 4) (iK .u64)) x4).cells) rfl rfl (fun _ h => by cases h) f2 b202 qy (e_ ((arV (n := 4) (iK .u64)) x4)) (v8 _ _ _ (fun _ => rfl)) rfl (jj _ _ (fun _ => rfl)) (by rw [(jj _ _ (fun _ => rfl))]; exact Nat.le_of_ble_eq_true rfl) (vz (N := 4) (jj _ _ (fun _ => rfl)) (jj _ _ (fun _ => rfl))) fun H b202 fz5 => ?_
 refine PL.nil (hK3 _ _ ?_)
 refine A1 2 f2 fun F f2 => ?_
 refine PC.ret ?_
 have h0 := pz h0
 subst h0
 exact fin (p0 := ((arV (n := 4) (iK .u64)) x4)) (.inr rfl) (Zu Try.results90 (zf qy f2 b202 (yo (jj _ _ (fun _ => rfl))))) (vc _ (fun _ => (.u _)))
def Yk (a0 : Int) (a1 : Int) : G (Arr 4 Int) :=
  G.bind (G.loop (σ := (Int × (Arr 4 Int))) (α := (Arr 4 Int)) (fun (x11, x12) => G.cond (decide (x11 < 256)) (G.bind (α := (Arr 4 Int)) (G.cond ((decide (a0 ≤ x11)) && (decide (x11 ≤ a1))) (G.bind (Va x12 x11) fun x26 => G.pure x26) (G.pure x12)) fun x23 => G.pure (.inl ((w64 (x11 + 1)), x23))) (G.pure (.inr x12))) (0, (arZ 4 0))) fun x31 => G.pure x31
theorem zb8 {nn : Nat} {a0 : Int} {a1 : Int} {r : (Arr 4 Int)} (h0 : Yk a0 a1 nn = some r) : PCall Try.prog 96 [I a0, I a1] (· = (arV (n := 4) (iK .u64)) r) := by
 unfold Yk at h0
 refine PCall.intro' Try.func96 rfl Try.ntmps96 (by simp) fun W => ?_
 refine A2 0 (e_ (I a0)) 1 (e_ (I a1)) fun F f0 f1 => ?_
 generalize PHeap.empty = H
 refine SR fun K1 hK1 => ?_
 refine PL.allocA 204 (cs := ((arV (n := 4) (iK .u64)) (arZ 4 0)).cells) rfl rfl rfl (by decide) Qr (by kernel_rfl) (by kernel_rfl) fun v204 H b204 fz2 => ?_
 refine PL.nil (hK1 _ _ ?_)
 refine A3 0 f0 1 f1 4 (e_ (PV.pp 204 0 v204)) fun F f0 f1 f4 => ?_
 refine SR fun K3 hK3 => ?_
 refine Q1 ((arV (n := 4) (iK .u64)) (arZ 4 0)) (Jg (bm0) (by kernel_rfl)) ?_
 refine PL.allocA 205 (cs := ((arV (n := 4) (iK .u64)) (arZ 4 0)).cells) rfl rfl rfl (by decide) Qr (by kernel_rfl) (by kernel_rfl) fun v205 H b205 fz4 => ?_
 have b204 := (fz4 204 (by decide)).trans b204
 refine PL.storeA (ag := true) (cs' := ((arV (n := 4) (iK .u64)) (arZ 4 0)).cells) (ps := ((arV (n := 4) (iK .u64)) (arZ 4 0)).cells) rfl rfl (fun _ h => by cases h) (e_ (PV.pp 205 0 v205)) b205 qy (e_ ((arV (n := 4) (iK .u64)) (arZ 4 0))) (v8 _ _ _ (fun _ => rfl)) rfl (jj _ _ (fun _ => rfl)) (by rw [(jj _ _ (fun _ => rfl))]; exact Nat.le_of_ble_eq_true rfl) (vz (N := 4) (jj _ _ (fun _ => rfl)) (jj _ _ (fun _ => rfl))) fun H b205 fz5 => ?_
 have b204 := (fz5 204 (by decide)).trans b204
 refine PL.nil (hK3 _ _ ?_)
 refine A4 0 f0 1 f1 4 f4 5 (e_ (PV.pp 205 0 v205)) fun F f0 f1 f4 f5 => ?_
 refine PC.seq fun K6 hK6 => ?_
 refine SR fun K7 hK7 => ?_
 refine Q1 _ (jf (e_ (I 0))) ?_
 refine PL.nil (hK7 _ _ ?_)
 refine A5 0 f0 1 f1 4 f4 5 f5 6 (e_ (I 0)) fun F f0 f1 f4 f5 f6 => ?_
 refine PC.block ?_
 obtain ⟨o13, ho13, h0⟩ := bs h0
 obtain ⟨B14, hB14, ho13⟩ := G.loop_some ho13
 refine PC.loop (fun m17 F H => ∃ s34 : (Int × (Arr 4 Int)), qw B14 m17 s34 = some o13 ∧ F 0 = (I a0) ∧ F 1 = (I a1) ∧ F 4 = (PV.pp 204 0 v204) ∧ F 5 = (PV.pp 205 0 v205) ∧ F 6 = (I s34.1) ∧ H 204 = ⟨v204, some (.box 82 ((arV (n := 4) (iK .u64)) (arZ 4 0)).cells)⟩ ∧ H 205 = ⟨v205, some (.box 82 ((arV (n := 4) (iK .u64)) s34.2).cells)⟩) (m := nn) ⟨(0, (arZ 4 0)), ho13, f0, f1, f4, f5, f6, b204, b205⟩ fun m17 F H hI => ?_
 obtain ⟨⟨x11, x12⟩, ho13, f0, f1, f4, f5, f6, b204, b205⟩ := hI
 obtain ⟨m17, rfl, st15, hs16, ho13⟩ := jw ho13
 rw [hB14] at hs16
 try dsimp only at hs16
 refine PC.seq fun K18 hK18 => ?_
 refine SR fun K19 hK19 => ?_
 refine Q1 _ (jb f6) ?_
 refine Q1 _ (jh rfl (e_ (I x11)) (e_ (I 256)) jv) ?_
 refine PL.nil (hK19 _ _ ?_)
 refine A6 0 f0 1 f1 4 f4 5 f5 6 f6 9 (e_ (B (decide (x11 < 256)))) fun F f0 f1 f4 f5 f6 f9 => ?_
 rcases cz hs16 with ⟨hb20, hs16⟩ | ⟨hb20, hs16⟩
 refine PC.condTb f9 hb20 ?_
 refine PC.skip ?_
 refine hK18 _ _ ?_
 refine A5 0 f0 1 f1 4 f4 5 f5 6 f6 fun F f0 f1 f4 f5 f6 => ?_
 obtain ⟨o22, ho22, hs16⟩ := bs hs16
 refine PC.seqM (fun F H => ∃ s28 : (Arr 4 Int), o22 = s28 ∧ F 0 = (I a0) ∧ F 1 = (I a1) ∧ F 4 = (PV.pp 204 0 v204) ∧ F 5 = (PV.pp 205 0 v205) ∧ F 6 = (I x11) ∧ H 204 = ⟨v204, some (.box 82 ((arV (n := 4) (iK .u64)) (arZ 4 0)).cells)⟩ ∧ H 205 = ⟨v205, some (.box 82 ((arV (n := 4) (iK .u64)) s28).cells)⟩) ?_ ?_
 refine PC.block ?_
 refine SR fun K24 hK24 => ?_
 refine Q1 _ (jb f6) ?_
 refine Q1 _ (jb f0) ?_
 refine Q1 _ (jh rfl (e_ (I x11)) (e_ (I a0)) vr) ?_
 refine Q1 _ (jb (e_ (B (decide (a0 ≤ x11))))) ?_
 refine GT (I x11) rfl (e_ (B (decide (a0 ≤ x11)))) (fun hb => jb f6) ?_
 refine GT (I a1) rfl (e_ (B (decide (a0 ≤ x11)))) (fun hb => jb f1) ?_
 refine GT (B (decide (x11 ≤ a1))) rfl (e_ (B (decide (a0 ≤ x11)))) (fun hb => jh rfl (gvp hb (e_ (gv (decide (a0 ≤ x11)) (I x11)))) (gvp hb (e_ (gv (decide (a0 ≤ x11)) (I a1)))) Qq) ?_
 refine Q1 (B ((decide (a0 ≤ x11)) && (decide (x11 ≤ a1)))) (vt (e_ (B (decide (a0 ≤ x11)))) (e_ (gv (decide (a0 ≤ x11)) (B (decide (x11 ≤ a1))))) rfl) ?_
 refine PL.nil (hK24 _ _ ?_)
 refine A6 0 f0 1 f1 4 f4 5 f5 6 f6 19 (e_ (B ((decide (a0 ≤ x11)) && (decide (x11 ≤ a1))))) fun F f0 f1 f4 f5 f6 f19 => ?_
 rcases cz ho22 with ⟨hb25, ho22⟩ | ⟨hb25, ho22⟩
 refine PC.condTb f19 hb25 ?_
 refine PC.region ?_
 refine Q1 ((arV (n := 4) (iK .u64)) x12) (vm qy f5 b205 (yo (jj _ _ (fun _ => rfl)))) ?_
 refine Q1 _ (jb f6) ?_
 obtain ⟨x26, hx26, ho22⟩ := bs ho22
 refine Q3 ((arV (n := 4) (iK .u64)) x26) (j0 (by kernel_rfl) (am (e_ ((arV (n := 4) (iK .u64)) x12)) (am (e_ (I x11)) (am0))) (js (vc _ (fun _ => (.u _))) (js (.u _) (j2))) (Yv hx26)) ?_
 refine PL.storeA (ag := true) (cs' := ((arV (n := 4) (iK .u64)) x26).cells) (ps := ((arV (n := 4) (iK .u64)) x26).cells) rfl rfl (fun _ h => by cases h) f5 b205 qy (e_ ((arV (n := 4) (iK .u64)) x26)) (v8 _ _ _ (fun _ => rfl)) rfl (jj _ _ (fun _ => rfl)) (by rw [(jj _ _ (fun _ => rfl))]; exact Nat.le_of_ble_eq_true rfl) (vz (N := 4) (jj _ _ (fun _ => rfl)) (jj _ _ (fun _ => rfl))) fun H b205 fz27 => ?_
 have b204 := (fz27 204 (by decide)).trans b204
 refine PL.nil ?_
 have ho22 := pz ho22
 subst ho22
 exact ⟨x26, rfl, f0, f1, f4, f5, f6, b204, b205⟩
 refine PC.condFb f19 hb25 ?_
 refine PC.skip ?_
 have ho22 := pz ho22
 subst ho22
 exact ⟨x12, rfl, f0, f1, f4, f5, f6, b204, b205⟩
 intro F H hI
 obtain ⟨x23, ho, f0, f1, f4, f5, f6, b204, b205⟩ := hI
 have ho := ho.symm
 subst ho
 try dsimp only at hs16
 refine PC.region ?_
 refine Q1 _ (jb f6) ?_
 refine Q1 _ (jh rfl (e_ (I x11)) (e_ (I 1)) j3) ?_
 refine Q1 _ (jf (e_ (I (w64 (x11 + 1))))) ?_
 refine PL.nil ?_
 have hs16 := pz hs16
 subst hs16
 exact ⟨m17, Nat.lt_succ_self _, ((w64 (x11 + 1)), x23), ho13, f0, f1, f4, f5, (e_ (I (w64 (x11 + 1)))), b204, b205⟩
 refine PC.condFb f9 hb20 ?_
 refine PC.exit ?_
 have hs16 := pz hs16
 subst hs16
 try dsimp only at ho13
 subst ho13
 try dsimp only at h0
 refine hK6 _ _ ?_
 refine A2 4 f4 5 f5 fun F f4 f5 => ?_
 refine SR fun K29 hK29 => ?_
 refine Q1 ((arV (n := 4) (iK .u64)) x12) (vm qy f5 b205 (yo (jj _ _ (fun _ => rfl)))) ?_
 refine PL.storeA (ag := true) (cs' := ((arV (n := 4) (iK .u64)) x12).cells) (ps := ((arV (n := 4) (iK .u64)) x12).cells) rfl rfl (fun _ h => by cases h) f4 b204 qy (e_ ((arV (n := 4) (iK .u64)) x12)) (v8 _ _ _ (fun _ => rfl)) rfl (jj _ _ (fun _ => rfl)) (by rw [(jj _ _ (fun _ => rfl))]; exact Nat.le_of_ble_eq_true rfl) (vz (N := 4) (jj _ _ (fun _ => rfl)) (jj _ _ (fun _ => rfl))) fun H b204 fz30 => ?_
 have b205 := (fz30 205 (by decide)).trans b205
 refine PL.nil (hK29 _ _ ?_)
 refine A1 4 f4 fun F f4 => ?_
 refine PC.ret ?_
 have h0 := pz h0
 subst h0
 exact fin (p0 := ((arV (n := 4) (iK .u64)) x12)) (.inr rfl) (Zu Try.results96 (zf qy f4 b204 (yo (jj _ _ (fun _ => rfl))))) (vc _ (fun _ => (.u _)))
def J5 (a0 : (Arr 4 Int)) (a1 : Int) : G Bool :=
  G.bind (G.lift (zkz .i64 (w64 a1) 64)) fun x3 => G.bind (G.lift (idx a0.1 x3)) fun x4 => G.bind (G.lift (zlj .u64 (IntKind.u64.wrap a1) 64)) fun x5 => G.bind (G.lift (shrT .u64 x4 x5)) fun x6 => G.bind (G.lift (zlj .u64 x6 2)) fun x7 => G.pure (decide (x7 = 1))
theorem Qm {nn : Nat} {a0 : (Arr 4 Int)} {a1 : Int} {r : Bool} (h0 : J5 a0 a1 nn = some r) : PCall Try.prog 77 [(arV (n := 4) (iK .u64)) a0, U8 a1] (· = B r) := by
 unfold J5 at h0
 refine PCall.intro' Try.func77 rfl Try.ntmps77 (by simp) fun W => ?_
 refine A2 0 (e_ ((arV (n := 4) (iK .u64)) a0)) 1 (e_ (U8 a1)) fun F f0 f1 => ?_
 generalize PHeap.empty = H
 refine SR fun K1 hK1 => ?_
 refine Q3 (PV.rp ((arV (n := 4) (iK .u64)) a0).cells) (zk f0 (v8 _ _ _ (fun _ => rfl))) ?_
 refine Q1 _ (jf (e_ (B false))) ?_
 refine PL.nil (hK1 _ _ ?_)
 refine A2 1 f1 2 (e_ (PV.rp ((arV (n := 4) (iK .u64)) a0).cells)) fun F f1 f2 => ?_
 refine SR fun K2 hK2 => ?_
 refine Q1 _ (jb f1) ?_
 refine Q1 (I (w64 a1)) (Jc (by kernel_rfl) (by kernel_rfl) (e_ (U8 a1))) ?_
 obtain ⟨x3, hx3, h0⟩ := bs h0
 refine Q1 _ (jh rfl (e_ (I (w64 a1))) (e_ (I 64)) (zjt hx3)) ?_
 obtain ⟨x4, hx4, h0⟩ := bs h0
 refine Q1 (PV.rp (((arV (n := 4) (iK .u64)) a0).cells.drop ((x3 : Int).toNat * 1))) (zcg (rep := (iK .u64)) (a := a0) zi3 f2 (e_ (I x3)) hx4) ?_
 refine Q1 ((iK .u64) x4) (jx ziy (e_ (PV.rp (((arV (n := 4) (iK .u64)) a0).cells.drop ((x3 : Int).toNat * 1)))) (zb0 hx4)) ?_
 refine Q1 _ (jb f1) ?_
 refine Q1 ((iK .u64) (IntKind.u64.wrap a1)) (Ja (by kernel_rfl) (by kernel_rfl) (e_ (U8 a1))) ?_
 obtain ⟨x5, hx5, h0⟩ := bs h0
 refine Q1 _ (jh rfl (e_ ((iK .u64) (IntKind.u64.wrap a1))) (e_ ((iK .u64) 64)) (zki hx5)) ?_
 obtain ⟨x6, hx6, h0⟩ := bs h0
 refine Q1 _ (jh rfl (e_ ((iK .u64) x4)) (e_ ((iK .u64) x5)) (b_shr hx6)) ?_
 obtain ⟨x7, hx7, h0⟩ := bs h0
 refine Q1 _ (jh rfl (e_ ((iK .u64) x6)) (e_ ((iK .u64) 2)) (zki hx7)) ?_
 refine Q1 _ (jh rfl (e_ ((iK .u64) x7)) (e_ ((iK .u64) 1)) j7) ?_
 refine Q1 _ (jf (e_ (B (decide (x7 = 1))))) ?_
 refine PL.nil (hK2 _ _ ?_)
 refine A1 4 (e_ (B (decide (x7 = 1)))) fun F f4 => ?_
 refine PC.ret ?_
 have h0 := pz h0
 subst h0
 exact fin (.inr rfl) (j9 Try.results77 f4) (.u _)
def Ze (a0 : Int) (a1 : (Arr 4 Int)) (a2 : (Arr 4 Int)) : G (Arr 4 Int) :=
  G.bind (G.loop (σ := (Int × (Arr 4 Int))) (α := (Arr 4 Int)) (fun (x11, x12) => G.cond (decide (x11 < 256)) (G.bind (α := (Arr 4 Int)) (G.bind (J5 a1 (IntKind.u8.wrap x11)) fun x25 => G.bind (J5 a2 (IntKind.u8.wrap x11)) fun x26 => G.cond ((((decide (a0 = 0)) && (x25 || x26)) || (((decide (a0 = 1)) && x25) && x26)) || (((decide (a0 = 2)) && x25) && (!x26))) (G.bind (Va x12 x11) fun x29 => G.pure x29) (G.pure x12)) fun x23 => G.pure (.inl ((w64 (x11 + 1)), x23))) (G.pure (.inr x12))) (0, (arZ 4 0))) fun x34 => G.pure x34
theorem zcv {nn : Nat} {a0 : Int} {a1 : (Arr 4 Int)} {a2 : (Arr 4 Int)} {r : (Arr 4 Int)} (h0 : Ze a0 a1 a2 nn = some r) : PCall Try.prog 95 [I a0, (arV (n := 4) (iK .u64)) a1, (arV (n := 4) (iK .u64)) a2] (· = (arV (n := 4) (iK .u64)) r) := by
 unfold Ze at h0
 refine PCall.intro' Try.func95 rfl Try.ntmps95 (by simp) fun W => ?_
 refine A3 0 (e_ (I a0)) 1 (e_ ((arV (n := 4) (iK .u64)) a1)) 2 (e_ ((arV (n := 4) (iK .u64)) a2)) fun F f0 f1 f2 => ?_
 generalize PHeap.empty = H
 refine SR fun K1 hK1 => ?_
 refine Q3 (PV.rp ((arV (n := 4) (iK .u64)) a1).cells) (zk f1 (v8 _ _ _ (fun _ => rfl))) ?_
 refine Q3 (PV.rp ((arV (n := 4) (iK .u64)) a2).cells) (zk f2 (v8 _ _ _ (fun _ => rfl))) ?_
 refine PL.allocA 206 (cs := ((arV (n := 4) (iK .u64)) (arZ 4 0)).cells) rfl rfl rfl (by decide) Qr (by kernel_rfl) (by kernel_rfl) fun v206 H b206 fz2 => ?_
 refine PL.nil (hK1 _ _ ?_)
 refine A4 0 f0 4 (e_ (PV.rp ((arV (n := 4) (iK .u64)) a1).cells)) 5 (e_ (PV.rp ((arV (n := 4) (iK .u64)) a2).cells)) 6 (e_ (PV.pp 206 0 v206)) fun F f0 f4 f5 f6 => ?_
 refine SR fun K3 hK3 => ?_
 refine Q1 ((arV (n := 4) (iK .u64)) (arZ 4 0)) (Jg (bm0) (by kernel_rfl)) ?_
 refine PL.allocA 207 (cs := ((arV (n := 4) (iK .u64)) (arZ 4 0)).cells) rfl rfl rfl (by decide) Qr (by kernel_rfl) (by kernel_rfl) fun v207 H b207 fz4 => ?_
 have b206 := (fz4 206 (by decide)).trans b206
 refine PL.storeA (ag := true) (cs' := ((arV (n := 4) (iK .u64)) (arZ 4 0)).cells) (ps := ((arV (n := 4) (iK .u64)) (arZ 4 0)).cells) rfl rfl (fun _ h => by cases h) (e_ (PV.pp 207 0 v207)) b207 qy (e_ ((arV (n := 4) (iK .u64)) (arZ 4 0))) (v8 _ _ _ (fun _ => rfl)) rfl (jj _ _ (fun _ => rfl)) (by rw [(jj _ _ (fun _ => rfl))]; exact Nat.le_of_ble_eq_true rfl) (vz (N := 4) (jj _ _ (fun _ => rfl)) (jj _ _ (fun _ => rfl))) fun H b207 fz5 => ?_
 have b206 := (fz5 206 (by decide)).trans b206
 refine PL.nil (hK3 _ _ ?_)
 refine A5 0 f0 4 f4 5 f5 6 f6 7 (e_ (PV.pp 207 0 v207)) fun F f0 f4 f5 f6 f7 => ?_
 refine PC.seq fun K6 hK6 => ?_
 refine SR fun K7 hK7 => ?_
 refine Q1 _ (jf (e_ (I 0))) ?_
 refine PL.nil (hK7 _ _ ?_)
 refine A6 0 f0 4 f4 5 f5 6 f6 7 f7 8 (e_ (I 0)) fun F f0 f4 f5 f6 f7 f8 => ?_
 refine PC.block ?_
 obtain ⟨o13, ho13, h0⟩ := bs h0
 obtain ⟨B14, hB14, ho13⟩ := G.loop_some ho13
 refine PC.loop (fun m17 F H => ∃ s37 : (Int × (Arr 4 Int)), qw B14 m17 s37 = some o13 ∧ F 0 = (I a0) ∧ F 4 = (PV.rp ((arV (n := 4) (iK .u64)) a1).cells) ∧ F 5 = (PV.rp ((arV (n := 4) (iK .u64)) a2).cells) ∧ F 6 = (PV.pp 206 0 v206) ∧ F 7 = (PV.pp 207 0 v207) ∧ F 8 = (I s37.1) ∧ H 206 = ⟨v206, some (.box 82 ((arV (n := 4) (iK .u64)) (arZ 4 0)).cells)⟩ ∧ H 207 = ⟨v207, some (.box 82 ((arV (n := 4) (iK .u64)) s37.2).cells)⟩) (m := nn) ⟨(0, (arZ 4 0)), ho13, f0, f4, f5, f6, f7, f8, b206, b207⟩ fun m17 F H hI => ?_
 obtain ⟨⟨x11, x12⟩, ho13, f0, f4, f5, f6, f7, f8, b206, b207⟩ := hI
 obtain ⟨m17, rfl, st15, hs16, ho13⟩ := jw ho13
 rw [hB14] at hs16
 try dsimp only at hs16
 refine PC.seq fun K18 hK18 => ?_
 refine SR fun K19 hK19 => ?_
 refine Q1 _ (jb f8) ?_
 refine Q1 _ (jh rfl (e_ (I x11)) (e_ (I 256)) jv) ?_
 refine PL.nil (hK19 _ _ ?_)
 refine A7 0 f0 4 f4 5 f5 6 f6 7 f7 8 f8 13 (e_ (B (decide (x11 < 256)))) fun F f0 f4 f5 f6 f7 f8 f13 => ?_
 rcases cz hs16 with ⟨hb20, hs16⟩ | ⟨hb20, hs16⟩
 refine PC.condTb f13 hb20 ?_
 refine PC.skip ?_
 refine hK18 _ _ ?_
 refine A6 0 f0 4 f4 5 f5 6 f6 7 f7 8 f8 fun F f0 f4 f5 f6 f7 f8 => ?_
 obtain ⟨o22, ho22, hs16⟩ := bs hs16
 refine PC.seqM (fun F H => ∃ s31 : (Arr 4 Int), o22 = s31 ∧ F 0 = (I a0) ∧ F 4 = (PV.rp ((arV (n := 4) (iK .u64)) a1).cells) ∧ F 5 = (PV.rp ((arV (n := 4) (iK .u64)) a2).cells) ∧ F 6 = (PV.pp 206 0 v206) ∧ F 7 = (PV.pp 207 0 v207) ∧ F 8 = (I x11) ∧ H 206 = ⟨v206, some (.box 82 ((arV (n := 4) (iK .u64)) (arZ 4 0)).cells)⟩ ∧ H 207 = ⟨v207, some (.box 82 ((arV (n := 4) (iK .u64)) s31).cells)⟩) ?_ ?_
 refine PC.block ?_
 refine PC.seq fun K24 hK24 => ?_
 refine PC.regionQ mixed (by kernel_rfl) ?_
 refine Q2 ((arV (n := 4) (iK .u64)) a1) (vw qy f4 (jj _ _ (fun _ => rfl))) ?_
 refine Q2 _ (jb f8) ?_
 refine Q2 (U8 (IntKind.u8.wrap x11)) (Ja (by kernel_rfl) (by kernel_rfl) (e_ (I x11))) ?_
 obtain ⟨x25, hx25, ho22⟩ := bs ho22
 refine Q4 (B x25) (j0 (by kernel_rfl) (am (e_ ((arV (n := 4) (iK .u64)) a1)) (am (e_ (U8 (IntKind.u8.wrap x11))) (am0))) (js (vc _ (fun _ => (.u _))) (js (.u _) (j2))) (Qm hx25)) ?_
 refine Q2 ((arV (n := 4) (iK .u64)) a2) (vw qy f5 (jj _ _ (fun _ => rfl))) ?_
 refine Q2 _ (jb f8) ?_
 refine Q2 (U8 (IntKind.u8.wrap x11)) (Ja (by kernel_rfl) (by kernel_rfl) (e_ (I x11))) ?_
 obtain ⟨x26, hx26, ho22⟩ := bs ho22
 refine Q4 (B x26) (j0 (by kernel_rfl) (am (e_ ((arV (n := 4) (iK .u64)) a2)) (am (e_ (U8 (IntKind.u8.wrap x11))) (am0))) (js (vc _ (fun _ => (.u _))) (js (.u _) (j2))) (Qm hx26)) ?_
 refine Q2 _ (jf (e_ (B x25))) ?_
 refine Q2 _ (jf (e_ (B x26))) ?_
 refine QF.nil ?_
 refine hK24 _ _ ?_
 refine A8 0 f0 4 f4 5 f5 6 f6 7 f7 8 f8 9 (e_ (B x25)) 10 (e_ (B x26)) fun F f0 f4 f5 f6 f7 f8 f9 f10 => ?_
 refine SR fun K27 hK27 => ?_
 refine Q1 _ (jb f0) ?_
 refine Q1 _ (jh rfl (e_ (I a0)) (e_ (I 0)) j7) ?_
 refine Q1 _ (jb (e_ (B (decide (a0 = 0))))) ?_
 refine GT (B x25) rfl (e_ (B (decide (a0 = 0)))) (fun hb => jb f9) ?_
 refine GT (B x25) rfl (e_ (B (decide (a0 = 0)))) (fun hb => jb (gvp hb (e_ (gv (decide (a0 = 0)) (B x25))))) ?_
 refine PL.gq (p := (B x26)) (c := (decide (a0 = 0))) (c' := ((decide (a0 = 0)) && (!x25))) rfl rfl (e_ (gv (decide (a0 = 0)) (B x25))) (zm _ _) (j4 (by decide)) (fun hb => ju (jb f10)) ?_
 refine GT (B (x25 || x26)) rfl (e_ (B (decide (a0 = 0)))) (fun hb => zgs hb (gvp hb (e_ (gv (decide (a0 = 0)) (B x25)))) rfl (e_ (gv ((decide (a0 = 0)) && (!x25)) (B x26)))) ?_
 refine Q1 (B ((decide (a0 = 0)) && (x25 || x26))) (vt (e_ (B (decide (a0 = 0)))) (e_ (gv (decide (a0 = 0)) (B (x25 || x26)))) rfl) ?_
 refine Q1 _ (jb (e_ (B ((decide (a0 = 0)) && (x25 || x26))))) ?_
 refine GF (I a0) rfl (e_ (B ((decide (a0 = 0)) && (x25 || x26)))) (fun hb => jb f0) ?_
 refine GF (B (decide (a0 = 1))) rfl (e_ (B ((decide (a0 = 0)) && (x25 || x26)))) (fun hb => jh rfl (gvp hb (e_ (gv (!((decide (a0 = 0)) && (x25 || x26))) (I a0)))) (e_ (I 1)) j7) ?_
 refine GF (B (decide (a0 = 1))) rfl (e_ (B ((decide (a0 = 0)) && (x25 || x26)))) (fun hb => jb (gvp hb (e_ (gv (!((decide (a0 = 0)) && (x25 || x26))) (B (decide (a0 = 1))))))) ?_
 refine PL.gq (p := (B x25)) (c := (!((decide (a0 = 0)) && (x25 || x26)))) (c' := ((!((decide (a0 = 0)) && (x25 || x26))) && (decide (a0 = 1)))) rfl rfl (e_ (gv (!((decide (a0 = 0)) && (x25 || x26))) (B (decide (a0 = 1))))) (Jo _ _) (j4 (by decide)) (fun hb => ju (jb f9)) ?_
 refine GF (B ((decide (a0 = 1)) && x25)) rfl (e_ (B ((decide (a0 = 0)) && (x25 || x26)))) (fun hb => Vx hb (gvp hb (e_ (gv (!((decide (a0 = 0)) && (x25 || x26))) (B (decide (a0 = 1)))))) (e_ (gv ((!((decide (a0 = 0)) && (x25 || x26))) && (decide (a0 = 1))) (B x25))) rfl) ?_
 refine GF (B ((decide (a0 = 1)) && x25)) rfl (e_ (B ((decide (a0 = 0)) && (x25 || x26)))) (fun hb => jb (gvp hb (e_ (gv (!((decide (a0 = 0)) && (x25 || x26))) (B ((decide (a0 = 1)) && x25)))))) ?_
 refine PL.gq (p := (B x26)) (c := (!((decide (a0 = 0)) && (x25 || x26)))) (c' := ((!((decide (a0 = 0)) && (x25 || x26))) && ((decide (a0 = 1)) && x25))) rfl rfl (e_ (gv (!((decide (a0 = 0)) && (x25 || x26))) (B ((decide (a0 = 1)) && x25)))) (Jo _ _) (j4 (by decide)) (fun hb => ju (jb f10)) ?_
 refine GF (B (((decide (a0 = 1)) && x25) && x26)) rfl (e_ (B ((decide (a0 = 0)) && (x25 || x26)))) (fun hb => Vx hb (gvp hb (e_ (gv (!((decide (a0 = 0)) && (x25 || x26))) (B ((decide (a0 = 1)) && x25))))) (e_ (gv ((!((decide (a0 = 0)) && (x25 || x26))) && ((decide (a0 = 1)) && x25)) (B x26))) rfl) ?_
 refine Q1 (B (((decide (a0 = 0)) && (x25 || x26)) || (((decide (a0 = 1)) && x25) && x26))) (yf (e_ (B ((decide (a0 = 0)) && (x25 || x26)))) rfl (e_ (gv (!((decide (a0 = 0)) && (x25 || x26))) (B (((decide (a0 = 1)) && x25) && x26))))) ?_
 refine Q1 _ (jb (e_ (B (((decide (a0 = 0)) && (x25 || x26)) || (((decide (a0 = 1)) && x25) && x26))))) ?_
 refine GF (I a0) rfl (e_ (B (((decide (a0 = 0)) && (x25 || x26)) || (((decide (a0 = 1)) && x25) && x26)))) (fun hb => jb f0) ?_
 refine GF (B (decide (a0 = 2))) rfl (e_ (B (((decide (a0 = 0)) && (x25 || x26)) || (((decide (a0 = 1)) && x25) && x26)))) (fun hb => jh rfl (gvp hb (e_ (gv (!(((decide (a0 = 0)) && (x25 || x26)) || (((decide (a0 = 1)) && x25) && x26))) (I a0)))) (e_ (I 2)) j7) ?_
 refine GF (B (decide (a0 = 2))) rfl (e_ (B (((decide (a0 = 0)) && (x25 || x26)) || (((decide (a0 = 1)) && x25) && x26)))) (fun hb => jb (gvp hb (e_ (gv (!(((decide (a0 = 0)) && (x25 || x26)) || (((decide (a0 = 1)) && x25) && x26))) (B (decide (a0 = 2))))))) ?_
 refine PL.gq (p := (B x25)) (c := (!(((decide (a0 = 0)) && (x25 || x26)) || (((decide (a0 = 1)) && x25) && x26)))) (c' := ((!(((decide (a0 = 0)) && (x25 || x26)) || (((decide (a0 = 1)) && x25) && x26))) && (decide (a0 = 2)))) rfl rfl (e_ (gv (!(((decide (a0 = 0)) && (x25 || x26)) || (((decide (a0 = 1)) && x25) && x26))) (B (decide (a0 = 2))))) (Jo _ _) (j4 (by decide)) (fun hb => ju (jb f9)) ?_
 refine GF (B ((decide (a0 = 2)) && x25)) rfl (e_ (B (((decide (a0 = 0)) && (x25 || x26)) || (((decide (a0 = 1)) && x25) && x26)))) (fun hb => Vx hb (gvp hb (e_ (gv (!(((decide (a0 = 0)) && (x25 || x26)) || (((decide (a0 = 1)) && x25) && x26))) (B (decide (a0 = 2)))))) (e_ (gv ((!(((decide (a0 = 0)) && (x25 || x26)) || (((decide (a0 = 1)) && x25) && x26))) && (decide (a0 = 2))) (B x25))) rfl) ?_
 refine GF (B ((decide (a0 = 2)) && x25)) rfl (e_ (B (((decide (a0 = 0)) && (x25 || x26)) || (((decide (a0 = 1)) && x25) && x26)))) (fun hb => jb (gvp hb (e_ (gv (!(((decide (a0 = 0)) && (x25 || x26)) || (((decide (a0 = 1)) && x25) && x26))) (B ((decide (a0 = 2)) && x25)))))) ?_
 refine PL.gq (p := (B x26)) (c := (!(((decide (a0 = 0)) && (x25 || x26)) || (((decide (a0 = 1)) && x25) && x26)))) (c' := ((!(((decide (a0 = 0)) && (x25 || x26)) || (((decide (a0 = 1)) && x25) && x26))) && ((decide (a0 = 2)) && x25))) rfl rfl (e_ (gv (!(((decide (a0 = 0)) && (x25 || x26)) || (((decide (a0 = 1)) && x25) && x26))) (B ((decide (a0 = 2)) && x25)))) (Jo _ _) (j4 (by decide)) (fun hb => ju (jb f10)) ?_
 refine PL.gq (p := (B (!x26))) (c := (!(((decide (a0 = 0)) && (x25 || x26)) || (((decide (a0 = 1)) && x25) && x26)))) (c' := ((!(((decide (a0 = 0)) && (x25 || x26)) || (((decide (a0 = 1)) && x25) && x26))) && ((decide (a0 = 2)) && x25))) rfl rfl (e_ (gv (!(((decide (a0 = 0)) && (x25 || x26)) || (((decide (a0 = 1)) && x25) && x26))) (B ((decide (a0 = 2)) && x25)))) (Jo _ _) (j4 (by decide)) (fun hb => ju (yn (gvp hb (e_ (gv ((!(((decide (a0 = 0)) && (x25 || x26)) || (((decide (a0 = 1)) && x25) && x26))) && ((decide (a0 = 2)) && x25)) (B x26)))))) ?_
 refine GF (B (((decide (a0 = 2)) && x25) && (!x26))) rfl (e_ (B (((decide (a0 = 0)) && (x25 || x26)) || (((decide (a0 = 1)) && x25) && x26)))) (fun hb => Vx hb (gvp hb (e_ (gv (!(((decide (a0 = 0)) && (x25 || x26)) || (((decide (a0 = 1)) && x25) && x26))) (B ((decide (a0 = 2)) && x25))))) (e_ (gv ((!(((decide (a0 = 0)) && (x25 || x26)) || (((decide (a0 = 1)) && x25) && x26))) && ((decide (a0 = 2)) && x25)) (B (!x26)))) rfl) ?_
 refine Q1 (B ((((decide (a0 = 0)) && (x25 || x26)) || (((decide (a0 = 1)) && x25) && x26)) || (((decide (a0 = 2)) && x25) && (!x26)))) (yf (e_ (B (((decide (a0 = 0)) && (x25 || x26)) || (((decide (a0 = 1)) && x25) && x26)))) rfl (e_ (gv (!(((decide (a0 = 0)) && (x25 || x26)) || (((decide (a0 = 1)) && x25) && x26))) (B (((decide (a0 = 2)) && x25) && (!x26)))))) ?_
 refine PL.nil (hK27 _ _ ?_)
 refine A7 0 f0 4 f4 5 f5 6 f6 7 f7 8 f8 52 (e_ (B ((((decide (a0 = 0)) && (x25 || x26)) || (((decide (a0 = 1)) && x25) && x26)) || (((decide (a0 = 2)) && x25) && (!x26))))) fun F f0 f4 f5 f6 f7 f8 f52 => ?_
 rcases cz ho22 with ⟨hb28, ho22⟩ | ⟨hb28, ho22⟩
 refine PC.condTb f52 hb28 ?_
 refine PC.region ?_
 refine Q1 ((arV (n := 4) (iK .u64)) x12) (vm qy f7 b207 (yo (jj _ _ (fun _ => rfl)))) ?_
 refine Q1 _ (jb f8) ?_
 obtain ⟨x29, hx29, ho22⟩ := bs ho22
 refine Q3 ((arV (n := 4) (iK .u64)) x29) (j0 (by kernel_rfl) (am (e_ ((arV (n := 4) (iK .u64)) x12)) (am (e_ (I x11)) (am0))) (js (vc _ (fun _ => (.u _))) (js (.u _) (j2))) (Yv hx29)) ?_
 refine PL.storeA (ag := true) (cs' := ((arV (n := 4) (iK .u64)) x29).cells) (ps := ((arV (n := 4) (iK .u64)) x29).cells) rfl rfl (fun _ h => by cases h) f7 b207 qy (e_ ((arV (n := 4) (iK .u64)) x29)) (v8 _ _ _ (fun _ => rfl)) rfl (jj _ _ (fun _ => rfl)) (by rw [(jj _ _ (fun _ => rfl))]; exact Nat.le_of_ble_eq_true rfl) (vz (N := 4) (jj _ _ (fun _ => rfl)) (jj _ _ (fun _ => rfl))) fun H b207 fz30 => ?_
 have b206 := (fz30 206 (by decide)).trans b206
 refine PL.nil ?_
 have ho22 := pz ho22
 subst ho22
 exact ⟨x29, rfl, f0, f4, f5, f6, f7, f8, b206, b207⟩
 refine PC.condFb f52 hb28 ?_
 refine PC.skip ?_
 have ho22 := pz ho22
 subst ho22
 exact ⟨x12, rfl, f0, f4, f5, f6, f7, f8, b206, b207⟩
 intro F H hI
 obtain ⟨x23, ho, f0, f4, f5, f6, f7, f8, b206, b207⟩ := hI
 have ho := ho.symm
 subst ho
 try dsimp only at hs16
 refine PC.region ?_
 refine Q1 _ (jb f8) ?_
 refine Q1 _ (jh rfl (e_ (I x11)) (e_ (I 1)) j3) ?_
 refine Q1 _ (jf (e_ (I (w64 (x11 + 1))))) ?_
 refine PL.nil ?_
 have hs16 := pz hs16
 subst hs16
 exact ⟨m17, Nat.lt_succ_self _, ((w64 (x11 + 1)), x23), ho13, f0, f4, f5, f6, f7, (e_ (I (w64 (x11 + 1)))), b206, b207⟩
 refine PC.condFb f13 hb20 ?_
 refine PC.exit ?_
 have hs16 := pz hs16
 subst hs16
 try dsimp only at ho13
 subst ho13
 try dsimp only at h0
 refine hK6 _ _ ?_
 refine A2 6 f6 7 f7 fun F f6 f7 => ?_
 refine SR fun K32 hK32 => ?_
 refine Q1 ((arV (n := 4) (iK .u64)) x12) (vm qy f7 b207 (yo (jj _ _ (fun _ => rfl)))) ?_
 refine PL.storeA (ag := true) (cs' := ((arV (n := 4) (iK .u64)) x12).cells) (ps := ((arV (n := 4) (iK .u64)) x12).cells) rfl rfl (fun _ h => by cases h) f6 b206 qy (e_ ((arV (n := 4) (iK .u64)) x12)) (v8 _ _ _ (fun _ => rfl)) rfl (jj _ _ (fun _ => rfl)) (by rw [(jj _ _ (fun _ => rfl))]; exact Nat.le_of_ble_eq_true rfl) (vz (N := 4) (jj _ _ (fun _ => rfl)) (jj _ _ (fun _ => rfl))) fun H b206 fz33 => ?_
 have b207 := (fz33 207 (by decide)).trans b207
 refine PL.nil (hK32 _ _ ?_)
 refine A1 6 f6 fun F f6 => ?_
 refine PC.ret ?_
 have h0 := pz h0
 subst h0
 exact fin (p0 := ((arV (n := 4) (iK .u64)) x12)) (.inr rfl) (Zu Try.results95 (zf qy f6 b206 (yo (jj _ _ (fun _ => rfl))))) (vc _ (fun _ => (.u _)))
def Zh (a0 : (Arr 4 Int)) : G (Arr 4 Int) :=
  G.bind (Yk 0 255) fun x4 => G.bind (Ze 2 x4 a0) fun x5 => G.pure x5
theorem zct {nn : Nat} {a0 : (Arr 4 Int)} {r : (Arr 4 Int)} (h0 : Zh a0 nn = some r) : PCall Try.prog 89 [(arV (n := 4) (iK .u64)) a0] (· = (arV (n := 4) (iK .u64)) r) := by
 unfold Zh at h0
 refine PCall.intro' Try.func89 rfl Try.ntmps89 (by simp) fun W => ?_
 refine A1 0 (e_ ((arV (n := 4) (iK .u64)) a0)) fun F f0 => ?_
 generalize PHeap.empty = H
 refine SR fun K1 hK1 => ?_
 refine Q3 (PV.rp ((arV (n := 4) (iK .u64)) a0).cells) (zk f0 (v8 _ _ _ (fun _ => rfl))) ?_
 refine PL.allocA 202 (cs := ((arV (n := 4) (iK .u64)) (arZ 4 0)).cells) rfl rfl rfl (by decide) Qr (by kernel_rfl) (by kernel_rfl) fun v202 H b202 fz2 => ?_
 refine PL.nil (hK1 _ _ ?_)
 refine A2 1 (e_ (PV.rp ((arV (n := 4) (iK .u64)) a0).cells)) 2 (e_ (PV.pp 202 0 v202)) fun F f1 f2 => ?_
 refine PC.seq fun K3 hK3 => ?_
 refine PC.regionT 2 mixed (by kernel_rfl) ?_
 obtain ⟨x4, hx4, h0⟩ := bs h0
 refine Q4 ((arV (n := 4) (iK .u64)) x4) (j0 (by kernel_rfl) (am (e_ (I 0)) (am (e_ (I 255)) (am0))) (js (.u _) (js (.u _) (j2))) (zb8 hx4)) ?_
 refine Q2 ((arV (n := 4) (iK .u64)) a0) (vw qy f1 (jj _ _ (fun _ => rfl))) ?_
 refine QF.nil ?_
 obtain ⟨x5, hx5, h0⟩ := bs h0
 refine Q3 ((arV (n := 4) (iK .u64)) x5) (j0 (by kernel_rfl) (am (e_ (I 2)) (am (e_ ((arV (n := 4) (iK .u64)) x4)) (am (e_ ((arV (n := 4) (iK .u64)) a0)) (am0)))) (js (.u _) (js (vc _ (fun _ => (.u _))) (js (vc _ (fun _ => (.u _))) (j2)))) (zcv hx5)) ?_
 refine PL.storeA (ag := true) (cs' := ((arV (n := 4) (iK .u64)) x5).cells) (ps := ((arV (n := 4) (iK .u64)) x5).cells) rfl rfl (fun _ h => by cases h) f2 b202 qy (e_ ((arV (n := 4) (iK .u64)) x5)) (v8 _ _ _ (fun _ => rfl)) rfl (jj _ _ (fun _ => rfl)) (by rw [(jj _ _ (fun _ => rfl))]; exact Nat.le_of_ble_eq_true rfl) (vz (N := 4) (jj _ _ (fun _ => rfl)) (jj _ _ (fun _ => rfl))) fun H b202 fz6 => ?_
 refine PL.nil (hK3 _ _ ?_)
 refine A1 2 f2 fun F f2 => ?_
 refine PC.ret ?_
 have h0 := pz h0
 subst h0
 exact fin (p0 := ((arV (n := 4) (iK .u64)) x5)) (.inr rfl) (Zu Try.results89 (zf qy f2 b202 (yo (jj _ _ (fun _ => rfl))))) (vc _ (fun _ => (.u _)))
def Qy (a0 : (Arr 4 Int)) : G (List jo) :=
  G.pure ([(⟨1, a0⟩ : jo)] : List jo)
theorem V9 {nn : Nat} {a0 : (Arr 4 Int)} {r : (List jo)} (h0 : Qy a0 nn = some r) : PCall Try.prog 74 [(arV (n := 4) (iK .u64)) a0] (· = ja r) := by
 unfold Qy at h0
 refine PCall.intro' Try.func74 rfl Try.ntmps74 (by simp) fun W => ?_
 refine A1 0 (e_ ((arV (n := 4) (iK .u64)) a0)) fun F f0 => ?_
 generalize PHeap.empty = H
 refine SR fun K1 hK1 => ?_
 refine Q3 (PV.rp ((arV (n := 4) (iK .u64)) a0).cells) (zk f0 (v8 _ _ _ (fun _ => rfl))) ?_
 refine Q3 (ja []) (J1 (k := 5)) ?_
 refine PL.nil (hK1 _ _ ?_)
 refine A1 1 (e_ (PV.rp ((arV (n := 4) (iK .u64)) a0).cells)) fun F f1 => ?_
 refine SR fun K2 hK2 => ?_
 refine Q1 ((arV (n := 4) (iK .u64)) a0) (vw qy f1 (jj _ _ (fun _ => rfl))) ?_
 refine Q1 (jr (⟨1, a0⟩ : jo)) (Jg (bm (e_ (I 1)) (bm (e_ ((arV (n := 4) (iK .u64)) a0)) (bm0))) (znp (zs := ([(I 0)] ++ ((arV (n := 4) (iK .u64)) (arZ 4 0)).cells)) (places := [(0, 1), (1, 4)]) (by kernel_rfl) (by kernel_rfl) (ziz (cs1 := ([(I 1)] ++ ((arV (n := 4) (iK .u64)) (arZ 4 0)).cells)) rfl rfl (by rw [(qb rfl (jj _ _ (fun _ => rfl)))]; exact Nat.le_of_ble_eq_true rfl) rfl rfl (ziz (cs1 := ([(I 1)] ++ ((arV (n := 4) (iK .u64)) a0).cells)) rfl (jj _ _ (fun _ => rfl)) (by rw [(qb rfl (jj _ _ (fun _ => rfl)))]; exact Nat.le_of_ble_eq_true rfl) (v8 _ _ _ (fun _ => rfl)) (zli (m := 1) (i := 0) rfl (vz (N := 4) (jj _ _ (fun _ => rfl)) (jj _ _ (fun _ => rfl)))) (zm8))))) ?_
 refine Q3 (ja ([(⟨1, a0⟩ : jo)] : List jo)) (yx (rep := jr) (xs := [(⟨1, a0⟩ : jo)]) J8 rfl (by decide) (bm (e_ (jr (⟨1, a0⟩ : jo))) (bm0)) (Vp (rep := jr) (xs := [(⟨1, a0⟩ : jo)]) rfl rfl (fun _ => (ym _)) (fun _ => (zu _ _))) rfl) ?_
 refine Q1 _ (jf (e_ (ja ([(⟨1, a0⟩ : jo)] : List jo)))) ?_
 refine PL.nil (hK2 _ _ ?_)
 refine A1 2 (e_ (ja ([(⟨1, a0⟩ : jo)] : List jo))) fun F f2 => ?_
 refine PC.ret ?_
 have h0 := pz h0
 subst h0
 exact fin (.inr rfl) (j9 Try.results74 f2) (jt _)
def zbm (a0 : Int) : G Bool :=
  G.pure (((decide (48 ≤ a0)) && (decide (a0 ≤ 57))) || ((decide (97 ≤ a0)) && (decide (a0 ≤ 102))))
theorem zhw {nn : Nat} {a0 : Int} {r : Bool} (h0 : zbm a0 nn = some r) : PCall Try.prog 100 [U8 a0] (· = B r) := by
 unfold zbm at h0
 refine PCall.intro' Try.func100 rfl Try.ntmps100 (by simp) fun W => ?_
 refine A1 0 (e_ (U8 a0)) fun F f0 => ?_
 generalize PHeap.empty = H
 refine SR fun K1 hK1 => ?_
 refine Q1 _ (jf (e_ (B false))) ?_
 refine PL.nil (hK1 _ _ ?_)
 refine A1 0 f0 fun F f0 => ?_
 refine SR fun K2 hK2 => ?_
 refine Q1 _ (jb f0) ?_
 refine Q1 _ (jh rfl (e_ (U8 a0)) (e_ (U8 48)) vr) ?_
 refine Q1 _ (jb (e_ (B (decide (48 ≤ a0))))) ?_
 refine GT (U8 a0) rfl (e_ (B (decide (48 ≤ a0)))) (fun hb => jb f0) ?_
 refine GT (B (decide (a0 ≤ 57))) rfl (e_ (B (decide (48 ≤ a0)))) (fun hb => jh rfl (gvp hb (e_ (gv (decide (48 ≤ a0)) (U8 a0)))) (e_ (U8 57)) Qq) ?_
 refine Q1 (B ((decide (48 ≤ a0)) && (decide (a0 ≤ 57)))) (vt (e_ (B (decide (48 ≤ a0)))) (e_ (gv (decide (48 ≤ a0)) (B (decide (a0 ≤ 57))))) rfl) ?_
 refine Q1 _ (jb (e_ (B ((decide (48 ≤ a0)) && (decide (a0 ≤ 57)))))) ?_
 refine GF (U8 a0) rfl (e_ (B ((decide (48 ≤ a0)) && (decide (a0 ≤ 57))))) (fun hb => jb f0) ?_
 refine GF (B (decide (97 ≤ a0))) rfl (e_ (B ((decide (48 ≤ a0)) && (decide (a0 ≤ 57))))) (fun hb => jh rfl (gvp hb (e_ (gv (!((decide (48 ≤ a0)) && (decide (a0 ≤ 57)))) (U8 a0)))) (e_ (U8 97)) vr) ?_
 refine GF (B (decide (97 ≤ a0))) rfl (e_ (B ((decide (48 ≤ a0)) && (decide (a0 ≤ 57))))) (fun hb => jb (gvp hb (e_ (gv (!((decide (48 ≤ a0)) && (decide (a0 ≤ 57)))) (B (decide (97 ≤ a0))))))) ?_
 refine PL.gq (p := (U8 a0)) (c := (!((decide (48 ≤ a0)) && (decide (a0 ≤ 57))))) (c' := ((!((decide (48 ≤ a0)) && (decide (a0 ≤ 57)))) && (decide (97 ≤ a0)))) rfl rfl (e_ (gv (!((decide (48 ≤ a0)) && (decide (a0 ≤ 57)))) (B (decide (97 ≤ a0))))) (Jo _ _) (j4 (by decide)) (fun hb => ju (jb f0)) ?_
 refine PL.gq (p := (B (decide (a0 ≤ 102)))) (c := (!((decide (48 ≤ a0)) && (decide (a0 ≤ 57))))) (c' := ((!((decide (48 ≤ a0)) && (decide (a0 ≤ 57)))) && (decide (97 ≤ a0)))) rfl rfl (e_ (gv (!((decide (48 ≤ a0)) && (decide (a0 ≤ 57)))) (B (decide (97 ≤ a0))))) (Jo _ _) (j4 (by decide)) (fun hb => ju (jh rfl (gvp hb (e_ (gv ((!((decide (48 ≤ a0)) && (decide (a0 ≤ 57)))) && (decide (97 ≤ a0))) (U8 a0)))) (e_ (U8 102)) Qq)) ?_
 refine GF (B ((decide (97 ≤ a0)) && (decide (a0 ≤ 102)))) rfl (e_ (B ((decide (48 ≤ a0)) && (decide (a0 ≤ 57))))) (fun hb => Vx hb (gvp hb (e_ (gv (!((decide (48 ≤ a0)) && (decide (a0 ≤ 57)))) (B (decide (97 ≤ a0)))))) (e_ (gv ((!((decide (48 ≤ a0)) && (decide (a0 ≤ 57)))) && (decide (97 ≤ a0))) (B (decide (a0 ≤ 102))))) rfl) ?_
 refine Q1 (B (((decide (48 ≤ a0)) && (decide (a0 ≤ 57))) || ((decide (97 ≤ a0)) && (decide (a0 ≤ 102))))) (yf (e_ (B ((decide (48 ≤ a0)) && (decide (a0 ≤ 57))))) rfl (e_ (gv (!((decide (48 ≤ a0)) && (decide (a0 ≤ 57)))) (B ((decide (97 ≤ a0)) && (decide (a0 ≤ 102))))))) ?_
 refine Q1 _ (jf (e_ (B (((decide (48 ≤ a0)) && (decide (a0 ≤ 57))) || ((decide (97 ≤ a0)) && (decide (a0 ≤ 102))))))) ?_
 refine PL.nil (hK2 _ _ ?_)
 refine A1 2 (e_ (B (((decide (48 ≤ a0)) && (decide (a0 ≤ 57))) || ((decide (97 ≤ a0)) && (decide (a0 ≤ 102)))))) fun F f2 => ?_
 refine PC.ret ?_
 have h0 := pz h0
 subst h0
 exact fin (.inr rfl) (j9 Try.results100 f2) (.u _)
def Vz (a0 : Int) : G Int :=
  G.cond (decide (a0 < 10)) (G.pure (IntKind.u8.wrap (w64 (48 + a0)))) (G.pure (IntKind.u8.wrap (w64 ((w64 (97 + a0)) - 10))))
theorem za7 {nn : Nat} {a0 : Int} {r : Int} (h0 : Vz a0 nn = some r) : PCall Try.prog 104 [I a0] (· = U8 r) := by
 unfold Vz at h0
 refine PCall.intro' Try.func104 rfl Try.ntmps104 (by simp) fun W => ?_
 refine A1 0 (e_ (I a0)) fun F f0 => ?_
 generalize PHeap.empty = H
 refine SR fun K1 hK1 => ?_
 refine Q1 _ (jf (e_ (U8 0))) ?_
 refine PL.nil (hK1 _ _ ?_)
 refine A1 0 f0 fun F f0 => ?_
 refine PC.seq fun K2 hK2 => ?_
 refine SR fun K3 hK3 => ?_
 refine Q1 _ (jb f0) ?_
 refine Q1 _ (jh rfl (e_ (I a0)) (e_ (I 10)) jv) ?_
 refine PL.nil (hK3 _ _ ?_)
 refine A2 0 f0 4 (e_ (B (decide (a0 < 10)))) fun F f0 f4 => ?_
 rcases cz h0 with ⟨hb4, h0⟩ | ⟨hb4, h0⟩
 refine PC.condTb f4 hb4 ?_
 refine SR fun K5 hK5 => ?_
 refine Q1 _ (jb f0) ?_
 refine Q1 _ (jh rfl (e_ (I 48)) (e_ (I a0)) j3) ?_
 refine Q1 (U8 (IntKind.u8.wrap (w64 (48 + a0)))) (Ja (by kernel_rfl) (by kernel_rfl) (e_ (I (w64 (48 + a0))))) ?_
 refine Q1 _ (jf (e_ (U8 (IntKind.u8.wrap (w64 (48 + a0)))))) ?_
 refine PL.nil (hK5 _ _ ?_)
 refine A1 2 (e_ (U8 (IntKind.u8.wrap (w64 (48 + a0))))) fun F f2 => ?_
 refine PC.ret ?_
 have h0 := pz h0
 subst h0
 exact fin (.inr rfl) (j9 Try.results104 f2) (.u _)
 refine PC.condFb f4 hb4 ?_
 refine PC.skip ?_
 refine hK2 _ _ ?_
 refine A1 0 f0 fun F f0 => ?_
 refine SR fun K6 hK6 => ?_
 refine Q1 _ (jb f0) ?_
 refine Q1 _ (jh rfl (e_ (I 97)) (e_ (I a0)) j3) ?_
 refine Q1 _ (jh rfl (e_ (I (w64 (97 + a0)))) (e_ (I 10)) Jb) ?_
 refine Q1 (U8 (IntKind.u8.wrap (w64 ((w64 (97 + a0)) - 10)))) (Ja (by kernel_rfl) (by kernel_rfl) (e_ (I (w64 ((w64 (97 + a0)) - 10))))) ?_
 refine Q1 _ (jf (e_ (U8 (IntKind.u8.wrap (w64 ((w64 (97 + a0)) - 10)))))) ?_
 refine PL.nil (hK6 _ _ ?_)
 refine A1 2 (e_ (U8 (IntKind.u8.wrap (w64 ((w64 (97 + a0)) - 10))))) fun F f2 => ?_
 refine PC.ret ?_
 have h0 := pz h0
 subst h0
 exact fin (.inr rfl) (j9 Try.results104 f2) (.u _)
def zb6 (a0 : Int) : G ByteArray :=
  G.bind (G.lift (zkz .i64 (w64 a0) 16)) fun x3 => G.bind (Vz x3) fun x4 => G.bind (G.lift (zlj .i64 (w64 a0) 16)) fun x5 => G.bind (Vz x5) fun x6 => G.pure (strOfNums ([x4, x6] : List Int))
theorem zh4 {nn : Nat} {a0 : Int} {r : ByteArray} (h0 : zb6 a0 nn = some r) : PCall Try.prog 103 [U8 a0] (· = S r) := by
 unfold zb6 at h0
 refine PCall.intro' Try.func103 rfl Try.ntmps103 (by simp) fun W => ?_
 refine A1 0 (e_ (U8 a0)) fun F f0 => ?_
 generalize PHeap.empty = H
 refine SR fun K1 hK1 => ?_
 refine Q1 _ (jf (e_ (S (⟨#[]⟩ : ByteArray)))) ?_
 refine PL.nil (hK1 _ _ ?_)
 refine A1 0 f0 fun F f0 => ?_
 refine SR fun K2 hK2 => ?_
 refine Q1 _ (jb f0) ?_
 refine Q1 (I (w64 a0)) (Jc (by kernel_rfl) (by kernel_rfl) (e_ (U8 a0))) ?_
 obtain ⟨x3, hx3, h0⟩ := bs h0
 refine Q1 _ (jh rfl (e_ (I (w64 a0))) (e_ (I 16)) (zjt hx3)) ?_
 obtain ⟨x4, hx4, h0⟩ := bs h0
 refine Q3 (U8 x4) (j0 (by kernel_rfl) (am (e_ (I x3)) (am0)) (js (.u _) (j2)) (za7 hx4)) ?_
 refine Q1 _ (jb f0) ?_
 refine Q1 (I (w64 a0)) (Jc (by kernel_rfl) (by kernel_rfl) (e_ (U8 a0))) ?_
 obtain ⟨x5, hx5, h0⟩ := bs h0
 refine Q1 _ (jh rfl (e_ (I (w64 a0))) (e_ (I 16)) (zki hx5)) ?_
 obtain ⟨x6, hx6, h0⟩ := bs h0
 refine Q3 (U8 x6) (j0 (by kernel_rfl) (am (e_ (I x5)) (am0)) (js (.u _) (j2)) (za7 hx6)) ?_
 refine Q3 (Zi ([x4, x6] : List Int)) (yx (rep := U8) (xs := [x4, x6]) zbn rfl (by decide) (bm (e_ (U8 x4)) (bm (e_ (U8 x6)) (bm0))) rfl rfl) ?_
 refine Q3 (S (strOfNums ([x4, x6] : List Int))) (zjl (e := 5) (rep := U8) (fun _ => rfl) (by kernel_rfl) (by kernel_rfl) (by kernel_rfl) (e_ (Zi ([x4, x6] : List Int)))) ?_
 refine Q1 _ (jf (e_ (S (strOfNums ([x4, x6] : List Int))))) ?_
 refine PL.nil (hK2 _ _ ?_)
 refine A1 2 (e_ (S (strOfNums ([x4, x6] : List Int)))) fun F f2 => ?_
 refine PC.ret ?_
 have h0 := pz h0
 subst h0
 exact fin (.inr rfl) (j9 Try.results103 f2) (.u _)
def Z4 (a0 : ByteArray) : G (Int × Bool) :=
  G.bind (G.loop (σ := Int) (α := Unit ⊕ (Int × Bool)) (fun x5 => G.cond (decide (x5 < 256)) (G.bind (zb6 (IntKind.u8.wrap x5)) fun x16 => G.cond (x16.toList == a0.toList) (G.pure (.inr (.inr ((IntKind.u8.wrap x5), true)))) (G.pure (.inl (w64 (x5 + 1))))) (G.pure (.inr (.inl ())))) 0) fun o => match o with | .inl () => G.pure (0, false) | .inr r21 => G.pure r21
theorem zff {nn : Nat} {a0 : ByteArray} {r : (Int × Bool)} (h0 : Z4 a0 nn = some r) : PCall Try.prog 101 [S a0] (· = PV.tup [U8 r.1, B r.2]) := by
 unfold Z4 at h0
 refine PCall.intro' Try.func101 rfl Try.ntmps101 (by simp) fun W => ?_
 refine A1 0 (e_ (S a0)) fun F f0 => ?_
 generalize PHeap.empty = H
 refine SR fun K1 hK1 => ?_
 refine Q1 _ (jf (e_ (U8 0))) ?_
 refine Q1 _ (jf (e_ (B false))) ?_
 refine PL.nil (hK1 _ _ ?_)
 refine A1 0 f0 fun F f0 => ?_
 refine PC.seq fun K2 hK2 => ?_
 refine SR fun K3 hK3 => ?_
 refine Q1 _ (jf (e_ (I 0))) ?_
 refine PL.nil (hK3 _ _ ?_)
 refine A2 0 f0 4 (e_ (I 0)) fun F f0 f4 => ?_
 refine PC.block ?_
 obtain ⟨o6, ho6, h0⟩ := bs h0
 obtain ⟨B7, hB7, ho6⟩ := G.loop_some ho6
 refine PC.loop (fun m10 F H => ∃ s22 : Int, qw B7 m10 s22 = some o6 ∧ F 0 = (S a0) ∧ F 4 = (I s22)) (m := nn) ⟨0, ho6, f0, f4⟩ fun m10 F H hI => ?_
 obtain ⟨x5, ho6, f0, f4⟩ := hI
 obtain ⟨m10, rfl, st8, hs9, ho6⟩ := jw ho6
 rw [hB7] at hs9
 try dsimp only at hs9
 refine PC.seq fun K11 hK11 => ?_
 refine SR fun K12 hK12 => ?_
 refine Q1 _ (jb f4) ?_
 refine Q1 _ (jh rfl (e_ (I x5)) (e_ (I 256)) jv) ?_
 refine PL.nil (hK12 _ _ ?_)
 refine A3 0 f0 4 f4 6 (e_ (B (decide (x5 < 256)))) fun F f0 f4 f6 => ?_
 rcases cz hs9 with ⟨hb13, hs9⟩ | ⟨hb13, hs9⟩
 refine PC.condTb f6 hb13 ?_
 refine PC.skip ?_
 refine hK11 _ _ ?_
 refine A2 0 f0 4 f4 fun F f0 f4 => ?_
 refine PC.seq fun K14 hK14 => ?_
 refine PC.block ?_
 refine SR fun K15 hK15 => ?_
 refine Q1 _ (jb f4) ?_
 refine Q1 (U8 (IntKind.u8.wrap x5)) (Ja (by kernel_rfl) (by kernel_rfl) (e_ (I x5))) ?_
 obtain ⟨x16, hx16, hs9⟩ := bs hs9
 refine Q3 (S x16) (j0 (by kernel_rfl) (am (e_ (U8 (IntKind.u8.wrap x5))) (am0)) (js (.u _) (j2)) (zh4 hx16)) ?_
 refine Q1 _ (jb f0) ?_
 refine Q1 _ (jh rfl (e_ (S x16)) (e_ (S a0)) (zef _ _)) ?_
 refine PL.nil (hK15 _ _ ?_)
 refine A3 0 f0 4 f4 13 (e_ (B (x16.toList == a0.toList))) fun F f0 f4 f13 => ?_
 rcases cz hs9 with ⟨hb17, hs9⟩ | ⟨hb17, hs9⟩
 refine PC.condTb f13 hb17 ?_
 refine SR fun K18 hK18 => ?_
 refine Q1 _ (jb f4) ?_
 refine Q1 (U8 (IntKind.u8.wrap x5)) (Ja (by kernel_rfl) (by kernel_rfl) (e_ (I x5))) ?_
 refine Q1 _ (jf (e_ (U8 (IntKind.u8.wrap x5)))) ?_
 refine Q1 _ (jf (e_ (B true))) ?_
 refine PL.nil (hK18 _ _ ?_)
 refine A2 2 (e_ (U8 (IntKind.u8.wrap x5))) 3 (e_ (B true)) fun F f2 f3 => ?_
 have hs9 := pz hs9
 subst hs9
 try dsimp only at ho6
 subst ho6
 try dsimp only at h0
 refine PC.ret ?_
 have h0 := pz h0
 subst h0
 exact fin (.inr rfl) (zt (ss := [2, 3]) (ps := [(U8 (IntKind.u8.wrap x5)), (B true)]) Try.results101 (by decide) (rm f2 (rm f3 (rfl)))) (.tup _ (js (.u _) (js (.u _) (j2))))
 refine PC.condFb f13 hb17 ?_
 refine PC.skip ?_
 refine hK14 _ _ ?_
 refine A2 0 f0 4 f4 fun F f0 f4 => ?_
 refine PC.region ?_
 refine Q1 _ (jb f4) ?_
 refine Q1 _ (jh rfl (e_ (I x5)) (e_ (I 1)) j3) ?_
 refine Q1 _ (jf (e_ (I (w64 (x5 + 1))))) ?_
 refine PL.nil ?_
 have hs9 := pz hs9
 subst hs9
 exact ⟨m10, Nat.lt_succ_self _, (w64 (x5 + 1)), ho6, f0, (e_ (I (w64 (x5 + 1))))⟩
 refine PC.condFb f6 hb13 ?_
 refine PC.exit ?_
 have hs9 := pz hs9
 subst hs9
 try dsimp only at ho6
 subst ho6
 try dsimp only at h0
 refine hK2 _ _ ?_
 refine PC.absF (fun F => True) trivial ?_
 intro F hI
 clear hI
 refine SR fun K19 hK19 => ?_
 refine Q1 _ (jf (e_ (U8 0))) ?_
 refine Q1 _ (jf (e_ (B false))) ?_
 refine PL.nil (hK19 _ _ ?_)
 refine A2 2 (e_ (U8 0)) 3 (e_ (B false)) fun F f2 f3 => ?_
 refine PC.ret ?_
 have h0 := pz h0
 subst h0
 exact fin (.inr rfl) (zt (ss := [2, 3]) (ps := [(U8 0), (B false)]) Try.results101 (by decide) (rm f2 (rm f3 (rfl)))) (.tup _ (js (.u _) (js (.u _) (j2))))
def Yt (a0 : Int) : G Bool :=
  G.pure ((decide (33 ≤ a0)) && (decide (a0 ≤ 126)))
theorem zbr {nn : Nat} {a0 : Int} {r : Bool} (h0 : Yt a0 nn = some r) : PCall Try.prog 99 [U8 a0] (· = B r) := by
 unfold Yt at h0
 refine PCall.intro' Try.func99 rfl Try.ntmps99 (by simp) fun W => ?_
 refine A1 0 (e_ (U8 a0)) fun F f0 => ?_
 generalize PHeap.empty = H
 refine SR fun K1 hK1 => ?_
 refine Q1 _ (jf (e_ (B false))) ?_
 refine PL.nil (hK1 _ _ ?_)
 refine A1 0 f0 fun F f0 => ?_
 refine SR fun K2 hK2 => ?_
 refine Q1 _ (jb f0) ?_
 refine Q1 _ (jh rfl (e_ (U8 a0)) (e_ (U8 33)) vr) ?_
 refine Q1 _ (jb (e_ (B (decide (33 ≤ a0))))) ?_
 refine GT (U8 a0) rfl (e_ (B (decide (33 ≤ a0)))) (fun hb => jb f0) ?_
 refine GT (B (decide (a0 ≤ 126))) rfl (e_ (B (decide (33 ≤ a0)))) (fun hb => jh rfl (gvp hb (e_ (gv (decide (33 ≤ a0)) (U8 a0)))) (e_ (U8 126)) Qq) ?_
 refine Q1 (B ((decide (33 ≤ a0)) && (decide (a0 ≤ 126)))) (vt (e_ (B (decide (33 ≤ a0)))) (e_ (gv (decide (33 ≤ a0)) (B (decide (a0 ≤ 126))))) rfl) ?_
 refine Q1 _ (jf (e_ (B ((decide (33 ≤ a0)) && (decide (a0 ≤ 126)))))) ?_
 refine PL.nil (hK2 _ _ ?_)
 refine A1 2 (e_ (B ((decide (33 ≤ a0)) && (decide (a0 ≤ 126))))) fun F f2 => ?_
 refine PC.ret ?_
 have h0 := pz h0
 subst h0
 exact fin (.inr rfl) (j9 Try.results99 f2) (.u _)
def zai (a0 : Int) : G Bool :=
  G.pure ((((decide (48 ≤ a0)) && (decide (a0 ≤ 57))) || ((decide (97 ≤ a0)) && (decide (a0 ≤ 122)))) || ((decide (65 ≤ a0)) && (decide (a0 ≤ 90))))
theorem zg2 {nn : Nat} {a0 : Int} {r : Bool} (h0 : zai a0 nn = some r) : PCall Try.prog 102 [U8 a0] (· = B r) := by
 unfold zai at h0
 refine PCall.intro' Try.func102 rfl Try.ntmps102 (by simp) fun W => ?_
 refine A1 0 (e_ (U8 a0)) fun F f0 => ?_
 generalize PHeap.empty = H
 refine SR fun K1 hK1 => ?_
 refine Q1 _ (jf (e_ (B false))) ?_
 refine PL.nil (hK1 _ _ ?_)
 refine A1 0 f0 fun F f0 => ?_
 refine SR fun K2 hK2 => ?_
 refine Q1 _ (jb f0) ?_
 refine Q1 _ (jh rfl (e_ (U8 a0)) (e_ (U8 48)) vr) ?_
 refine Q1 _ (jb (e_ (B (decide (48 ≤ a0))))) ?_
 refine GT (U8 a0) rfl (e_ (B (decide (48 ≤ a0)))) (fun hb => jb f0) ?_
 refine GT (B (decide (a0 ≤ 57))) rfl (e_ (B (decide (48 ≤ a0)))) (fun hb => jh rfl (gvp hb (e_ (gv (decide (48 ≤ a0)) (U8 a0)))) (e_ (U8 57)) Qq) ?_
 refine Q1 (B ((decide (48 ≤ a0)) && (decide (a0 ≤ 57)))) (vt (e_ (B (decide (48 ≤ a0)))) (e_ (gv (decide (48 ≤ a0)) (B (decide (a0 ≤ 57))))) rfl) ?_
 refine Q1 _ (jb (e_ (B ((decide (48 ≤ a0)) && (decide (a0 ≤ 57)))))) ?_
 refine GF (U8 a0) rfl (e_ (B ((decide (48 ≤ a0)) && (decide (a0 ≤ 57))))) (fun hb => jb f0) ?_
 refine GF (B (decide (97 ≤ a0))) rfl (e_ (B ((decide (48 ≤ a0)) && (decide (a0 ≤ 57))))) (fun hb => jh rfl (gvp hb (e_ (gv (!((decide (48 ≤ a0)) && (decide (a0 ≤ 57)))) (U8 a0)))) (e_ (U8 97)) vr) ?_
 refine GF (B (decide (97 ≤ a0))) rfl (e_ (B ((decide (48 ≤ a0)) && (decide (a0 ≤ 57))))) (fun hb => jb (gvp hb (e_ (gv (!((decide (48 ≤ a0)) && (decide (a0 ≤ 57)))) (B (decide (97 ≤ a0))))))) ?_
 refine PL.gq (p := (U8 a0)) (c := (!((decide (48 ≤ a0)) && (decide (a0 ≤ 57))))) (c' := ((!((decide (48 ≤ a0)) && (decide (a0 ≤ 57)))) && (decide (97 ≤ a0)))) rfl rfl (e_ (gv (!((decide (48 ≤ a0)) && (decide (a0 ≤ 57)))) (B (decide (97 ≤ a0))))) (Jo _ _) (j4 (by decide)) (fun hb => ju (jb f0)) ?_
 refine PL.gq (p := (B (decide (a0 ≤ 122)))) (c := (!((decide (48 ≤ a0)) && (decide (a0 ≤ 57))))) (c' := ((!((decide (48 ≤ a0)) && (decide (a0 ≤ 57)))) && (decide (97 ≤ a0)))) rfl rfl (e_ (gv (!((decide (48 ≤ a0)) && (decide (a0 ≤ 57)))) (B (decide (97 ≤ a0))))) (Jo _ _) (j4 (by decide)) (fun hb => ju (jh rfl (gvp hb (e_ (gv ((!((decide (48 ≤ a0)) && (decide (a0 ≤ 57)))) && (decide (97 ≤ a0))) (U8 a0)))) (e_ (U8 122)) Qq)) ?_
 refine GF (B ((decide (97 ≤ a0)) && (decide (a0 ≤ 122)))) rfl (e_ (B ((decide (48 ≤ a0)) && (decide (a0 ≤ 57))))) (fun hb => Vx hb (gvp hb (e_ (gv (!((decide (48 ≤ a0)) && (decide (a0 ≤ 57)))) (B (decide (97 ≤ a0)))))) (e_ (gv ((!((decide (48 ≤ a0)) && (decide (a0 ≤ 57)))) && (decide (97 ≤ a0))) (B (decide (a0 ≤ 122))))) rfl) ?_
 refine Q1 (B (((decide (48 ≤ a0)) && (decide (a0 ≤ 57))) || ((decide (97 ≤ a0)) && (decide (a0 ≤ 122))))) (yf (e_ (B ((decide (48 ≤ a0)) && (decide (a0 ≤ 57))))) rfl (e_ (gv (!((decide (48 ≤ a0)) && (decide (a0 ≤ 57)))) (B ((decide (97 ≤ a0)) && (decide (a0 ≤ 122))))))) ?_
 refine Q1 _ (jb (e_ (B (((decide (48 ≤ a0)) && (decide (a0 ≤ 57))) || ((decide (97 ≤ a0)) && (decide (a0 ≤ 122))))))) ?_
 refine GF (U8 a0) rfl (e_ (B (((decide (48 ≤ a0)) && (decide (a0 ≤ 57))) || ((decide (97 ≤ a0)) && (decide (a0 ≤ 122)))))) (fun hb => jb f0) ?_
 refine GF (B (decide (65 ≤ a0))) rfl (e_ (B (((decide (48 ≤ a0)) && (decide (a0 ≤ 57))) || ((decide (97 ≤ a0)) && (decide (a0 ≤ 122)))))) (fun hb => jh rfl (gvp hb (e_ (gv (!(((decide (48 ≤ a0)) && (decide (a0 ≤ 57))) || ((decide (97 ≤ a0)) && (decide (a0 ≤ 122))))) (U8 a0)))) (e_ (U8 65)) vr) ?_
 refine GF (B (decide (65 ≤ a0))) rfl (e_ (B (((decide (48 ≤ a0)) && (decide (a0 ≤ 57))) || ((decide (97 ≤ a0)) && (decide (a0 ≤ 122)))))) (fun hb => jb (gvp hb (e_ (gv (!(((decide (48 ≤ a0)) && (decide (a0 ≤ 57))) || ((decide (97 ≤ a0)) && (decide (a0 ≤ 122))))) (B (decide (65 ≤ a0))))))) ?_
 refine PL.gq (p := (U8 a0)) (c := (!(((decide (48 ≤ a0)) && (decide (a0 ≤ 57))) || ((decide (97 ≤ a0)) && (decide (a0 ≤ 122)))))) (c' := ((!(((decide (48 ≤ a0)) && (decide (a0 ≤ 57))) || ((decide (97 ≤ a0)) && (decide (a0 ≤ 122))))) && (decide (65 ≤ a0)))) rfl rfl (e_ (gv (!(((decide (48 ≤ a0)) && (decide (a0 ≤ 57))) || ((decide (97 ≤ a0)) && (decide (a0 ≤ 122))))) (B (decide (65 ≤ a0))))) (Jo _ _) (j4 (by decide)) (fun hb => ju (jb f0)) ?_
 refine PL.gq (p := (B (decide (a0 ≤ 90)))) (c := (!(((decide (48 ≤ a0)) && (decide (a0 ≤ 57))) || ((decide (97 ≤ a0)) && (decide (a0 ≤ 122)))))) (c' := ((!(((decide (48 ≤ a0)) && (decide (a0 ≤ 57))) || ((decide (97 ≤ a0)) && (decide (a0 ≤ 122))))) && (decide (65 ≤ a0)))) rfl rfl (e_ (gv (!(((decide (48 ≤ a0)) && (decide (a0 ≤ 57))) || ((decide (97 ≤ a0)) && (decide (a0 ≤ 122))))) (B (decide (65 ≤ a0))))) (Jo _ _) (j4 (by decide)) (fun hb => ju (jh rfl (gvp hb (e_ (gv ((!(((decide (48 ≤ a0)) && (decide (a0 ≤ 57))) || ((decide (97 ≤ a0)) && (decide (a0 ≤ 122))))) && (decide (65 ≤ a0))) (U8 a0)))) (e_ (U8 90)) Qq)) ?_
 refine GF (B ((decide (65 ≤ a0)) && (decide (a0 ≤ 90)))) rfl (e_ (B (((decide (48 ≤ a0)) && (decide (a0 ≤ 57))) || ((decide (97 ≤ a0)) && (decide (a0 ≤ 122)))))) (fun hb => Vx hb (gvp hb (e_ (gv (!(((decide (48 ≤ a0)) && (decide (a0 ≤ 57))) || ((decide (97 ≤ a0)) && (decide (a0 ≤ 122))))) (B (decide (65 ≤ a0)))))) (e_ (gv ((!(((decide (48 ≤ a0)) && (decide (a0 ≤ 57))) || ((decide (97 ≤ a0)) && (decide (a0 ≤ 122))))) && (decide (65 ≤ a0))) (B (decide (a0 ≤ 90))))) rfl) ?_
 refine Q1 (B ((((decide (48 ≤ a0)) && (decide (a0 ≤ 57))) || ((decide (97 ≤ a0)) && (decide (a0 ≤ 122)))) || ((decide (65 ≤ a0)) && (decide (a0 ≤ 90))))) (yf (e_ (B (((decide (48 ≤ a0)) && (decide (a0 ≤ 57))) || ((decide (97 ≤ a0)) && (decide (a0 ≤ 122)))))) rfl (e_ (gv (!(((decide (48 ≤ a0)) && (decide (a0 ≤ 57))) || ((decide (97 ≤ a0)) && (decide (a0 ≤ 122))))) (B ((decide (65 ≤ a0)) && (decide (a0 ≤ 90))))))) ?_
 refine Q1 _ (jf (e_ (B ((((decide (48 ≤ a0)) && (decide (a0 ≤ 57))) || ((decide (97 ≤ a0)) && (decide (a0 ≤ 122)))) || ((decide (65 ≤ a0)) && (decide (a0 ≤ 90))))))) ?_
 refine PL.nil (hK2 _ _ ?_)
 refine A1 2 (e_ (B ((((decide (48 ≤ a0)) && (decide (a0 ≤ 57))) || ((decide (97 ≤ a0)) && (decide (a0 ≤ 122)))) || ((decide (65 ≤ a0)) && (decide (a0 ≤ 90)))))) fun F f2 => ?_
 refine PC.ret ?_
 have h0 := pz h0
 subst h0
 exact fin (.inr rfl) (j9 Try.results102 f2) (.u _)
def Y2 (a0 : ByteArray) (a1 : Int) : G (Int × Int × Bool) :=
  G.cond (decide ((a0.size : Int) ≤ (w64 (a1 + 1)))) (G.pure (0, (a0.size : Int), false)) (G.bind (G.lift (Yc a0 (w64 (a1 + 1)))) fun x7 => G.cond (decide (x7 = 110)) (G.pure (10, (w64 (a1 + 2)), true)) (G.cond (decide (x7 = 116)) (G.pure (9, (w64 (a1 + 2)), true)) (G.cond (decide (x7 = 114)) (G.pure (13, (w64 (a1 + 2)), true)) (G.cond (decide (x7 = 120)) (G.bind (G.loop (σ := Int) (α := Unit ⊕ (Int × Int × Bool)) (fun x26 => G.cond (decide (x26 < 4)) (G.bind (G.cond (!(decide ((a0.size : Int) ≤ (w64 (a1 + x26))))) (G.lift (Yc a0 (w64 (a1 + x26)))) (G.pure 0)) fun x37 => G.bind (G.cond (!(decide ((a0.size : Int) ≤ (w64 (a1 + x26))))) (zbm x37) (G.pure false)) fun x38 => G.cond ((decide ((a0.size : Int) ≤ (w64 (a1 + x26)))) || (!x38)) (G.pure (.inr (.inr (0, (min (w64 (a1 + x26)) (a0.size : Int)), false)))) (G.pure (.inl (w64 (x26 + 1))))) (G.pure (.inr (.inl ())))) 2) fun o => match o with | .inl () => G.bind (G.lift (zmt a0 (w64 (a1 + 2)) (w64 (a1 + 4)))) fun x46 => G.bind (Z4 x46) fun x47 => G.pure (x47.1, (w64 (a1 + 4)), true) | .inr r49 => G.pure r49) (G.bind (Yt x7) fun x53 => G.bind (G.cond (!(!x53)) (zai x7) (G.pure false)) fun x54 => G.cond ((!x53) || x54) (G.pure (0, (w64 (a1 + 1)), false)) (G.pure (x7, (w64 (a1 + 2)), true)))))))
theorem zeu {nn : Nat} {a0 : ByteArray} {a1 : Int} {r : (Int × Int × Bool)} (h0 : Y2 a0 a1 nn = some r) : PCall Try.prog 98 [S a0, I a1] (· = PV.tup [U8 r.1, I r.2.1, B r.2.2]) := by
 unfold Y2 at h0
 refine PCall.intro' Try.func98 rfl Try.ntmps98 (by simp) fun W => ?_
 refine A2 0 (e_ (S a0)) 1 (e_ (I a1)) fun F f0 f1 => ?_
 generalize PHeap.empty = H
 refine SR fun K1 hK1 => ?_
 refine Q1 _ (jf (e_ (U8 0))) ?_
 refine Q1 _ (jf (e_ (I 0))) ?_
 refine Q1 _ (jf (e_ (B false))) ?_
 refine PL.nil (hK1 _ _ ?_)
 refine A2 0 f0 1 f1 fun F f0 f1 => ?_
 refine PC.seq fun K2 hK2 => ?_
 refine SR fun K3 hK3 => ?_
 refine Q1 _ (jb f1) ?_
 refine Q1 _ (jh rfl (e_ (I a1)) (e_ (I 1)) j3) ?_
 refine Q1 _ (jb f0) ?_
 refine Q1 (I (a0.size : Int)) (yj qo (e_ (S a0))) ?_
 refine Q1 _ (jh rfl (e_ (I (w64 (a1 + 1)))) (e_ (I (a0.size : Int))) vr) ?_
 refine PL.nil (hK3 _ _ ?_)
 refine A3 0 f0 1 f1 15 (e_ (B (decide ((a0.size : Int) ≤ (w64 (a1 + 1)))))) fun F f0 f1 f15 => ?_
 rcases cz h0 with ⟨hb4, h0⟩ | ⟨hb4, h0⟩
 refine PC.condTb f15 hb4 ?_
 refine SR fun K5 hK5 => ?_
 refine Q1 _ (jb f0) ?_
 refine Q1 (I (a0.size : Int)) (yj qo (e_ (S a0))) ?_
 refine Q1 _ (jf (e_ (U8 0))) ?_
 refine Q1 _ (jf (e_ (I (a0.size : Int)))) ?_
 refine Q1 _ (jf (e_ (B false))) ?_
 refine PL.nil (hK5 _ _ ?_)
 refine A3 4 (e_ (U8 0)) 5 (e_ (I (a0.size : Int))) 6 (e_ (B false)) fun F f4 f5 f6 => ?_
 refine PC.ret ?_
 have h0 := pz h0
 subst h0
 exact fin (.inr rfl) (zt (ss := [4, 5, 6]) (ps := [(U8 0), (I (a0.size : Int)), (B false)]) Try.results98 (by decide) (rm f4 (rm f5 (rm f6 (rfl))))) (.tup _ (js (.u _) (js (.u _) (js (.u _) (j2)))))
 refine PC.condFb f15 hb4 ?_
 refine PC.skip ?_
 refine hK2 _ _ ?_
 refine A2 0 f0 1 f1 fun F f0 f1 => ?_
 refine SR fun K6 hK6 => ?_
 refine Q1 _ (jb f0) ?_
 refine Q1 _ (jb f1) ?_
 refine Q1 _ (jh rfl (e_ (I a1)) (e_ (I 1)) j3) ?_
 obtain ⟨x7, hx7, h0⟩ := bs h0
 refine Q1 (U8 x7) (yk qo (e_ (S a0)) (e_ (I (w64 (a1 + 1)))) hx7) ?_
 refine Q1 _ (jf (e_ (U8 x7))) ?_
 refine PL.nil (hK6 _ _ ?_)
 refine A3 0 f0 1 f1 7 (e_ (U8 x7)) fun F f0 f1 f7 => ?_
 refine PC.seq fun K8 hK8 => ?_
 refine SR fun K9 hK9 => ?_
 refine Q1 _ (jb f7) ?_
 refine Q1 _ (jh rfl (e_ (U8 x7)) (e_ (U8 110)) j7) ?_
 refine PL.nil (hK9 _ _ ?_)
 refine A4 0 f0 1 f1 7 f7 23 (e_ (B (decide (x7 = 110)))) fun F f0 f1 f7 f23 => ?_
 rcases cz h0 with ⟨hb10, h0⟩ | ⟨hb10, h0⟩
 refine PC.condTb f23 hb10 ?_
 refine SR fun K11 hK11 => ?_
 refine Q1 _ (jb f1) ?_
 refine Q1 _ (jh rfl (e_ (I a1)) (e_ (I 2)) j3) ?_
 refine Q1 _ (jf (e_ (U8 10))) ?_
 refine Q1 _ (jf (e_ (I (w64 (a1 + 2))))) ?_
 refine Q1 _ (jf (e_ (B true))) ?_
 refine PL.nil (hK11 _ _ ?_)
 refine A3 4 (e_ (U8 10)) 5 (e_ (I (w64 (a1 + 2)))) 6 (e_ (B true)) fun F f4 f5 f6 => ?_
 refine PC.ret ?_
 have h0 := pz h0
 subst h0
 exact fin (.inr rfl) (zt (ss := [4, 5, 6]) (ps := [(U8 10), (I (w64 (a1 + 2))), (B true)]) Try.results98 (by decide) (rm f4 (rm f5 (rm f6 (rfl))))) (.tup _ (js (.u _) (js (.u _) (js (.u _) (j2)))))
 refine PC.condFb f23 hb10 ?_
 refine PC.skip ?_
 refine hK8 _ _ ?_
 refine A3 0 f0 1 f1 7 f7 fun F f0 f1 f7 => ?_
 refine PC.seq fun K12 hK12 => ?_
 refine SR fun K13 hK13 => ?_
 refine Q1 _ (jb f7) ?_
 refine Q1 _ (jh rfl (e_ (U8 x7)) (e_ (U8 116)) j7) ?_
 refine PL.nil (hK13 _ _ ?_)
 refine A4 0 f0 1 f1 7 f7 27 (e_ (B (decide (x7 = 116)))) fun F f0 f1 f7 f27 => ?_
 rcases cz h0 with ⟨hb14, h0⟩ | ⟨hb14, h0⟩
 refine PC.condTb f27 hb14 ?_
 refine SR fun K15 hK15 => ?_
 refine Q1 _ (jb f1) ?_
 refine Q1 _ (jh rfl (e_ (I a1)) (e_ (I 2)) j3) ?_
 refine Q1 _ (jf (e_ (U8 9))) ?_
 refine Q1 _ (jf (e_ (I (w64 (a1 + 2))))) ?_
 refine Q1 _ (jf (e_ (B true))) ?_
 refine PL.nil (hK15 _ _ ?_)
 refine A3 4 (e_ (U8 9)) 5 (e_ (I (w64 (a1 + 2)))) 6 (e_ (B true)) fun F f4 f5 f6 => ?_
 refine PC.ret ?_
 have h0 := pz h0
 subst h0
 exact fin (.inr rfl) (zt (ss := [4, 5, 6]) (ps := [(U8 9), (I (w64 (a1 + 2))), (B true)]) Try.results98 (by decide) (rm f4 (rm f5 (rm f6 (rfl))))) (.tup _ (js (.u _) (js (.u _) (js (.u _) (j2)))))
 refine PC.condFb f27 hb14 ?_
 refine PC.skip ?_
 refine hK12 _ _ ?_
 refine A3 0 f0 1 f1 7 f7 fun F f0 f1 f7 => ?_
 refine PC.seq fun K16 hK16 => ?_
 refine SR fun K17 hK17 => ?_
 refine Q1 _ (jb f7) ?_
 refine Q1 _ (jh rfl (e_ (U8 x7)) (e_ (U8 114)) j7) ?_
 refine PL.nil (hK17 _ _ ?_)
 refine A4 0 f0 1 f1 7 f7 31 (e_ (B (decide (x7 = 114)))) fun F f0 f1 f7 f31 => ?_
 rcases cz h0 with ⟨hb18, h0⟩ | ⟨hb18, h0⟩
 refine PC.condTb f31 hb18 ?_
 refine SR fun K19 hK19 => ?_
 refine Q1 _ (jb f1) ?_
 refine Q1 _ (jh rfl (e_ (I a1)) (e_ (I 2)) j3) ?_
 refine Q1 _ (jf (e_ (U8 13))) ?_
 refine Q1 _ (jf (e_ (I (w64 (a1 + 2))))) ?_
 refine Q1 _ (jf (e_ (B true))) ?_
 refine PL.nil (hK19 _ _ ?_)
 refine A3 4 (e_ (U8 13)) 5 (e_ (I (w64 (a1 + 2)))) 6 (e_ (B true)) fun F f4 f5 f6 => ?_
 refine PC.ret ?_
 have h0 := pz h0
 subst h0
 exact fin (.inr rfl) (zt (ss := [4, 5, 6]) (ps := [(U8 13), (I (w64 (a1 + 2))), (B true)]) Try.results98 (by decide) (rm f4 (rm f5 (rm f6 (rfl))))) (.tup _ (js (.u _) (js (.u _) (js (.u _) (j2)))))
 refine PC.condFb f31 hb18 ?_
 refine PC.skip ?_
 refine hK16 _ _ ?_
 refine A3 0 f0 1 f1 7 f7 fun F f0 f1 f7 => ?_
 refine PC.seq fun K20 hK20 => ?_
 refine SR fun K21 hK21 => ?_
 refine Q1 _ (jb f7) ?_
 refine Q1 _ (jh rfl (e_ (U8 x7)) (e_ (U8 120)) j7) ?_
 refine PL.nil (hK21 _ _ ?_)
 refine A4 0 f0 1 f1 7 f7 35 (e_ (B (decide (x7 = 120)))) fun F f0 f1 f7 f35 => ?_
 rcases cz h0 with ⟨hb22, h0⟩ | ⟨hb22, h0⟩
 refine PC.condTb f35 hb22 ?_
 refine PC.seq fun K23 hK23 => ?_
 refine SR fun K24 hK24 => ?_
 refine Q1 _ (jf (e_ (I 2))) ?_
 refine PL.nil (hK24 _ _ ?_)
 refine A3 0 f0 1 f1 8 (e_ (I 2)) fun F f0 f1 f8 => ?_
 refine PC.block ?_
 obtain ⟨o27, ho27, h0⟩ := bs h0
 obtain ⟨B28, hB28, ho27⟩ := G.loop_some ho27
 refine PC.loop (fun m31 F H => ∃ s50 : Int, qw B28 m31 s50 = some o27 ∧ F 0 = (S a0) ∧ F 1 = (I a1) ∧ F 8 = (I s50)) (m := nn) ⟨2, ho27, f0, f1, f8⟩ fun m31 F H hI => ?_
 obtain ⟨x26, ho27, f0, f1, f8⟩ := hI
 obtain ⟨m31, rfl, st29, hs30, ho27⟩ := jw ho27
 rw [hB28] at hs30
 try dsimp only at hs30
 refine PC.seq fun K32 hK32 => ?_
 refine SR fun K33 hK33 => ?_
 refine Q1 _ (jb f8) ?_
 refine Q1 _ (jh rfl (e_ (I x26)) (e_ (I 4)) jv) ?_
 refine PL.nil (hK33 _ _ ?_)
 refine A4 0 f0 1 f1 8 f8 37 (e_ (B (decide (x26 < 4)))) fun F f0 f1 f8 f37 => ?_
 rcases cz hs30 with ⟨hb34, hs30⟩ | ⟨hb34, hs30⟩
 refine PC.condTb f37 hb34 ?_
 refine PC.skip ?_
 refine hK32 _ _ ?_
 refine A3 0 f0 1 f1 8 f8 fun F f0 f1 f8 => ?_
 refine PC.seq fun K35 hK35 => ?_
 refine PC.block ?_
 refine SR fun K36 hK36 => ?_
 refine Q1 _ (jb f1) ?_
 refine Q1 _ (jb f8) ?_
 refine Q1 _ (jh rfl (e_ (I a1)) (e_ (I x26)) j3) ?_
 refine Q1 _ (jb f0) ?_
 refine Q1 (I (a0.size : Int)) (yj qo (e_ (S a0))) ?_
 refine Q1 _ (jh rfl (e_ (I (w64 (a1 + x26)))) (e_ (I (a0.size : Int))) vr) ?_
 refine Q1 _ (jb (e_ (B (decide ((a0.size : Int) ≤ (w64 (a1 + x26))))))) ?_
 refine GF (S a0) rfl (e_ (B (decide ((a0.size : Int) ≤ (w64 (a1 + x26)))))) (fun hb => jb f0) ?_
 refine GF (I a1) rfl (e_ (B (decide ((a0.size : Int) ≤ (w64 (a1 + x26)))))) (fun hb => jb f1) ?_
 refine GF (I x26) rfl (e_ (B (decide ((a0.size : Int) ≤ (w64 (a1 + x26)))))) (fun hb => jb f8) ?_
 refine GF (I (w64 (a1 + x26))) rfl (e_ (B (decide ((a0.size : Int) ≤ (w64 (a1 + x26)))))) (fun hb => jh rfl (gvp hb (e_ (gv (!(decide ((a0.size : Int) ≤ (w64 (a1 + x26))))) (I a1)))) (gvp hb (e_ (gv (!(decide ((a0.size : Int) ≤ (w64 (a1 + x26))))) (I x26)))) j3) ?_
 obtain ⟨x37, hx37, hs30⟩ := bs hs30
 refine GF (U8 x37) rfl (e_ (B (decide ((a0.size : Int) ≤ (w64 (a1 + x26)))))) (fun hb => yk qo (gvp hb (e_ (gv (!(decide ((a0.size : Int) ≤ (w64 (a1 + x26))))) (S a0)))) (gvp hb (e_ (gv (!(decide ((a0.size : Int) ≤ (w64 (a1 + x26))))) (I (w64 (a1 + x26)))))) (G.cond_pos hx37 hb)) ?_
 obtain ⟨x38, hx38, hs30⟩ := bs hs30
 refine GFq (B x38) rfl (e_ (B (decide ((a0.size : Int) ≤ (w64 (a1 + x26)))))) (fun hb => j0 (by kernel_rfl) (am (gvp hb (e_ (gv (!(decide ((a0.size : Int) ≤ (w64 (a1 + x26))))) (U8 x37)))) (am0)) (js (.u _) (j2)) (zhw (G.cond_pos hx38 hb))) ?_
 refine GF (B (!x38)) rfl (e_ (B (decide ((a0.size : Int) ≤ (w64 (a1 + x26)))))) (fun hb => yn (gvp hb (e_ (gv (!(decide ((a0.size : Int) ≤ (w64 (a1 + x26))))) (B x38))))) ?_
 refine Q1 (B ((decide ((a0.size : Int) ≤ (w64 (a1 + x26)))) || (!x38))) (yf (e_ (B (decide ((a0.size : Int) ≤ (w64 (a1 + x26)))))) rfl (e_ (gv (!(decide ((a0.size : Int) ≤ (w64 (a1 + x26))))) (B (!x38))))) ?_
 refine PL.nil (hK36 _ _ ?_)
 refine A4 0 f0 1 f1 8 f8 54 (e_ (B ((decide ((a0.size : Int) ≤ (w64 (a1 + x26)))) || (!x38)))) fun F f0 f1 f8 f54 => ?_
 rcases cz hs30 with ⟨hb39, hs30⟩ | ⟨hb39, hs30⟩
 refine PC.condTb f54 hb39 ?_
 refine SR fun K40 hK40 => ?_
 refine Q1 _ (jb f1) ?_
 refine Q1 _ (jb f8) ?_
 refine Q1 _ (jh rfl (e_ (I a1)) (e_ (I x26)) j3) ?_
 refine Q1 _ (jb f0) ?_
 refine Q1 (I (a0.size : Int)) (yj qo (e_ (S a0))) ?_
 refine Q1 (I (min (w64 (a1 + x26)) (a0.size : Int))) (znc (e_ (I (w64 (a1 + x26)))) (e_ (I (a0.size : Int)))) ?_
 refine Q1 _ (jf (e_ (U8 0))) ?_
 refine Q1 _ (jf (e_ (I (min (w64 (a1 + x26)) (a0.size : Int))))) ?_
 refine Q1 _ (jf (e_ (B false))) ?_
 refine PL.nil (hK40 _ _ ?_)
 refine A3 4 (e_ (U8 0)) 5 (e_ (I (min (w64 (a1 + x26)) (a0.size : Int)))) 6 (e_ (B false)) fun F f4 f5 f6 => ?_
 have hs30 := pz hs30
 subst hs30
 try dsimp only at ho27
 subst ho27
 try dsimp only at h0
 refine PC.ret ?_
 have h0 := pz h0
 subst h0
 exact fin (.inr rfl) (zt (ss := [4, 5, 6]) (ps := [(U8 0), (I (min (w64 (a1 + x26)) (a0.size : Int))), (B false)]) Try.results98 (by decide) (rm f4 (rm f5 (rm f6 (rfl))))) (.tup _ (js (.u _) (js (.u _) (js (.u _) (j2)))))
 refine PC.condFb f54 hb39 ?_
 refine PC.skip ?_
 refine hK35 _ _ ?_
 refine A3 0 f0 1 f1 8 f8 fun F f0 f1 f8 => ?_
 refine PC.region ?_
 refine Q1 _ (jb f8) ?_
 refine Q1 _ (jh rfl (e_ (I x26)) (e_ (I 1)) j3) ?_
 refine Q1 _ (jf (e_ (I (w64 (x26 + 1))))) ?_
 refine PL.nil ?_
 have hs30 := pz hs30
 subst hs30
 exact ⟨m31, Nat.lt_succ_self _, (w64 (x26 + 1)), ho27, f0, f1, (e_ (I (w64 (x26 + 1))))⟩
 refine PC.condFb f37 hb34 ?_
 refine PC.exit ?_
 have hs30 := pz hs30
 subst hs30
 try dsimp only at ho27
 subst ho27
 try dsimp only at h0
 refine hK23 _ _ ?_
 refine A2 0 f0 1 f1 fun F f0 f1 => ?_
 refine SR fun K41 hK41 => ?_
 refine Q1 _ (jb f0) ?_
 refine Q1 _ (jb f1) ?_
 refine Q1 _ (jh rfl (e_ (I a1)) (e_ (I 2)) j3) ?_
 refine Q1 _ (jb f1) ?_
 refine Q1 _ (jh rfl (e_ (I a1)) (e_ (I 4)) j3) ?_
 obtain ⟨x42, hx42, h0⟩ := bs h0
 refine Q1 (S x42) (zmf qo (e_ (S a0)) (e_ (I (w64 (a1 + 2)))) (e_ (I (w64 (a1 + 4)))) hx42) ?_
 obtain ⟨x43, hx43, h0⟩ := bs h0
 refine Q3 (PV.tup [(U8 x43.1), (B x43.2)]) (j0 (by kernel_rfl) (am (e_ (S x42)) (am0)) (js (.u _) (j2)) (zff hx43)) ?_
 refine Q1 _ (jb (e_ (PV.tup [(U8 x43.1), (B x43.2)]))) ?_
 refine Q1 _ (vj (e_ (PV.tup [(U8 x43.1), (B x43.2)])) rfl) ?_
 refine Q1 _ (vj (e_ (PV.tup [(U8 x43.1), (B x43.2)])) rfl) ?_
 refine Q1 _ (jf (e_ (U8 x43.1))) ?_
 refine Q1 _ (jf (e_ (B x43.2))) ?_
 refine PL.nil (hK41 _ _ ?_)
 refine A2 1 f1 9 (e_ (U8 x43.1)) fun F f1 f9 => ?_
 refine SR fun K44 hK44 => ?_
 refine Q1 _ (jb f9) ?_
 refine Q1 _ (jb f1) ?_
 refine Q1 _ (jh rfl (e_ (I a1)) (e_ (I 4)) j3) ?_
 refine Q1 _ (jf (e_ (U8 x43.1))) ?_
 refine Q1 _ (jf (e_ (I (w64 (a1 + 4))))) ?_
 refine Q1 _ (jf (e_ (B true))) ?_
 refine PL.nil (hK44 _ _ ?_)
 refine A3 4 (e_ (U8 x43.1)) 5 (e_ (I (w64 (a1 + 4)))) 6 (e_ (B true)) fun F f4 f5 f6 => ?_
 refine PC.ret ?_
 have h0 := pz h0
 subst h0
 exact fin (.inr rfl) (zt (ss := [4, 5, 6]) (ps := [(U8 x43.1), (I (w64 (a1 + 4))), (B true)]) Try.results98 (by decide) (rm f4 (rm f5 (rm f6 (rfl))))) (.tup _ (js (.u _) (js (.u _) (js (.u _) (j2)))))
 refine PC.condFb f35 hb22 ?_
 refine PC.skip ?_
 refine hK20 _ _ ?_
 refine A2 1 f1 7 f7 fun F f1 f7 => ?_
 refine PC.seq fun K51 hK51 => ?_
 refine SR fun K52 hK52 => ?_
 refine Q1 _ (jb f7) ?_
 obtain ⟨x53, hx53, h0⟩ := bs h0
 refine Q3 (B x53) (j0 (by kernel_rfl) (am (e_ (U8 x7)) (am0)) (js (.u _) (j2)) (zbr hx53)) ?_
 refine Q1 (B (!x53)) (yn (e_ (B x53))) ?_
 refine Q1 _ (jb (e_ (B (!x53)))) ?_
 refine GF (U8 x7) rfl (e_ (B (!x53))) (fun hb => jb f7) ?_
 obtain ⟨x54, hx54, h0⟩ := bs h0
 refine GFq (B x54) rfl (e_ (B (!x53))) (fun hb => j0 (by kernel_rfl) (am (gvp hb (e_ (gv (!(!x53)) (U8 x7)))) (am0)) (js (.u _) (j2)) (zg2 (G.cond_pos hx54 hb))) ?_
 refine Q1 (B ((!x53) || x54)) (yf (e_ (B (!x53))) rfl (e_ (gv (!(!x53)) (B x54)))) ?_
 refine PL.nil (hK52 _ _ ?_)
 refine A3 1 f1 7 f7 80 (e_ (B ((!x53) || x54))) fun F f1 f7 f80 => ?_
 rcases cz h0 with ⟨hb55, h0⟩ | ⟨hb55, h0⟩
 refine PC.condTb f80 hb55 ?_
 refine SR fun K56 hK56 => ?_
 refine Q1 _ (jb f1) ?_
 refine Q1 _ (jh rfl (e_ (I a1)) (e_ (I 1)) j3) ?_
 refine Q1 _ (jf (e_ (U8 0))) ?_
 refine Q1 _ (jf (e_ (I (w64 (a1 + 1))))) ?_
 refine Q1 _ (jf (e_ (B false))) ?_
 refine PL.nil (hK56 _ _ ?_)
 refine A3 4 (e_ (U8 0)) 5 (e_ (I (w64 (a1 + 1)))) 6 (e_ (B false)) fun F f4 f5 f6 => ?_
 refine PC.ret ?_
 have h0 := pz h0
 subst h0
 exact fin (.inr rfl) (zt (ss := [4, 5, 6]) (ps := [(U8 0), (I (w64 (a1 + 1))), (B false)]) Try.results98 (by decide) (rm f4 (rm f5 (rm f6 (rfl))))) (.tup _ (js (.u _) (js (.u _) (js (.u _) (j2)))))
 refine PC.condFb f80 hb55 ?_
 refine PC.skip ?_
 refine hK51 _ _ ?_
 refine A2 1 f1 7 f7 fun F f1 f7 => ?_
 refine SR fun K57 hK57 => ?_
 refine Q1 _ (jb f7) ?_
 refine Q1 _ (jb f1) ?_
 refine Q1 _ (jh rfl (e_ (I a1)) (e_ (I 2)) j3) ?_
 refine Q1 _ (jf (e_ (U8 x7))) ?_
 refine Q1 _ (jf (e_ (I (w64 (a1 + 2))))) ?_
 refine Q1 _ (jf (e_ (B true))) ?_
 refine PL.nil (hK57 _ _ ?_)
 refine A3 4 (e_ (U8 x7)) 5 (e_ (I (w64 (a1 + 2)))) 6 (e_ (B true)) fun F f4 f5 f6 => ?_
 refine PC.ret ?_
 have h0 := pz h0
 subst h0
 exact fin (.inr rfl) (zt (ss := [4, 5, 6]) (ps := [(U8 x7), (I (w64 (a1 + 2))), (B true)]) Try.results98 (by decide) (rm f4 (rm f5 (rm f6 (rfl))))) (.tup _ (js (.u _) (js (.u _) (js (.u _) (j2)))))
def zaj (a0 : ByteArray) (a1 : Int) : G Bool :=
  G.bind (G.loop (σ := Int) (α := Unit ⊕ Bool) (fun x5 => G.cond (decide (x5 < (a0.size : Int))) (G.bind (G.lift (Yc a0 x5)) fun x16 => G.cond (decide (x16 = a1)) (G.pure (.inr (.inr true))) (G.pure (.inl (w64 (x5 + 1))))) (G.pure (.inr (.inl ())))) 0) fun o => match o with | .inl () => G.pure false | .inr r21 => G.pure r21
theorem zd0 {nn : Nat} {a0 : ByteArray} {a1 : Int} {r : Bool} (h0 : zaj a0 a1 nn = some r) : PCall Try.prog 71 [S a0, U8 a1] (· = B r) := by
 unfold zaj at h0
 refine PCall.intro' Try.func71 rfl Try.ntmps71 (by simp) fun W => ?_
 refine A2 0 (e_ (S a0)) 1 (e_ (U8 a1)) fun F f0 f1 => ?_
 generalize PHeap.empty = H
 refine SR fun K1 hK1 => ?_
 refine Q1 _ (jf (e_ (B false))) ?_
 refine PL.nil (hK1 _ _ ?_)
 refine A2 0 f0 1 f1 fun F f0 f1 => ?_
 refine PC.seq fun K2 hK2 => ?_
 refine SR fun K3 hK3 => ?_
 refine Q1 _ (jf (e_ (I 0))) ?_
 refine PL.nil (hK3 _ _ ?_)
 refine A3 0 f0 1 f1 5 (e_ (I 0)) fun F f0 f1 f5 => ?_
 refine PC.block ?_
 obtain ⟨o6, ho6, h0⟩ := bs h0
 obtain ⟨B7, hB7, ho6⟩ := G.loop_some ho6
 refine PC.loop (fun m10 F H => ∃ s22 : Int, qw B7 m10 s22 = some o6 ∧ F 0 = (S a0) ∧ F 1 = (U8 a1) ∧ F 5 = (I s22)) (m := nn) ⟨0, ho6, f0, f1, f5⟩ fun m10 F H hI => ?_
 obtain ⟨x5, ho6, f0, f1, f5⟩ := hI
 obtain ⟨m10, rfl, st8, hs9, ho6⟩ := jw ho6
 rw [hB7] at hs9
 try dsimp only at hs9
 refine PC.seq fun K11 hK11 => ?_
 refine SR fun K12 hK12 => ?_
 refine Q1 _ (jb f5) ?_
 refine Q1 _ (jb f0) ?_
 refine Q1 (I (a0.size : Int)) (yj qo (e_ (S a0))) ?_
 refine Q1 _ (jh rfl (e_ (I x5)) (e_ (I (a0.size : Int))) jv) ?_
 refine PL.nil (hK12 _ _ ?_)
 refine A4 0 f0 1 f1 5 f5 9 (e_ (B (decide (x5 < (a0.size : Int))))) fun F f0 f1 f5 f9 => ?_
 rcases cz hs9 with ⟨hb13, hs9⟩ | ⟨hb13, hs9⟩
 refine PC.condTb f9 hb13 ?_
 refine PC.skip ?_
 refine hK11 _ _ ?_
 refine A3 0 f0 1 f1 5 f5 fun F f0 f1 f5 => ?_
 refine PC.seq fun K14 hK14 => ?_
 refine PC.block ?_
 refine SR fun K15 hK15 => ?_
 refine Q1 _ (jb f0) ?_
 refine Q1 _ (jb f5) ?_
 obtain ⟨x16, hx16, hs9⟩ := bs hs9
 refine Q1 (U8 x16) (yk qo (e_ (S a0)) (e_ (I x5)) hx16) ?_
 refine Q1 _ (jb f1) ?_
 refine Q1 _ (jh rfl (e_ (U8 x16)) (e_ (U8 a1)) j7) ?_
 refine PL.nil (hK15 _ _ ?_)
 refine A4 0 f0 1 f1 5 f5 16 (e_ (B (decide (x16 = a1)))) fun F f0 f1 f5 f16 => ?_
 rcases cz hs9 with ⟨hb17, hs9⟩ | ⟨hb17, hs9⟩
 refine PC.condTb f16 hb17 ?_
 refine SR fun K18 hK18 => ?_
 refine Q1 _ (jf (e_ (B true))) ?_
 refine PL.nil (hK18 _ _ ?_)
 refine A1 4 (e_ (B true)) fun F f4 => ?_
 have hs9 := pz hs9
 subst hs9
 try dsimp only at ho6
 subst ho6
 try dsimp only at h0
 refine PC.ret ?_
 have h0 := pz h0
 subst h0
 exact fin (.inr rfl) (j9 Try.results71 f4) (.u _)
 refine PC.condFb f16 hb17 ?_
 refine PC.skip ?_
 refine hK14 _ _ ?_
 refine A3 0 f0 1 f1 5 f5 fun F f0 f1 f5 => ?_
 refine PC.region ?_
 refine Q1 _ (jb f5) ?_
 refine Q1 _ (jh rfl (e_ (I x5)) (e_ (I 1)) j3) ?_
 refine Q1 _ (jf (e_ (I (w64 (x5 + 1))))) ?_
 refine PL.nil ?_
 have hs9 := pz hs9
 subst hs9
 exact ⟨m10, Nat.lt_succ_self _, (w64 (x5 + 1)), ho6, f0, f1, (e_ (I (w64 (x5 + 1))))⟩
 refine PC.condFb f9 hb13 ?_
 refine PC.exit ?_
 have hs9 := pz hs9
 subst hs9
 try dsimp only at ho6
 subst ho6
 try dsimp only at h0
 refine hK2 _ _ ?_
 refine PC.absF (fun F => True) trivial ?_
 intro F hI
 clear hI
 refine SR fun K19 hK19 => ?_
 refine Q1 _ (jf (e_ (B false))) ?_
 refine PL.nil (hK19 _ _ ?_)
 refine A1 4 (e_ (B false)) fun F f4 => ?_
 refine PC.ret ?_
 have h0 := pz h0
 subst h0
 exact fin (.inr rfl) (j9 Try.results71 f4) (.u _)
def Vf (a0 : ByteArray) (a1 : Int) (a2 : ByteArray) : G (Int × Int × Bool) :=
  G.cond (decide ((a0.size : Int) ≤ a1)) (G.pure (0, (a0.size : Int), false)) (G.bind (G.lift (Yc a0 a1)) fun x8 => G.cond (decide (x8 = 92)) (G.bind (Y2 a0 a1) fun x11 => G.pure (x11.1, x11.2.1, x11.2.2)) (G.bind (G.lift (Yc a0 a1)) fun x14 => G.bind (Yt x14) fun x15 => G.bind (G.cond (!(!x15)) (G.lift (Yc a0 a1)) (G.pure 0)) fun x16 => G.bind (G.cond (!(!x15)) (zaj a2 x16) (G.pure false)) fun x17 => G.cond ((!x15) || x17) (G.pure (0, a1, false)) (G.bind (G.lift (Yc a0 a1)) fun x21 => G.pure (x21, (w64 (a1 + 1)), true))))
theorem Yz {nn : Nat} {a0 : ByteArray} {a1 : Int} {a2 : ByteArray} {r : (Int × Int × Bool)} (h0 : Vf a0 a1 a2 nn = some r) : PCall Try.prog 92 [S a0, I a1, S a2] (· = PV.tup [U8 r.1, I r.2.1, B r.2.2]) := by
 unfold Vf at h0
 refine PCall.intro' Try.func92 rfl Try.ntmps92 (by simp) fun W => ?_
 refine A3 0 (e_ (S a0)) 1 (e_ (I a1)) 2 (e_ (S a2)) fun F f0 f1 f2 => ?_
 generalize PHeap.empty = H
 refine SR fun K1 hK1 => ?_
 refine Q1 _ (jf (e_ (U8 0))) ?_
 refine Q1 _ (jf (e_ (I 0))) ?_
 refine Q1 _ (jf (e_ (B false))) ?_
 refine PL.nil (hK1 _ _ ?_)
 refine A3 0 f0 1 f1 2 f2 fun F f0 f1 f2 => ?_
 refine PC.seq fun K2 hK2 => ?_
 refine SR fun K3 hK3 => ?_
 refine Q1 _ (jb f1) ?_
 refine Q1 _ (jb f0) ?_
 refine Q1 (I (a0.size : Int)) (yj qo (e_ (S a0))) ?_
 refine Q1 _ (jh rfl (e_ (I a1)) (e_ (I (a0.size : Int))) vr) ?_
 refine PL.nil (hK3 _ _ ?_)
 refine A4 0 f0 1 f1 2 f2 12 (e_ (B (decide ((a0.size : Int) ≤ a1)))) fun F f0 f1 f2 f12 => ?_
 rcases cz h0 with ⟨hb4, h0⟩ | ⟨hb4, h0⟩
 refine PC.condTb f12 hb4 ?_
 refine SR fun K5 hK5 => ?_
 refine Q1 _ (jb f0) ?_
 refine Q1 (I (a0.size : Int)) (yj qo (e_ (S a0))) ?_
 refine Q1 _ (jf (e_ (U8 0))) ?_
 refine Q1 _ (jf (e_ (I (a0.size : Int)))) ?_
 refine Q1 _ (jf (e_ (B false))) ?_
 refine PL.nil (hK5 _ _ ?_)
 refine A3 6 (e_ (U8 0)) 7 (e_ (I (a0.size : Int))) 8 (e_ (B false)) fun F f6 f7 f8 => ?_
 refine PC.ret ?_
 have h0 := pz h0
 subst h0
 exact fin (.inr rfl) (zt (ss := [6, 7, 8]) (ps := [(U8 0), (I (a0.size : Int)), (B false)]) Try.results92 (by decide) (rm f6 (rm f7 (rm f8 (rfl))))) (.tup _ (js (.u _) (js (.u _) (js (.u _) (j2)))))
 refine PC.condFb f12 hb4 ?_
 refine PC.skip ?_
 refine hK2 _ _ ?_
 refine A3 0 f0 1 f1 2 f2 fun F f0 f1 f2 => ?_
 refine PC.seq fun K6 hK6 => ?_
 refine SR fun K7 hK7 => ?_
 refine Q1 _ (jb f0) ?_
 refine Q1 _ (jb f1) ?_
 obtain ⟨x8, hx8, h0⟩ := bs h0
 refine Q1 (U8 x8) (yk qo (e_ (S a0)) (e_ (I a1)) hx8) ?_
 refine Q1 _ (jh rfl (e_ (U8 x8)) (e_ (U8 92)) j7) ?_
 refine PL.nil (hK7 _ _ ?_)
 refine A4 0 f0 1 f1 2 f2 18 (e_ (B (decide (x8 = 92)))) fun F f0 f1 f2 f18 => ?_
 rcases cz h0 with ⟨hb9, h0⟩ | ⟨hb9, h0⟩
 refine PC.condTb f18 hb9 ?_
 refine SR fun K10 hK10 => ?_
 refine Q1 _ (jb f0) ?_
 refine Q1 _ (jb f1) ?_
 obtain ⟨x11, hx11, h0⟩ := bs h0
 refine Q3 (PV.tup [(U8 x11.1), (I x11.2.1), (B x11.2.2)]) (j0 (by kernel_rfl) (am (e_ (S a0)) (am (e_ (I a1)) (am0))) (js (.u _) (js (.u _) (j2))) (zeu hx11)) ?_
 refine Q1 _ (vj (e_ (PV.tup [(U8 x11.1), (I x11.2.1), (B x11.2.2)])) rfl) ?_
 refine Q1 _ (vj (e_ (PV.tup [(U8 x11.1), (I x11.2.1), (B x11.2.2)])) rfl) ?_
 refine Q1 _ (vj (e_ (PV.tup [(U8 x11.1), (I x11.2.1), (B x11.2.2)])) rfl) ?_
 refine Q1 _ (jf (e_ (U8 x11.1))) ?_
 refine Q1 _ (jf (e_ (I x11.2.1))) ?_
 refine Q1 _ (jf (e_ (B x11.2.2))) ?_
 refine PL.nil (hK10 _ _ ?_)
 refine A3 6 (e_ (U8 x11.1)) 7 (e_ (I x11.2.1)) 8 (e_ (B x11.2.2)) fun F f6 f7 f8 => ?_
 refine PC.ret ?_
 have h0 := pz h0
 subst h0
 exact fin (.inr rfl) (zt (ss := [6, 7, 8]) (ps := [(U8 x11.1), (I x11.2.1), (B x11.2.2)]) Try.results92 (by decide) (rm f6 (rm f7 (rm f8 (rfl))))) (.tup _ (js (.u _) (js (.u _) (js (.u _) (j2)))))
 refine PC.condFb f18 hb9 ?_
 refine PC.skip ?_
 refine hK6 _ _ ?_
 refine A3 0 f0 1 f1 2 f2 fun F f0 f1 f2 => ?_
 refine PC.seq fun K12 hK12 => ?_
 refine SR fun K13 hK13 => ?_
 refine Q1 _ (jb f0) ?_
 refine Q1 _ (jb f1) ?_
 obtain ⟨x14, hx14, h0⟩ := bs h0
 refine Q1 (U8 x14) (yk qo (e_ (S a0)) (e_ (I a1)) hx14) ?_
 obtain ⟨x15, hx15, h0⟩ := bs h0
 refine Q3 (B x15) (j0 (by kernel_rfl) (am (e_ (U8 x14)) (am0)) (js (.u _) (j2)) (zbr hx15)) ?_
 refine Q1 (B (!x15)) (yn (e_ (B x15))) ?_
 refine Q1 _ (jb (e_ (B (!x15)))) ?_
 refine GF (S a2) rfl (e_ (B (!x15))) (fun hb => jb f2) ?_
 refine GF (S a0) rfl (e_ (B (!x15))) (fun hb => jb f0) ?_
 refine GF (I a1) rfl (e_ (B (!x15))) (fun hb => jb f1) ?_
 obtain ⟨x16, hx16, h0⟩ := bs h0
 refine GF (U8 x16) rfl (e_ (B (!x15))) (fun hb => yk qo (gvp hb (e_ (gv (!(!x15)) (S a0)))) (gvp hb (e_ (gv (!(!x15)) (I a1)))) (G.cond_pos hx16 hb)) ?_
 obtain ⟨x17, hx17, h0⟩ := bs h0
 refine GFq (B x17) rfl (e_ (B (!x15))) (fun hb => j0 (by kernel_rfl) (am (gvp hb (e_ (gv (!(!x15)) (S a2)))) (am (gvp hb (e_ (gv (!(!x15)) (U8 x16)))) (am0))) (js (.u _) (js (.u _) (j2))) (zd0 (G.cond_pos hx17 hb))) ?_
 refine Q1 (B ((!x15) || x17)) (yf (e_ (B (!x15))) rfl (e_ (gv (!(!x15)) (B x17)))) ?_
 refine PL.nil (hK13 _ _ ?_)
 refine A3 0 f0 1 f1 36 (e_ (B ((!x15) || x17))) fun F f0 f1 f36 => ?_
 rcases cz h0 with ⟨hb18, h0⟩ | ⟨hb18, h0⟩
 refine PC.condTb f36 hb18 ?_
 refine SR fun K19 hK19 => ?_
 refine Q1 _ (jb f1) ?_
 refine Q1 _ (jf (e_ (U8 0))) ?_
 refine Q1 _ (jf (e_ (I a1))) ?_
 refine Q1 _ (jf (e_ (B false))) ?_
 refine PL.nil (hK19 _ _ ?_)
 refine A3 6 (e_ (U8 0)) 7 (e_ (I a1)) 8 (e_ (B false)) fun F f6 f7 f8 => ?_
 refine PC.ret ?_
 have h0 := pz h0
 subst h0
 exact fin (.inr rfl) (zt (ss := [6, 7, 8]) (ps := [(U8 0), (I a1), (B false)]) Try.results92 (by decide) (rm f6 (rm f7 (rm f8 (rfl))))) (.tup _ (js (.u _) (js (.u _) (js (.u _) (j2)))))
 refine PC.condFb f36 hb18 ?_
 refine PC.skip ?_
 refine hK12 _ _ ?_
 refine A2 0 f0 1 f1 fun F f0 f1 => ?_
 refine SR fun K20 hK20 => ?_
 refine Q1 _ (jb f0) ?_
 refine Q1 _ (jb f1) ?_
 obtain ⟨x21, hx21, h0⟩ := bs h0
 refine Q1 (U8 x21) (yk qo (e_ (S a0)) (e_ (I a1)) hx21) ?_
 refine Q1 _ (jb f1) ?_
 refine Q1 _ (jh rfl (e_ (I a1)) (e_ (I 1)) j3) ?_
 refine Q1 _ (jf (e_ (U8 x21))) ?_
 refine Q1 _ (jf (e_ (I (w64 (a1 + 1))))) ?_
 refine Q1 _ (jf (e_ (B true))) ?_
 refine PL.nil (hK20 _ _ ?_)
 refine A3 6 (e_ (U8 x21)) 7 (e_ (I (w64 (a1 + 1)))) 8 (e_ (B true)) fun F f6 f7 f8 => ?_
 refine PC.ret ?_
 have h0 := pz h0
 subst h0
 exact fin (.inr rfl) (zt (ss := [6, 7, 8]) (ps := [(U8 x21), (I (w64 (a1 + 1))), (B true)]) Try.results92 (by decide) (rm f6 (rm f7 (rm f8 (rfl))))) (.tup _ (js (.u _) (js (.u _) (js (.u _) (j2)))))
def Z0 (a0 : ByteArray) (a1 : Int) : G ((Arr 4 Int) × Int × Bool) :=
  G.bind (G.cond (decide ((w64 (a1 + 1)) < (a0.size : Int))) (G.lift (Yc a0 (w64 (a1 + 1)))) (G.pure 0)) fun x5 => G.bind (α := Int) (G.cond ((decide ((w64 (a1 + 1)) < (a0.size : Int))) && (decide (x5 = 94))) (G.pure (w64 ((w64 (a1 + 1)) + 1))) (G.pure (w64 (a1 + 1)))) fun x8 => G.bind (G.loop (σ := (Int × Int × (Arr 4 Int))) (α := (Int × (Arr 4 Int)) ⊕ ((Arr 4 Int) × Int × Bool)) (fun (x18, x19, x20) => G.bind (G.cond (!((decide (x19 = 0)) || (decide ((a0.size : Int) ≤ x18)))) (G.lift (Yc a0 x18)) (G.pure 0)) fun x28 => G.cond (((decide (x19 = 0)) || (decide ((a0.size : Int) ≤ x18))) || (decide (¬ x28 = 93))) (G.bind (Vf a0 x18 (⟨#[91, 93, 94, 45]⟩ : ByteArray)) fun x32 => G.cond (!x32.2.2) (G.pure (.inr (.inr (x20, x32.2.1, false)))) (G.bind (α := (Int × Int) ⊕ ((Arr 4 Int) × Int × Bool)) (G.bind (G.cond (decide (x32.2.1 < (a0.size : Int))) (G.lift (Yc a0 x32.2.1)) (G.pure 0)) fun x48 => G.cond ((decide (x32.2.1 < (a0.size : Int))) && (decide (x48 = 45))) (G.bind (Vf a0 (w64 (x32.2.1 + 1)) (⟨#[91, 93, 94, 45]⟩ : ByteArray)) fun x51 => G.cond (!x51.2.2) (G.pure (.inr (x20, x51.2.1, false))) (G.cond (decide (x51.1 < x32.1)) (G.pure (.inr (x20, (w64 (x51.2.1 - 1)), false))) (G.pure (.inl (x51.2.1, x51.1))))) (G.pure (.inl (x32.2.1, x32.1)))) fun o => match o with | .inl (x41, x42) => G.bind (Yk (w64 x32.1) (w64 x42)) fun x44 => G.bind (Ze 0 x20 x44) fun x45 => G.pure (.inl (x41, (w64 (x19 + 1)), x45)) | .inr r62 => G.pure (.inr (.inr r62)))) (G.pure (.inr (.inl (x18, x20))))) (x8, 0, (arZ 4 0))) fun o => match o with | .inl (x74, x75) => G.bind (α := (Arr 4 Int)) (G.cond ((decide ((w64 (a1 + 1)) < (a0.size : Int))) && (decide (x5 = 94))) (G.bind (Zh x75) fun x83 => G.pure x83) (G.pure x75)) fun x78 => G.pure (x78, (w64 (x74 + 1)), true) | .inr r86 => G.pure r86
theorem ze6 {nn : Nat} {a0 : ByteArray} {a1 : Int} {r : ((Arr 4 Int) × Int × Bool)} (h0 : Z0 a0 a1 nn = some r) : PCall Try.prog 91 [S a0, I a1] (· = PV.tup [(arV (n := 4) (iK .u64)) r.1, I r.2.1, B r.2.2]) := by
 unfold Z0 at h0
 refine PCall.intro' Try.func91 rfl Try.ntmps91 (by simp) fun W => ?_
 refine A2 0 (e_ (S a0)) 1 (e_ (I a1)) fun F f0 f1 => ?_
 generalize PHeap.empty = H
 refine SR fun K1 hK1 => ?_
 refine PL.allocA 204 (cs := ((arV (n := 4) (iK .u64)) (arZ 4 0)).cells) rfl rfl rfl (by decide) Qr (by kernel_rfl) (by kernel_rfl) fun v204 H b204 fz2 => ?_
 refine Q1 _ (jf (e_ (I 0))) ?_
 refine Q1 _ (jf (e_ (B false))) ?_
 refine PL.nil (hK1 _ _ ?_)
 refine A3 0 f0 1 f1 4 (e_ (PV.pp 204 0 v204)) fun F f0 f1 f4 => ?_
 refine SR fun K3 hK3 => ?_
 refine Q1 _ (jb f1) ?_
 refine Q1 _ (jh rfl (e_ (I a1)) (e_ (I 1)) j3) ?_
 refine Q1 _ (jf (e_ (I (w64 (a1 + 1))))) ?_
 refine PL.nil (hK3 _ _ ?_)
 refine A3 0 f0 4 f4 7 (e_ (I (w64 (a1 + 1)))) fun F f0 f4 f7 => ?_
 refine SR fun K4 hK4 => ?_
 refine Q1 _ (jb f7) ?_
 refine Q1 _ (jb f0) ?_
 refine Q1 (I (a0.size : Int)) (yj qo (e_ (S a0))) ?_
 refine Q1 _ (jh rfl (e_ (I (w64 (a1 + 1)))) (e_ (I (a0.size : Int))) jv) ?_
 refine Q1 _ (jb (e_ (B (decide ((w64 (a1 + 1)) < (a0.size : Int)))))) ?_
 refine GT (S a0) rfl (e_ (B (decide ((w64 (a1 + 1)) < (a0.size : Int))))) (fun hb => jb f0) ?_
 refine GT (I (w64 (a1 + 1))) rfl (e_ (B (decide ((w64 (a1 + 1)) < (a0.size : Int))))) (fun hb => jb f7) ?_
 obtain ⟨x5, hx5, h0⟩ := bs h0
 refine GT (U8 x5) rfl (e_ (B (decide ((w64 (a1 + 1)) < (a0.size : Int))))) (fun hb => yk qo (gvp hb (e_ (gv (decide ((w64 (a1 + 1)) < (a0.size : Int))) (S a0)))) (gvp hb (e_ (gv (decide ((w64 (a1 + 1)) < (a0.size : Int))) (I (w64 (a1 + 1)))))) (G.cond_pos hx5 hb)) ?_
 refine GT (B (decide (x5 = 94))) rfl (e_ (B (decide ((w64 (a1 + 1)) < (a0.size : Int))))) (fun hb => jh rfl (gvp hb (e_ (gv (decide ((w64 (a1 + 1)) < (a0.size : Int))) (U8 x5)))) (e_ (U8 94)) j7) ?_
 refine Q1 (B ((decide ((w64 (a1 + 1)) < (a0.size : Int))) && (decide (x5 = 94)))) (vt (e_ (B (decide ((w64 (a1 + 1)) < (a0.size : Int))))) (e_ (gv (decide ((w64 (a1 + 1)) < (a0.size : Int))) (B (decide (x5 = 94))))) rfl) ?_
 refine Q1 _ (jf (e_ (B ((decide ((w64 (a1 + 1)) < (a0.size : Int))) && (decide (x5 = 94)))))) ?_
 refine PL.nil (hK4 _ _ ?_)
 refine A4 0 f0 4 f4 7 f7 8 (e_ (B ((decide ((w64 (a1 + 1)) < (a0.size : Int))) && (decide (x5 = 94))))) fun F f0 f4 f7 f8 => ?_
 obtain ⟨o7, ho7, h0⟩ := bs h0
 refine PC.seqM (fun F H => ∃ s90 : Int, o7 = s90 ∧ F 0 = (S a0) ∧ F 4 = (PV.pp 204 0 v204) ∧ F 7 = (I s90) ∧ F 8 = (B ((decide ((w64 (a1 + 1)) < (a0.size : Int))) && (decide (x5 = 94)))) ∧ H 204 = ⟨v204, some (.box 82 ((arV (n := 4) (iK .u64)) (arZ 4 0)).cells)⟩) ?_ ?_
 refine SR fun K88 hK88 => ?_
 refine Q1 _ (jb f8) ?_
 refine PL.nil (hK88 _ _ ?_)
 refine A5 0 f0 4 f4 7 f7 8 f8 30 (e_ (B ((decide ((w64 (a1 + 1)) < (a0.size : Int))) && (decide (x5 = 94))))) fun F f0 f4 f7 f8 f30 => ?_
 rcases cz ho7 with ⟨hb89, ho7⟩ | ⟨hb89, ho7⟩
 refine PC.condTb f30 hb89 ?_
 refine PC.region ?_
 refine Q1 _ (jb f7) ?_
 refine Q1 _ (jh rfl (e_ (I (w64 (a1 + 1)))) (e_ (I 1)) j3) ?_
 refine Q1 _ (jf (e_ (I (w64 ((w64 (a1 + 1)) + 1))))) ?_
 refine PL.nil ?_
 have ho7 := pz ho7
 subst ho7
 exact ⟨(w64 ((w64 (a1 + 1)) + 1)), rfl, f0, f4, (e_ (I (w64 ((w64 (a1 + 1)) + 1)))), f8, b204⟩
 refine PC.condFb f30 hb89 ?_
 refine PC.skip ?_
 have ho7 := pz ho7
 subst ho7
 exact ⟨(w64 (a1 + 1)), rfl, f0, f4, f7, f8, b204⟩
 intro F H hI
 obtain ⟨x8, ho, f0, f4, f7, f8, b204⟩ := hI
 have ho := ho.symm
 subst ho
 try dsimp only at h0
 refine SR fun K9 hK9 => ?_
 refine Q1 ((arV (n := 4) (iK .u64)) (arZ 4 0)) (Jg (bm0) (by kernel_rfl)) ?_
 refine PL.allocA 209 (cs := ((arV (n := 4) (iK .u64)) (arZ 4 0)).cells) rfl rfl rfl (by decide) Qr (by kernel_rfl) (by kernel_rfl) fun v209 H b209 fz10 => ?_
 have b204 := (fz10 204 (by decide)).trans b204
 refine PL.storeA (ag := true) (cs' := ((arV (n := 4) (iK .u64)) (arZ 4 0)).cells) (ps := ((arV (n := 4) (iK .u64)) (arZ 4 0)).cells) rfl rfl (fun _ h => by cases h) (e_ (PV.pp 209 0 v209)) b209 qy (e_ ((arV (n := 4) (iK .u64)) (arZ 4 0))) (v8 _ _ _ (fun _ => rfl)) rfl (jj _ _ (fun _ => rfl)) (by rw [(jj _ _ (fun _ => rfl))]; exact Nat.le_of_ble_eq_true rfl) (vz (N := 4) (jj _ _ (fun _ => rfl)) (jj _ _ (fun _ => rfl))) fun H b209 fz11 => ?_
 have b204 := (fz11 204 (by decide)).trans b204
 refine PL.nil (hK9 _ _ ?_)
 refine A5 0 f0 4 f4 7 f7 8 f8 9 (e_ (PV.pp 209 0 v209)) fun F f0 f4 f7 f8 f9 => ?_
 refine PC.seq fun K12 hK12 => ?_
 refine SR fun K13 hK13 => ?_
 refine Q1 _ (jf (e_ (I 0))) ?_
 refine PL.nil (hK13 _ _ ?_)
 refine A6 0 f0 4 f4 7 f7 8 f8 9 f9 10 (e_ (I 0)) fun F f0 f4 f7 f8 f9 f10 => ?_
 refine PC.block ?_
 obtain ⟨o21, ho21, h0⟩ := bs h0
 obtain ⟨B22, hB22, ho21⟩ := G.loop_some ho21
 refine PC.loop (fun m25 F H => ∃ s87 : (Int × Int × (Arr 4 Int)), qw B22 m25 s87 = some o21 ∧ F 0 = (S a0) ∧ F 4 = (PV.pp 204 0 v204) ∧ F 7 = (I s87.1) ∧ F 8 = (B ((decide ((w64 (a1 + 1)) < (a0.size : Int))) && (decide (x5 = 94)))) ∧ F 9 = (PV.pp 209 0 v209) ∧ F 10 = (I s87.2.1) ∧ H 204 = ⟨v204, some (.box 82 ((arV (n := 4) (iK .u64)) (arZ 4 0)).cells)⟩ ∧ H 209 = ⟨v209, some (.box 82 ((arV (n := 4) (iK .u64)) s87.2.2).cells)⟩) (m := nn) ⟨(x8, 0, (arZ 4 0)), ho21, f0, f4, f7, f8, f9, f10, b204, b209⟩ fun m25 F H hI => ?_
 obtain ⟨⟨x18, x19, x20⟩, ho21, f0, f4, f7, f8, f9, f10, b204, b209⟩ := hI
 obtain ⟨m25, rfl, st23, hs24, ho21⟩ := jw ho21
 rw [hB22] at hs24
 try dsimp only at hs24
 refine PC.seq fun K26 hK26 => ?_
 refine SR fun K27 hK27 => ?_
 refine Q1 _ (jb f10) ?_
 refine Q1 _ (jh rfl (e_ (I x19)) (e_ (I 0)) j7) ?_
 refine Q1 _ (jb (e_ (B (decide (x19 = 0))))) ?_
 refine GF (I x18) rfl (e_ (B (decide (x19 = 0)))) (fun hb => jb f7) ?_
 refine GF (S a0) rfl (e_ (B (decide (x19 = 0)))) (fun hb => jb f0) ?_
 refine GF (I (a0.size : Int)) rfl (e_ (B (decide (x19 = 0)))) (fun hb => yj qo (gvp hb (e_ (gv (!(decide (x19 = 0))) (S a0))))) ?_
 refine GF (B (decide ((a0.size : Int) ≤ x18))) rfl (e_ (B (decide (x19 = 0)))) (fun hb => jh rfl (gvp hb (e_ (gv (!(decide (x19 = 0))) (I x18)))) (gvp hb (e_ (gv (!(decide (x19 = 0))) (I (a0.size : Int))))) vr) ?_
 refine Q1 (B ((decide (x19 = 0)) || (decide ((a0.size : Int) ≤ x18)))) (yf (e_ (B (decide (x19 = 0)))) rfl (e_ (gv (!(decide (x19 = 0))) (B (decide ((a0.size : Int) ≤ x18)))))) ?_
 refine Q1 _ (jb (e_ (B ((decide (x19 = 0)) || (decide ((a0.size : Int) ≤ x18)))))) ?_
 refine GF (S a0) rfl (e_ (B ((decide (x19 = 0)) || (decide ((a0.size : Int) ≤ x18))))) (fun hb => jb f0) ?_
 refine GF (I x18) rfl (e_ (B ((decide (x19 = 0)) || (decide ((a0.size : Int) ≤ x18))))) (fun hb => jb f7) ?_
 obtain ⟨x28, hx28, hs24⟩ := bs hs24
 refine GF (U8 x28) rfl (e_ (B ((decide (x19 = 0)) || (decide ((a0.size : Int) ≤ x18))))) (fun hb => yk qo (gvp hb (e_ (gv (!((decide (x19 = 0)) || (decide ((a0.size : Int) ≤ x18)))) (S a0)))) (gvp hb (e_ (gv (!((decide (x19 = 0)) || (decide ((a0.size : Int) ≤ x18)))) (I x18)))) (G.cond_pos hx28 hb)) ?_
 refine GF (B (decide (¬ x28 = 93))) rfl (e_ (B ((decide (x19 = 0)) || (decide ((a0.size : Int) ≤ x18))))) (fun hb => jh rfl (gvp hb (e_ (gv (!((decide (x19 = 0)) || (decide ((a0.size : Int) ≤ x18)))) (U8 x28)))) (e_ (U8 93)) yc) ?_
 refine Q1 (B (((decide (x19 = 0)) || (decide ((a0.size : Int) ≤ x18))) || (decide (¬ x28 = 93)))) (yf (e_ (B ((decide (x19 = 0)) || (decide ((a0.size : Int) ≤ x18))))) rfl (e_ (gv (!((decide (x19 = 0)) || (decide ((a0.size : Int) ≤ x18)))) (B (decide (¬ x28 = 93)))))) ?_
 refine PL.nil (hK27 _ _ ?_)
 refine A7 0 f0 4 f4 7 f7 8 f8 9 f9 10 f10 47 (e_ (B (((decide (x19 = 0)) || (decide ((a0.size : Int) ≤ x18))) || (decide (¬ x28 = 93))))) fun F f0 f4 f7 f8 f9 f10 f47 => ?_
 rcases cz hs24 with ⟨hb29, hs24⟩ | ⟨hb29, hs24⟩
 refine PC.condTb f47 hb29 ?_
 refine PC.skip ?_
 refine hK26 _ _ ?_
 refine A6 0 f0 4 f4 7 f7 8 f8 9 f9 10 f10 fun F f0 f4 f7 f8 f9 f10 => ?_
 refine PC.seq fun K30 hK30 => ?_
 refine PC.block ?_
 refine SR fun K31 hK31 => ?_
 refine Q1 _ (jb f0) ?_
 refine Q1 _ (jb f7) ?_
 obtain ⟨x32, hx32, hs24⟩ := bs hs24
 refine Q3 (PV.tup [(U8 x32.1), (I x32.2.1), (B x32.2.2)]) (j0 (by kernel_rfl) (am (e_ (S a0)) (am (e_ (I x18)) (am (e_ (S (⟨#[91, 93, 94, 45]⟩ : ByteArray))) (am0)))) (js (.u _) (js (.u _) (js (.u _) (j2)))) (Yz hx32)) ?_
 refine Q1 _ (jb (e_ (PV.tup [(U8 x32.1), (I x32.2.1), (B x32.2.2)]))) ?_
 refine Q1 _ (vj (e_ (PV.tup [(U8 x32.1), (I x32.2.1), (B x32.2.2)])) rfl) ?_
 refine Q1 _ (vj (e_ (PV.tup [(U8 x32.1), (I x32.2.1), (B x32.2.2)])) rfl) ?_
 refine Q1 _ (vj (e_ (PV.tup [(U8 x32.1), (I x32.2.1), (B x32.2.2)])) rfl) ?_
 refine Q1 _ (jf (e_ (U8 x32.1))) ?_
 refine Q1 _ (jf (e_ (I x32.2.1))) ?_
 refine Q1 _ (jf (e_ (B x32.2.2))) ?_
 refine PL.nil (hK31 _ _ ?_)
 refine A8 0 f0 4 f4 8 f8 9 f9 10 f10 11 (e_ (U8 x32.1)) 12 (e_ (I x32.2.1)) 13 (e_ (B x32.2.2)) fun F f0 f4 f8 f9 f10 f11 f12 f13 => ?_
 refine PC.seq fun K33 hK33 => ?_
 refine SR fun K34 hK34 => ?_
 refine Q1 _ (jb f13) ?_
 refine Q1 (B (!x32.2.2)) (yn (e_ (B x32.2.2))) ?_
 refine PL.nil (hK34 _ _ ?_)
 refine A8 0 f0 4 f4 8 f8 9 f9 10 f10 11 f11 12 f12 58 (e_ (B (!x32.2.2))) fun F f0 f4 f8 f9 f10 f11 f12 f58 => ?_
 rcases cz hs24 with ⟨hb35, hs24⟩ | ⟨hb35, hs24⟩
 refine PC.condTb f58 hb35 ?_
 refine SR fun K36 hK36 => ?_
 refine Q1 ((arV (n := 4) (iK .u64)) x20) (vm qy f9 b209 (yo (jj _ _ (fun _ => rfl)))) ?_
 refine Q1 _ (jb f12) ?_
 refine PL.storeA (ag := true) (cs' := ((arV (n := 4) (iK .u64)) x20).cells) (ps := ((arV (n := 4) (iK .u64)) x20).cells) rfl rfl (fun _ h => by cases h) f4 b204 qy (e_ ((arV (n := 4) (iK .u64)) x20)) (v8 _ _ _ (fun _ => rfl)) rfl (jj _ _ (fun _ => rfl)) (by rw [(jj _ _ (fun _ => rfl))]; exact Nat.le_of_ble_eq_true rfl) (vz (N := 4) (jj _ _ (fun _ => rfl)) (jj _ _ (fun _ => rfl))) fun H b204 fz37 => ?_
 have b209 := (fz37 209 (by decide)).trans b209
 refine Q1 _ (jf (e_ (I x32.2.1))) ?_
 refine Q1 _ (jf (e_ (B false))) ?_
 refine PL.nil (hK36 _ _ ?_)
 refine A3 4 f4 5 (e_ (I x32.2.1)) 6 (e_ (B false)) fun F f4 f5 f6 => ?_
 have hs24 := pz hs24
 subst hs24
 try dsimp only at ho21
 subst ho21
 try dsimp only at h0
 refine PC.ret ?_
 have h0 := pz h0
 subst h0
 exact fin (p0 := PV.tup [((arV (n := 4) (iK .u64)) x20), (I x32.2.1), (B false)]) (.inr rfl) (Yq (rs := [.cell 4 82, .tmp 5, .tmp 6]) Try.results91 (by decide) (rlc (zf qy f4 b204 (yo (jj _ _ (fun _ => rfl)))) (rlc (Jy f5) (rlc (Jy f6) (rl0))))) (.tup _ (js (vc _ (fun _ => (.u _))) (js (.u _) (js (.u _) (j2)))))
 refine PC.condFb f58 hb35 ?_
 refine PC.skip ?_
 refine hK33 _ _ ?_
 refine A7 0 f0 4 f4 8 f8 9 f9 10 f10 11 f11 12 f12 fun F f0 f4 f8 f9 f10 f11 f12 => ?_
 refine SR fun K38 hK38 => ?_
 refine Q1 _ (jb f11) ?_
 refine Q1 _ (jf (e_ (U8 x32.1))) ?_
 refine PL.nil (hK38 _ _ ?_)
 refine A8 0 f0 4 f4 8 f8 9 f9 10 f10 11 f11 12 f12 14 (e_ (U8 x32.1)) fun F f0 f4 f8 f9 f10 f11 f12 f14 => ?_
 obtain ⟨o40, ho40, hs24⟩ := bs hs24
 refine PC.seqM (fun F H => ∃ s63 : (Int × Int), o40 = .inl s63 ∧ F 0 = (S a0) ∧ F 4 = (PV.pp 204 0 v204) ∧ F 8 = (B ((decide ((w64 (a1 + 1)) < (a0.size : Int))) && (decide (x5 = 94)))) ∧ F 9 = (PV.pp 209 0 v209) ∧ F 10 = (I x19) ∧ F 11 = (U8 x32.1) ∧ F 12 = (I s63.1) ∧ F 14 = (U8 s63.2) ∧ H 204 = ⟨v204, some (.box 82 ((arV (n := 4) (iK .u64)) (arZ 4 0)).cells)⟩ ∧ H 209 = ⟨v209, some (.box 82 ((arV (n := 4) (iK .u64)) x20).cells)⟩) ?_ ?_
 refine SR fun K47 hK47 => ?_
 refine Q1 _ (jb f12) ?_
 refine Q1 _ (jb f0) ?_
 refine Q1 (I (a0.size : Int)) (yj qo (e_ (S a0))) ?_
 refine Q1 _ (jh rfl (e_ (I x32.2.1)) (e_ (I (a0.size : Int))) jv) ?_
 refine Q1 _ (jb (e_ (B (decide (x32.2.1 < (a0.size : Int)))))) ?_
 refine GT (S a0) rfl (e_ (B (decide (x32.2.1 < (a0.size : Int))))) (fun hb => jb f0) ?_
 refine GT (I x32.2.1) rfl (e_ (B (decide (x32.2.1 < (a0.size : Int))))) (fun hb => jb f12) ?_
 obtain ⟨x48, hx48, ho40⟩ := bs ho40
 refine GT (U8 x48) rfl (e_ (B (decide (x32.2.1 < (a0.size : Int))))) (fun hb => yk qo (gvp hb (e_ (gv (decide (x32.2.1 < (a0.size : Int))) (S a0)))) (gvp hb (e_ (gv (decide (x32.2.1 < (a0.size : Int))) (I x32.2.1)))) (G.cond_pos hx48 hb)) ?_
 refine GT (B (decide (x48 = 45))) rfl (e_ (B (decide (x32.2.1 < (a0.size : Int))))) (fun hb => jh rfl (gvp hb (e_ (gv (decide (x32.2.1 < (a0.size : Int))) (U8 x48)))) (e_ (U8 45)) j7) ?_
 refine Q1 (B ((decide (x32.2.1 < (a0.size : Int))) && (decide (x48 = 45)))) (vt (e_ (B (decide (x32.2.1 < (a0.size : Int))))) (e_ (gv (decide (x32.2.1 < (a0.size : Int))) (B (decide (x48 = 45))))) rfl) ?_
 refine PL.nil (hK47 _ _ ?_)
 refine A9 0 f0 4 f4 8 f8 9 f9 10 f10 11 f11 12 f12 14 f14 71 (e_ (B ((decide (x32.2.1 < (a0.size : Int))) && (decide (x48 = 45))))) fun F f0 f4 f8 f9 f10 f11 f12 f14 f71 => ?_
 rcases cz ho40 with ⟨hb49, ho40⟩ | ⟨hb49, ho40⟩
 refine PC.condTb f71 hb49 ?_
 refine SR fun K50 hK50 => ?_
 refine Q1 _ (jb f0) ?_
 refine Q1 _ (jb f12) ?_
 refine Q1 _ (jh rfl (e_ (I x32.2.1)) (e_ (I 1)) j3) ?_
 obtain ⟨x51, hx51, ho40⟩ := bs ho40
 refine Q3 (PV.tup [(U8 x51.1), (I x51.2.1), (B x51.2.2)]) (j0 (by kernel_rfl) (am (e_ (S a0)) (am (e_ (I (w64 (x32.2.1 + 1)))) (am (e_ (S (⟨#[91, 93, 94, 45]⟩ : ByteArray))) (am0)))) (js (.u _) (js (.u _) (js (.u _) (j2)))) (Yz hx51)) ?_
 refine Q1 _ (jb (e_ (PV.tup [(U8 x51.1), (I x51.2.1), (B x51.2.2)]))) ?_
 refine Q1 _ (vj (e_ (PV.tup [(U8 x51.1), (I x51.2.1), (B x51.2.2)])) rfl) ?_
 refine Q1 _ (vj (e_ (PV.tup [(U8 x51.1), (I x51.2.1), (B x51.2.2)])) rfl) ?_
 refine Q1 _ (vj (e_ (PV.tup [(U8 x51.1), (I x51.2.1), (B x51.2.2)])) rfl) ?_
 refine Q1 _ (jf (e_ (U8 x51.1))) ?_
 refine Q1 _ (jf (e_ (I x51.2.1))) ?_
 refine Q1 _ (jf (e_ (B x51.2.2))) ?_
 refine PL.nil (hK50 _ _ ?_)
 refine A9 0 f0 4 f4 8 f8 9 f9 10 f10 11 f11 15 (e_ (U8 x51.1)) 16 (e_ (I x51.2.1)) 17 (e_ (B x51.2.2)) fun F f0 f4 f8 f9 f10 f11 f15 f16 f17 => ?_
 refine PC.seq fun K52 hK52 => ?_
 refine SR fun K53 hK53 => ?_
 refine Q1 _ (jb f17) ?_
 refine Q1 (B (!x51.2.2)) (yn (e_ (B x51.2.2))) ?_
 refine PL.nil (hK53 _ _ ?_)
 refine A9 0 f0 4 f4 8 f8 9 f9 10 f10 11 f11 15 f15 16 f16 81 (e_ (B (!x51.2.2))) fun F f0 f4 f8 f9 f10 f11 f15 f16 f81 => ?_
 rcases cz ho40 with ⟨hb54, ho40⟩ | ⟨hb54, ho40⟩
 refine PC.condTb f81 hb54 ?_
 refine SR fun K55 hK55 => ?_
 refine Q1 ((arV (n := 4) (iK .u64)) x20) (vm qy f9 b209 (yo (jj _ _ (fun _ => rfl)))) ?_
 refine Q1 _ (jb f16) ?_
 refine PL.storeA (ag := true) (cs' := ((arV (n := 4) (iK .u64)) x20).cells) (ps := ((arV (n := 4) (iK .u64)) x20).cells) rfl rfl (fun _ h => by cases h) f4 b204 qy (e_ ((arV (n := 4) (iK .u64)) x20)) (v8 _ _ _ (fun _ => rfl)) rfl (jj _ _ (fun _ => rfl)) (by rw [(jj _ _ (fun _ => rfl))]; exact Nat.le_of_ble_eq_true rfl) (vz (N := 4) (jj _ _ (fun _ => rfl)) (jj _ _ (fun _ => rfl))) fun H b204 fz56 => ?_
 have b209 := (fz56 209 (by decide)).trans b209
 refine Q1 _ (jf (e_ (I x51.2.1))) ?_
 refine Q1 _ (jf (e_ (B false))) ?_
 refine PL.nil (hK55 _ _ ?_)
 refine A3 4 f4 5 (e_ (I x51.2.1)) 6 (e_ (B false)) fun F f4 f5 f6 => ?_
 have ho40 := pz ho40
 subst ho40
 try dsimp only at hs24
 have hs24 := pz hs24
 subst hs24
 try dsimp only at ho21
 subst ho21
 try dsimp only at h0
 refine PC.ret ?_
 have h0 := pz h0
 subst h0
 exact fin (p0 := PV.tup [((arV (n := 4) (iK .u64)) x20), (I x51.2.1), (B false)]) (.inr rfl) (Yq (rs := [.cell 4 82, .tmp 5, .tmp 6]) Try.results91 (by decide) (rlc (zf qy f4 b204 (yo (jj _ _ (fun _ => rfl)))) (rlc (Jy f5) (rlc (Jy f6) (rl0))))) (.tup _ (js (vc _ (fun _ => (.u _))) (js (.u _) (js (.u _) (j2)))))
 refine PC.condFb f81 hb54 ?_
 refine PC.skip ?_
 refine hK52 _ _ ?_
 refine A8 0 f0 4 f4 8 f8 9 f9 10 f10 11 f11 15 f15 16 f16 fun F f0 f4 f8 f9 f10 f11 f15 f16 => ?_
 refine PC.seq fun K57 hK57 => ?_
 refine SR fun K58 hK58 => ?_
 refine Q1 _ (jb f15) ?_
 refine Q1 _ (jb f11) ?_
 refine Q1 _ (jh rfl (e_ (U8 x51.1)) (e_ (U8 x32.1)) jv) ?_
 refine PL.nil (hK58 _ _ ?_)
 refine A9 0 f0 4 f4 8 f8 9 f9 10 f10 11 f11 15 f15 16 f16 86 (e_ (B (decide (x51.1 < x32.1)))) fun F f0 f4 f8 f9 f10 f11 f15 f16 f86 => ?_
 rcases cz ho40 with ⟨hb59, ho40⟩ | ⟨hb59, ho40⟩
 refine PC.condTb f86 hb59 ?_
 refine SR fun K60 hK60 => ?_
 refine Q1 ((arV (n := 4) (iK .u64)) x20) (vm qy f9 b209 (yo (jj _ _ (fun _ => rfl)))) ?_
 refine Q1 _ (jb f16) ?_
 refine Q1 _ (jh rfl (e_ (I x51.2.1)) (e_ (I 1)) Jb) ?_
 refine PL.storeA (ag := true) (cs' := ((arV (n := 4) (iK .u64)) x20).cells) (ps := ((arV (n := 4) (iK .u64)) x20).cells) rfl rfl (fun _ h => by cases h) f4 b204 qy (e_ ((arV (n := 4) (iK .u64)) x20)) (v8 _ _ _ (fun _ => rfl)) rfl (jj _ _ (fun _ => rfl)) (by rw [(jj _ _ (fun _ => rfl))]; exact Nat.le_of_ble_eq_true rfl) (vz (N := 4) (jj _ _ (fun _ => rfl)) (jj _ _ (fun _ => rfl))) fun H b204 fz61 => ?_
 have b209 := (fz61 209 (by decide)).trans b209
 refine Q1 _ (jf (e_ (I (w64 (x51.2.1 - 1))))) ?_
 refine Q1 _ (jf (e_ (B false))) ?_
 refine PL.nil (hK60 _ _ ?_)
 refine A3 4 f4 5 (e_ (I (w64 (x51.2.1 - 1)))) 6 (e_ (B false)) fun F f4 f5 f6 => ?_
 have ho40 := pz ho40
 subst ho40
 try dsimp only at hs24
 have hs24 := pz hs24
 subst hs24
 try dsimp only at ho21
 subst ho21
 try dsimp only at h0
 refine PC.ret ?_
 have h0 := pz h0
 subst h0
 exact fin (p0 := PV.tup [((arV (n := 4) (iK .u64)) x20), (I (w64 (x51.2.1 - 1))), (B false)]) (.inr rfl) (Yq (rs := [.cell 4 82, .tmp 5, .tmp 6]) Try.results91 (by decide) (rlc (zf qy f4 b204 (yo (jj _ _ (fun _ => rfl)))) (rlc (Jy f5) (rlc (Jy f6) (rl0))))) (.tup _ (js (vc _ (fun _ => (.u _))) (js (.u _) (js (.u _) (j2)))))
 refine PC.condFb f86 hb59 ?_
 refine PC.skip ?_
 refine hK57 _ _ ?_
 refine A8 0 f0 4 f4 8 f8 9 f9 10 f10 11 f11 15 f15 16 f16 fun F f0 f4 f8 f9 f10 f11 f15 f16 => ?_
 refine PC.region ?_
 refine Q1 _ (jb f15) ?_
 refine Q1 _ (jb f16) ?_
 refine Q1 _ (jf (e_ (U8 x51.1))) ?_
 refine Q1 _ (jf (e_ (I x51.2.1))) ?_
 refine PL.nil ?_
 have ho40 := pz ho40
 subst ho40
 exact ⟨(x51.2.1, x51.1), rfl, f0, f4, f8, f9, f10, f11, (e_ (I x51.2.1)), (e_ (U8 x51.1)), b204, b209⟩
 refine PC.condFb f71 hb49 ?_
 refine PC.skip ?_
 have ho40 := pz ho40
 subst ho40
 exact ⟨(x32.2.1, x32.1), rfl, f0, f4, f8, f9, f10, f11, f12, f14, b204, b209⟩
 intro F H hI
 obtain ⟨⟨x41, x42⟩, ho, f0, f4, f8, f9, f10, f11, f12, f14, b204, b209⟩ := hI
 have ho := ho.symm
 subst ho
 try dsimp only at hs24
 refine PC.seq fun K43 hK43 => ?_
 refine PC.regionT 6 mixed (by kernel_rfl) ?_
 refine Q2 ((arV (n := 4) (iK .u64)) x20) (vm qy f9 b209 (yo (jj _ _ (fun _ => rfl)))) ?_
 refine Q2 _ (jb f11) ?_
 refine Q2 (I (w64 x32.1)) (Jc (by kernel_rfl) (by kernel_rfl) (e_ (U8 x32.1))) ?_
 refine Q2 _ (jb f14) ?_
 refine Q2 (I (w64 x42)) (Jc (by kernel_rfl) (by kernel_rfl) (e_ (U8 x42))) ?_
 obtain ⟨x44, hx44, hs24⟩ := bs hs24
 refine Q4 ((arV (n := 4) (iK .u64)) x44) (j0 (by kernel_rfl) (am (e_ (I (w64 x32.1))) (am (e_ (I (w64 x42))) (am0))) (js (.u _) (js (.u _) (j2))) (zb8 hx44)) ?_
 refine QF.nil ?_
 obtain ⟨x45, hx45, hs24⟩ := bs hs24
 refine Q3 ((arV (n := 4) (iK .u64)) x45) (j0 (by kernel_rfl) (am (e_ (I 0)) (am (e_ ((arV (n := 4) (iK .u64)) x20)) (am (e_ ((arV (n := 4) (iK .u64)) x44)) (am0)))) (js (.u _) (js (vc _ (fun _ => (.u _))) (js (vc _ (fun _ => (.u _))) (j2)))) (zcv hx45)) ?_
 refine PL.storeA (ag := true) (cs' := ((arV (n := 4) (iK .u64)) x45).cells) (ps := ((arV (n := 4) (iK .u64)) x45).cells) rfl rfl (fun _ h => by cases h) f9 b209 qy (e_ ((arV (n := 4) (iK .u64)) x45)) (v8 _ _ _ (fun _ => rfl)) rfl (jj _ _ (fun _ => rfl)) (by rw [(jj _ _ (fun _ => rfl))]; exact Nat.le_of_ble_eq_true rfl) (vz (N := 4) (jj _ _ (fun _ => rfl)) (jj _ _ (fun _ => rfl))) fun H b209 fz46 => ?_
 have b204 := (fz46 204 (by decide)).trans b204
 refine PL.nil (hK43 _ _ ?_)
 refine A6 0 f0 4 f4 8 f8 9 f9 10 f10 12 f12 fun F f0 f4 f8 f9 f10 f12 => ?_
 refine PC.region ?_
 refine Q1 _ (jb f12) ?_
 refine Q1 _ (jf (e_ (I x41))) ?_
 refine PL.nil (hK30 _ _ ?_)
 refine A6 0 f0 4 f4 7 (e_ (I x41)) 8 f8 9 f9 10 f10 fun F f0 f4 f7 f8 f9 f10 => ?_
 refine PC.region ?_
 refine Q1 _ (jb f10) ?_
 refine Q1 _ (jh rfl (e_ (I x19)) (e_ (I 1)) j3) ?_
 refine Q1 _ (jf (e_ (I (w64 (x19 + 1))))) ?_
 refine PL.nil ?_
 have hs24 := pz hs24
 subst hs24
 exact ⟨m25, Nat.lt_succ_self _, (x41, (w64 (x19 + 1)), x45), ho21, f0, f4, f7, f8, f9, (e_ (I (w64 (x19 + 1)))), b204, b209⟩
 refine PC.condFb f47 hb29 ?_
 refine PC.exit ?_
 have hs24 := pz hs24
 subst hs24
 try dsimp only at ho21
 subst ho21
 try dsimp only at h0
 refine hK12 _ _ ?_
 refine A4 4 f4 7 f7 8 f8 9 f9 fun F f4 f7 f8 f9 => ?_
 obtain ⟨o65, ho65, h0⟩ := bs h0
 refine PC.seqM (fun F H => ∃ s73 : (Arr 4 Int), o65 = s73 ∧ F 4 = (PV.pp 204 0 v204) ∧ F 7 = (I x18) ∧ F 9 = (PV.pp 209 0 v209) ∧ H 204 = ⟨v204, some (.box 82 ((arV (n := 4) (iK .u64)) (arZ 4 0)).cells)⟩ ∧ H 209 = ⟨v209, some (.box 82 ((arV (n := 4) (iK .u64)) s73).cells)⟩) ?_ ?_
 refine SR fun K69 hK69 => ?_
 refine Q1 _ (jb f8) ?_
 refine PL.nil (hK69 _ _ ?_)
 refine A4 4 f4 7 f7 9 f9 100 (e_ (B ((decide ((w64 (a1 + 1)) < (a0.size : Int))) && (decide (x5 = 94))))) fun F f4 f7 f9 f100 => ?_
 rcases cz ho65 with ⟨hb70, ho65⟩ | ⟨hb70, ho65⟩
 refine PC.condTb f100 hb70 ?_
 refine PC.region ?_
 refine Q1 ((arV (n := 4) (iK .u64)) x20) (vm qy f9 b209 (yo (jj _ _ (fun _ => rfl)))) ?_
 obtain ⟨x71, hx71, ho65⟩ := bs ho65
 refine Q3 ((arV (n := 4) (iK .u64)) x71) (j0 (by kernel_rfl) (am (e_ ((arV (n := 4) (iK .u64)) x20)) (am0)) (js (vc _ (fun _ => (.u _))) (j2)) (zct hx71)) ?_
 refine PL.storeA (ag := true) (cs' := ((arV (n := 4) (iK .u64)) x71).cells) (ps := ((arV (n := 4) (iK .u64)) x71).cells) rfl rfl (fun _ h => by cases h) f9 b209 qy (e_ ((arV (n := 4) (iK .u64)) x71)) (v8 _ _ _ (fun _ => rfl)) rfl (jj _ _ (fun _ => rfl)) (by rw [(jj _ _ (fun _ => rfl))]; exact Nat.le_of_ble_eq_true rfl) (vz (N := 4) (jj _ _ (fun _ => rfl)) (jj _ _ (fun _ => rfl))) fun H b209 fz72 => ?_
 have b204 := (fz72 204 (by decide)).trans b204
 refine PL.nil ?_
 have ho65 := pz ho65
 subst ho65
 exact ⟨x71, rfl, f4, f7, f9, b204, b209⟩
 refine PC.condFb f100 hb70 ?_
 refine PC.skip ?_
 have ho65 := pz ho65
 subst ho65
 exact ⟨x20, rfl, f4, f7, f9, b204, b209⟩
 intro F H hI
 obtain ⟨x66, ho, f4, f7, f9, b204, b209⟩ := hI
 have ho := ho.symm
 subst ho
 try dsimp only at h0
 refine SR fun K67 hK67 => ?_
 refine Q1 ((arV (n := 4) (iK .u64)) x66) (vm qy f9 b209 (yo (jj _ _ (fun _ => rfl)))) ?_
 refine Q1 _ (jb f7) ?_
 refine Q1 _ (jh rfl (e_ (I x18)) (e_ (I 1)) j3) ?_
 refine PL.storeA (ag := true) (cs' := ((arV (n := 4) (iK .u64)) x66).cells) (ps := ((arV (n := 4) (iK .u64)) x66).cells) rfl rfl (fun _ h => by cases h) f4 b204 qy (e_ ((arV (n := 4) (iK .u64)) x66)) (v8 _ _ _ (fun _ => rfl)) rfl (jj _ _ (fun _ => rfl)) (by rw [(jj _ _ (fun _ => rfl))]; exact Nat.le_of_ble_eq_true rfl) (vz (N := 4) (jj _ _ (fun _ => rfl)) (jj _ _ (fun _ => rfl))) fun H b204 fz68 => ?_
 have b209 := (fz68 209 (by decide)).trans b209
 refine Q1 _ (jf (e_ (I (w64 (x18 + 1))))) ?_
 refine Q1 _ (jf (e_ (B true))) ?_
 refine PL.nil (hK67 _ _ ?_)
 refine A3 4 f4 5 (e_ (I (w64 (x18 + 1)))) 6 (e_ (B true)) fun F f4 f5 f6 => ?_
 refine PC.ret ?_
 have h0 := pz h0
 subst h0
 exact fin (p0 := PV.tup [((arV (n := 4) (iK .u64)) x66), (I (w64 (x18 + 1))), (B true)]) (.inr rfl) (Yq (rs := [.cell 4 82, .tmp 5, .tmp 6]) Try.results91 (by decide) (rlc (zf qy f4 b204 (yo (jj _ _ (fun _ => rfl)))) (rlc (Jy f5) (rlc (Jy f6) (rl0))))) (.tup _ (js (vc _ (fun _ => (.u _))) (js (.u _) (js (.u _) (j2)))))
def zce (a0 : (List jo)) (a1 : Int) : G (List jo) :=
  G.bind (G.loop (σ := (Int × (List jo))) (α := (List jo)) (fun (x10, x11) => G.cond (decide (x10 < (a0.length : Int))) (G.bind (G.lift (idx a0 x10)) fun x22 => G.bind (G.lift (app 40 x11 ([x22] : List jo))) fun x23 => G.pure (.inl ((w64 (x10 + 1)), x23))) (G.pure (.inr x11))) (0, [])) fun x31 => G.bind (G.lift (app 40 x31 ([(⟨a1, (arZ 4 0)⟩ : jo)] : List jo))) fun x34 => G.pure x34
theorem zhs {nn : Nat} {a0 : (List jo)} {a1 : Int} {r : (List jo)} (h0 : zce a0 a1 nn = some r) : PCall Try.prog 72 [ja a0, I a1] (· = ja r) := by
 unfold zce at h0
 refine PCall.intro' Try.func72 rfl Try.ntmps72 (by simp) fun W => ?_
 refine A2 0 (e_ (ja a0)) 1 (e_ (I a1)) fun F f0 f1 => ?_
 generalize PHeap.empty = H
 refine SR fun K1 hK1 => ?_
 refine Q1 (PV.u (.slice none 0 0)) (jf rfl) ?_
 have o1004 : ownL 97 5 jr H 1004 (PV.u (.slice none 0 0)) [] := ownL.nil _ _
 refine PL.nil (hK1 _ _ ?_)
 refine A2 0 f0 1 f1 fun F f0 f1 => ?_
 refine SR fun K2 hK2 => ?_
 refine PL.litO (rep := jr) (xs := []) 1004 rfl rfl rfl (by decide) J8 rfl (by decide) (bm0) rfl rfl fun q3 H o1004 fz4 => ?_
 refine Q1 _ (jf (e_ q3)) ?_
 refine PL.nil (hK2 _ _ ?_)
 refine A3 0 f0 1 f1 5 (e_ q3) fun F f0 f1 f5 => ?_
 refine PC.seq fun K5 hK5 => ?_
 refine SR fun K6 hK6 => ?_
 refine Q1 _ (jf (e_ (I 0))) ?_
 refine PL.nil (hK6 _ _ ?_)
 refine A4 0 f0 1 f1 5 f5 6 (e_ (I 0)) fun F f0 f1 f5 f6 => ?_
 refine PC.block ?_
 obtain ⟨o13, ho13, h0⟩ := bs h0
 obtain ⟨B14, hB14, ho13⟩ := G.loop_some ho13
 refine PC.loop (fun m17 F H => ∃ s38 : (Int × (List jo)), ∃ q12, qw B14 m17 s38 = some o13 ∧ F 0 = (ja a0) ∧ F 1 = (I a1) ∧ F 5 = q12 ∧ F 6 = (I s38.1) ∧ ownL 97 5 jr H 1004 q12 s38.2) (m := nn) ⟨(0, []), q3, ho13, f0, f1, f5, f6, o1004⟩ fun m17 F H hI => ?_
 obtain ⟨⟨x10, x11⟩, q12, ho13, f0, f1, f5, f6, o1004⟩ := hI
 obtain ⟨m17, rfl, st15, hs16, ho13⟩ := jw ho13
 rw [hB14] at hs16
 try dsimp only at hs16
 refine PC.seq fun K18 hK18 => ?_
 refine SR fun K19 hK19 => ?_
 refine Q1 _ (jb f6) ?_
 refine Q1 _ (jb f0) ?_
 refine Q1 (I (a0.length : Int)) (qg (rep := jr) (xs := a0) Jj (e_ (ja a0))) ?_
 refine Q1 _ (jh rfl (e_ (I x10)) (e_ (I (a0.length : Int))) jv) ?_
 refine PL.nil (hK19 _ _ ?_)
 refine A5 0 f0 1 f1 5 f5 6 f6 11 (e_ (B (decide (x10 < (a0.length : Int))))) fun F f0 f1 f5 f6 f11 => ?_
 rcases cz hs16 with ⟨hb20, hs16⟩ | ⟨hb20, hs16⟩
 refine PC.condTb f11 hb20 ?_
 refine PC.skip ?_
 refine hK18 _ _ ?_
 refine A4 0 f0 1 f1 5 f5 6 f6 fun F f0 f1 f5 f6 => ?_
 refine PC.seq fun K21 hK21 => ?_
 refine PC.block ?_
 refine PC.region ?_
 refine Q1 _ (jb f5) ?_
 refine Q1 _ (jb f0) ?_
 refine Q1 _ (jb f6) ?_
 obtain ⟨x22, hx22, hs16⟩ := bs hs16
 refine Q1 (PV.rp (jr x22).cells) (j1 (rep := jr) (xs := a0) Yw (e_ (ja a0)) (e_ (I x10)) hx22) ?_
 refine Q1 (jr x22) (vw asz_97 (e_ (PV.rp (jr x22).cells)) (ym _)) ?_
 refine Q3 (ja ([x22] : List jo)) (yx (rep := jr) (xs := [x22]) J8 rfl (by decide) (bm (e_ (jr x22)) (bm0)) (Vp (rep := jr) (xs := [x22]) rfl rfl (fun _ => (ym _)) (fun _ => (zu _ _))) rfl) ?_
 obtain ⟨x23, hx23, hs16⟩ := bs hs16
 refine PL.appG (rep := jr) (ys := ([x22] : List jo)) rfl rfl rfl (by decide) J8 (e_ q12) o1004 (e_ (ja ([x22] : List jo))) (fun _ => (ym _)) (lfa (fun _ => zu _ _)) hx23 fun q24 H o1004 fz25 => ?_
 refine Q1 _ (jf (e_ q24)) ?_
 refine PL.nil (hK21 _ _ ?_)
 refine A4 0 f0 1 f1 5 (e_ q24) 6 f6 fun F f0 f1 f5 f6 => ?_
 refine PC.region ?_
 refine Q1 _ (jb f6) ?_
 refine Q1 _ (jh rfl (e_ (I x10)) (e_ (I 1)) j3) ?_
 refine Q1 _ (jf (e_ (I (w64 (x10 + 1))))) ?_
 refine PL.nil ?_
 have hs16 := pz hs16
 subst hs16
 exact ⟨m17, Nat.lt_succ_self _, ((w64 (x10 + 1)), x23), q24, ho13, f0, f1, f5, (e_ (I (w64 (x10 + 1)))), o1004⟩
 refine PC.condFb f11 hb20 ?_
 refine PC.exit ?_
 have hs16 := pz hs16
 subst hs16
 try dsimp only at ho13
 subst ho13
 try dsimp only at h0
 refine hK5 _ _ ?_
 refine A2 1 f1 5 f5 fun F f1 f5 => ?_
 refine SR fun K26 hK26 => ?_
 refine Q1 _ (jb f5) ?_
 refine Q1 _ (jb f1) ?_
 refine Q1 (jr (⟨a1, (arZ 4 0)⟩ : jo)) (Jg (bm (e_ (I a1)) (bm0)) (by kernel_rfl)) ?_
 refine Q3 (ja ([(⟨a1, (arZ 4 0)⟩ : jo)] : List jo)) (yx (rep := jr) (xs := [(⟨a1, (arZ 4 0)⟩ : jo)]) J8 rfl (by decide) (bm (e_ (jr (⟨a1, (arZ 4 0)⟩ : jo))) (bm0)) (Vp (rep := jr) (xs := [(⟨a1, (arZ 4 0)⟩ : jo)]) rfl rfl (fun _ => (ym _)) (fun _ => (zu _ _))) rfl) ?_
 obtain ⟨x27, hx27, h0⟩ := bs h0
 refine PL.appG (rep := jr) (ys := ([(⟨a1, (arZ 4 0)⟩ : jo)] : List jo)) rfl rfl rfl (by decide) J8 (e_ q12) o1004 (e_ (ja ([(⟨a1, (arZ 4 0)⟩ : jo)] : List jo))) (fun _ => (ym _)) (lfa (fun _ => zu _ _)) hx27 fun q28 H o1004 fz29 => ?_
 refine Q1 _ (jf (e_ q28)) ?_
 refine PL.nil (hK26 _ _ ?_)
 refine A1 4 (e_ q28) fun F f4 => ?_
 refine PC.freezeL (rep := jr) 4 f4 o1004 (fun _ => (ym _)) fun H fz30 => ?_
 refine PC.ret ?_
 have h0 := pz h0
 subst h0
 exact fin (.inr rfl) (j9 Try.results72 (e_ (ja x27))) (jt _)
def Z3  : G (List jo) :=
  G.pure ([(⟨2, (arZ 4 0)⟩ : jo)] : List jo)
theorem zfk {nn : Nat}  {r : (List jo)} (h0 : Z3 nn = some r) : PCall Try.prog 93 [] (· = ja r) := by
 unfold Z3 at h0
 refine PCall.intro' Try.func93 rfl Try.ntmps93 (by simp) fun W => ?_
 refine PC.absF (fun F => True) trivial ?_
 intro F hI
 clear hI
 generalize PHeap.empty = H
 refine SR fun K1 hK1 => ?_
 refine Q3 (ja []) (J1 (k := 5)) ?_
 refine PL.nil (hK1 _ _ ?_)
 refine PC.absF (fun F => True) trivial ?_
 intro F hI
 clear hI
 refine SR fun K2 hK2 => ?_
 refine Q1 (jr (⟨2, (arZ 4 0)⟩ : jo)) (Jg (bm (e_ (I 2)) (bm0)) (by kernel_rfl)) ?_
 refine Q3 (ja ([(⟨2, (arZ 4 0)⟩ : jo)] : List jo)) (yx (rep := jr) (xs := [(⟨2, (arZ 4 0)⟩ : jo)]) J8 rfl (by decide) (bm (e_ (jr (⟨2, (arZ 4 0)⟩ : jo))) (bm0)) (Vp (rep := jr) (xs := [(⟨2, (arZ 4 0)⟩ : jo)]) rfl rfl (fun _ => (ym _)) (fun _ => (zu _ _))) rfl) ?_
 refine Q1 _ (jf (e_ (ja ([(⟨2, (arZ 4 0)⟩ : jo)] : List jo)))) ?_
 refine PL.nil (hK2 _ _ ?_)
 refine A1 0 (e_ (ja ([(⟨2, (arZ 4 0)⟩ : jo)] : List jo))) fun F f0 => ?_
 refine PC.ret ?_
 have h0 := pz h0
 subst h0
 exact fin (.inr rfl) (j9 Try.results93 f0) (jt _)
def Ys (a0 : (List (List jo))) (a1 : Int) : G (List jo) :=
  G.bind (G.loop (σ := (Int × (List jo))) (α := (List jo)) (fun (x10, x11) => G.cond (decide (x10 < (a0.length : Int))) (G.bind (α := (List jo)) (G.bind (G.lift (idx a0 x10)) fun x26 => G.bind (G.lift (app 40 x11 x26)) fun x27 => G.cond (decide (0 < x10)) (G.bind (G.lift (app 40 x27 ([(⟨a1, (arZ 4 0)⟩ : jo)] : List jo))) fun x32 => G.pure x32) (G.pure x27)) fun x23 => G.pure (.inl ((w64 (x10 + 1)), x23))) (G.pure (.inr x11))) (0, [])) fun x38 => G.pure x38
theorem zbu {nn : Nat} {a0 : (List (List jo))} {a1 : Int} {r : (List jo)} (h0 : Ys a0 a1 nn = some r) : PCall Try.prog 75 [qf a0, I a1] (· = ja r) := by
 unfold Ys at h0
 refine PCall.intro' Try.func75 rfl Try.ntmps75 (by simp) fun W => ?_
 refine A2 0 (e_ (qf a0)) 1 (e_ (I a1)) fun F f0 f1 => ?_
 generalize PHeap.empty = H
 refine SR fun K1 hK1 => ?_
 refine Q1 (PV.u (.slice none 0 0)) (jf rfl) ?_
 have o1004 : ownL 97 5 jr H 1004 (PV.u (.slice none 0 0)) [] := ownL.nil _ _
 refine PL.nil (hK1 _ _ ?_)
 refine A2 0 f0 1 f1 fun F f0 f1 => ?_
 refine SR fun K2 hK2 => ?_
 refine PL.litO (rep := jr) (xs := []) 1004 rfl rfl rfl (by decide) J8 rfl (by decide) (bm0) rfl rfl fun q3 H o1004 fz4 => ?_
 refine Q1 _ (jf (e_ q3)) ?_
 refine PL.nil (hK2 _ _ ?_)
 refine A3 0 f0 1 f1 5 (e_ q3) fun F f0 f1 f5 => ?_
 refine PC.seq fun K5 hK5 => ?_
 refine SR fun K6 hK6 => ?_
 refine Q1 _ (jf (e_ (I 0))) ?_
 refine PL.nil (hK6 _ _ ?_)
 refine A4 0 f0 1 f1 5 f5 6 (e_ (I 0)) fun F f0 f1 f5 f6 => ?_
 refine PC.block ?_
 obtain ⟨o13, ho13, h0⟩ := bs h0
 obtain ⟨B14, hB14, ho13⟩ := G.loop_some ho13
 refine PC.loop (fun m17 F H => ∃ s42 : (Int × (List jo)), ∃ q12, qw B14 m17 s42 = some o13 ∧ F 0 = (qf a0) ∧ F 1 = (I a1) ∧ F 5 = q12 ∧ F 6 = (I s42.1) ∧ ownL 97 5 jr H 1004 q12 s42.2) (m := nn) ⟨(0, []), q3, ho13, f0, f1, f5, f6, o1004⟩ fun m17 F H hI => ?_
 obtain ⟨⟨x10, x11⟩, q12, ho13, f0, f1, f5, f6, o1004⟩ := hI
 obtain ⟨m17, rfl, st15, hs16, ho13⟩ := jw ho13
 rw [hB14] at hs16
 try dsimp only at hs16
 refine PC.seq fun K18 hK18 => ?_
 refine SR fun K19 hK19 => ?_
 refine Q1 _ (jb f6) ?_
 refine Q1 _ (jb f0) ?_
 refine Q1 (I (a0.length : Int)) (qg (rep := ja) (xs := a0) zc6 (e_ (qf a0))) ?_
 refine Q1 _ (jh rfl (e_ (I x10)) (e_ (I (a0.length : Int))) jv) ?_
 refine PL.nil (hK19 _ _ ?_)
 refine A5 0 f0 1 f1 5 f5 6 f6 11 (e_ (B (decide (x10 < (a0.length : Int))))) fun F f0 f1 f5 f6 f11 => ?_
 rcases cz hs16 with ⟨hb20, hs16⟩ | ⟨hb20, hs16⟩
 refine PC.condTb f11 hb20 ?_
 refine PC.skip ?_
 refine hK18 _ _ ?_
 refine A4 0 f0 1 f1 5 f5 6 f6 fun F f0 f1 f5 f6 => ?_
 obtain ⟨o22, ho22, hs16⟩ := bs hs16
 refine PC.seqM (fun F H => ∃ s35 : (List jo), ∃ q24, o22 = s35 ∧ F 0 = (qf a0) ∧ F 1 = (I a1) ∧ F 5 = q24 ∧ F 6 = (I x10) ∧ ownL 97 5 jr H 1004 q24 s35) ?_ ?_
 refine PC.block ?_
 refine SR fun K25 hK25 => ?_
 refine Q1 _ (jb f5) ?_
 refine Q1 _ (jb f0) ?_
 refine Q1 _ (jb f6) ?_
 obtain ⟨x26, hx26, ho22⟩ := bs ho22
 refine Q1 (PV.rp (ja x26).cells) (j1 (rep := ja) (xs := a0) esz_90 (e_ (qf a0)) (e_ (I x10)) hx26) ?_
 refine Q1 (ja x26) (qr zaz (e_ (PV.rp (ja x26).cells))) ?_
 obtain ⟨x27, hx27, ho22⟩ := bs ho22
 refine PL.appG (rep := jr) (ys := x26) rfl rfl rfl (by decide) J8 (e_ q12) o1004 (e_ (ja x26)) (fun _ => (ym _)) (lfa (fun _ => zu _ _)) hx27 fun q28 H o1004 fz29 => ?_
 refine Q1 _ (jf (e_ q28)) ?_
 refine PL.nil (hK25 _ _ ?_)
 refine A4 0 f0 1 f1 5 (e_ q28) 6 f6 fun F f0 f1 f5 f6 => ?_
 refine SR fun K30 hK30 => ?_
 refine Q1 _ (jb f6) ?_
 refine Q1 _ (jh rfl (e_ (I x10)) (e_ (I 0)) J4) ?_
 refine PL.nil (hK30 _ _ ?_)
 refine A5 0 f0 1 f1 5 f5 6 f6 21 (e_ (B (decide (0 < x10)))) fun F f0 f1 f5 f6 f21 => ?_
 rcases cz ho22 with ⟨hb31, ho22⟩ | ⟨hb31, ho22⟩
 refine PC.condTb f21 hb31 ?_
 refine PC.region ?_
 refine Q1 _ (jb f5) ?_
 refine Q1 _ (jb f1) ?_
 refine Q1 (jr (⟨a1, (arZ 4 0)⟩ : jo)) (Jg (bm (e_ (I a1)) (bm0)) (by kernel_rfl)) ?_
 refine Q3 (ja ([(⟨a1, (arZ 4 0)⟩ : jo)] : List jo)) (yx (rep := jr) (xs := [(⟨a1, (arZ 4 0)⟩ : jo)]) J8 rfl (by decide) (bm (e_ (jr (⟨a1, (arZ 4 0)⟩ : jo))) (bm0)) (Vp (rep := jr) (xs := [(⟨a1, (arZ 4 0)⟩ : jo)]) rfl rfl (fun _ => (ym _)) (fun _ => (zu _ _))) rfl) ?_
 obtain ⟨x32, hx32, ho22⟩ := bs ho22
 refine PL.appG (rep := jr) (ys := ([(⟨a1, (arZ 4 0)⟩ : jo)] : List jo)) rfl rfl rfl (by decide) J8 (e_ q28) o1004 (e_ (ja ([(⟨a1, (arZ 4 0)⟩ : jo)] : List jo))) (fun _ => (ym _)) (lfa (fun _ => zu _ _)) hx32 fun q33 H o1004 fz34 => ?_
 refine Q1 _ (jf (e_ q33)) ?_
 refine PL.nil ?_
 have ho22 := pz ho22
 subst ho22
 exact ⟨x32, q33, rfl, f0, f1, (e_ q33), f6, o1004⟩
 refine PC.condFb f21 hb31 ?_
 refine PC.skip ?_
 have ho22 := pz ho22
 subst ho22
 exact ⟨x27, q28, rfl, f0, f1, f5, f6, o1004⟩
 intro F H hI
 obtain ⟨x23, q24, ho, f0, f1, f5, f6, o1004⟩ := hI
 have ho := ho.symm
 subst ho
 try dsimp only at hs16
 refine PC.region ?_
 refine Q1 _ (jb f6) ?_
 refine Q1 _ (jh rfl (e_ (I x10)) (e_ (I 1)) j3) ?_
 refine Q1 _ (jf (e_ (I (w64 (x10 + 1))))) ?_
 refine PL.nil ?_
 have hs16 := pz hs16
 subst hs16
 exact ⟨m17, Nat.lt_succ_self _, ((w64 (x10 + 1)), x23), q24, ho13, f0, f1, f5, (e_ (I (w64 (x10 + 1)))), o1004⟩
 refine PC.condFb f11 hb20 ?_
 refine PC.exit ?_
 have hs16 := pz hs16
 subst hs16
 try dsimp only at ho13
 subst ho13
 try dsimp only at h0
 refine hK5 _ _ ?_
 refine A1 5 f5 fun F f5 => ?_
 refine SR fun K36 hK36 => ?_
 refine Q1 _ (jb f5) ?_
 refine Q1 _ (jf (e_ q12)) ?_
 refine PL.nil (hK36 _ _ ?_)
 refine A1 4 (e_ q12) fun F f4 => ?_
 refine PC.freezeL (rep := jr) 4 f4 o1004 (fun _ => (ym _)) fun H fz37 => ?_
 refine PC.ret ?_
 have h0 := pz h0
 subst h0
 exact fin (.inr rfl) (j9 Try.results75 (e_ (ja x11))) (jt _)
def zbz (a0 : (List (List jo))) : G (List jo) :=
  G.cond (decide ((a0.length : Int) = 0)) (G.bind (Z3) fun x6 => G.pure x6) (G.bind (Ys a0 3) fun x8 => G.pure x8)
theorem zhn {nn : Nat} {a0 : (List (List jo))} {r : (List jo)} (h0 : zbz a0 nn = some r) : PCall Try.prog 73 [qf a0] (· = ja r) := by
 unfold zbz at h0
 refine PCall.intro' Try.func73 rfl Try.ntmps73 (by simp) fun W => ?_
 refine A1 0 (e_ (qf a0)) fun F f0 => ?_
 generalize PHeap.empty = H
 refine SR fun K1 hK1 => ?_
 refine Q3 (ja []) (J1 (k := 5)) ?_
 refine PL.nil (hK1 _ _ ?_)
 refine A1 0 f0 fun F f0 => ?_
 refine PC.seq fun K2 hK2 => ?_
 refine SR fun K3 hK3 => ?_
 refine Q1 _ (jb f0) ?_
 refine Q1 (I (a0.length : Int)) (qg (rep := ja) (xs := a0) zc6 (e_ (qf a0))) ?_
 refine Q1 _ (jh rfl (e_ (I (a0.length : Int))) (e_ (I 0)) j7) ?_
 refine PL.nil (hK3 _ _ ?_)
 refine A2 0 f0 5 (e_ (B (decide ((a0.length : Int) = 0)))) fun F f0 f5 => ?_
 rcases cz h0 with ⟨hb4, h0⟩ | ⟨hb4, h0⟩
 refine PC.condTb f5 hb4 ?_
 refine SR fun K5 hK5 => ?_
 obtain ⟨x6, hx6, h0⟩ := bs h0
 refine Q3 (ja x6) (j0 (by kernel_rfl) (am0) (j2) (zfk hx6)) ?_
 refine Q1 _ (jf (e_ (ja x6))) ?_
 refine PL.nil (hK5 _ _ ?_)
 refine A1 2 (e_ (ja x6)) fun F f2 => ?_
 refine PC.ret ?_
 have h0 := pz h0
 subst h0
 exact fin (.inr rfl) (j9 Try.results73 f2) (jt _)
 refine PC.condFb f5 hb4 ?_
 refine PC.skip ?_
 refine hK2 _ _ ?_
 refine A1 0 f0 fun F f0 => ?_
 refine SR fun K7 hK7 => ?_
 refine Q1 _ (jb f0) ?_
 obtain ⟨x8, hx8, h0⟩ := bs h0
 refine Q3 (ja x8) (j0 (by kernel_rfl) (am (e_ (qf a0)) (am (e_ (I 3)) (am0))) (js (z8 _) (js (.u _) (j2))) (zbu hx8)) ?_
 refine Q1 _ (jf (e_ (ja x8))) ?_
 refine PL.nil (hK7 _ _ ?_)
 refine A1 2 (e_ (ja x8)) fun F f2 => ?_
 refine PC.ret ?_
 have h0 := pz h0
 subst h0
 exact fin (.inr rfl) (j9 Try.results73 f2) (jt _)
def zb5 (a0 : (List (List jo))) : G (List jo) :=
  G.cond (decide ((a0.length : Int) = 0)) (G.bind (Qy (arZ 4 0)) fun x6 => G.pure x6) (G.bind (Ys a0 4) fun x8 => G.pure x8)
theorem zh2 {nn : Nat} {a0 : (List (List jo))} {r : (List jo)} (h0 : zb5 a0 nn = some r) : PCall Try.prog 51 [qf a0] (· = ja r) := by
 unfold zb5 at h0
 refine PCall.intro' Try.func51 rfl Try.ntmps51 (by simp) fun W => ?_
 refine A1 0 (e_ (qf a0)) fun F f0 => ?_
 generalize PHeap.empty = H
 refine SR fun K1 hK1 => ?_
 refine Q3 (ja []) (J1 (k := 5)) ?_
 refine PL.nil (hK1 _ _ ?_)
 refine A1 0 f0 fun F f0 => ?_
 refine PC.seq fun K2 hK2 => ?_
 refine SR fun K3 hK3 => ?_
 refine Q1 _ (jb f0) ?_
 refine Q1 (I (a0.length : Int)) (qg (rep := ja) (xs := a0) zc6 (e_ (qf a0))) ?_
 refine Q1 _ (jh rfl (e_ (I (a0.length : Int))) (e_ (I 0)) j7) ?_
 refine PL.nil (hK3 _ _ ?_)
 refine A2 0 f0 5 (e_ (B (decide ((a0.length : Int) = 0)))) fun F f0 f5 => ?_
 rcases cz h0 with ⟨hb4, h0⟩ | ⟨hb4, h0⟩
 refine PC.condTb f5 hb4 ?_
 refine SR fun K5 hK5 => ?_
 refine Q1 ((arV (n := 4) (iK .u64)) (arZ 4 0)) (Jg (bm0) (by kernel_rfl)) ?_
 obtain ⟨x6, hx6, h0⟩ := bs h0
 refine Q3 (ja x6) (j0 (by kernel_rfl) (am (e_ ((arV (n := 4) (iK .u64)) (arZ 4 0))) (am0)) (js (vc _ (fun _ => (.u _))) (j2)) (V9 hx6)) ?_
 refine Q1 _ (jf (e_ (ja x6))) ?_
 refine PL.nil (hK5 _ _ ?_)
 refine A1 2 (e_ (ja x6)) fun F f2 => ?_
 refine PC.ret ?_
 have h0 := pz h0
 subst h0
 exact fin (.inr rfl) (j9 Try.results51 f2) (jt _)
 refine PC.condFb f5 hb4 ?_
 refine PC.skip ?_
 refine hK2 _ _ ?_
 refine A1 0 f0 fun F f0 => ?_
 refine SR fun K7 hK7 => ?_
 refine Q1 _ (jb f0) ?_
 obtain ⟨x8, hx8, h0⟩ := bs h0
 refine Q3 (ja x8) (j0 (by kernel_rfl) (am (e_ (qf a0)) (am (e_ (I 4)) (am0))) (js (z8 _) (js (.u _) (j2))) (zbu hx8)) ?_
 refine Q1 _ (jf (e_ (ja x8))) ?_
 refine PL.nil (hK7 _ _ ?_)
 refine A1 2 (e_ (ja x8)) fun F f2 => ?_
 refine PC.ret ?_
 have h0 := pz h0
 subst h0
 exact fin (.inr rfl) (j9 Try.results51 f2) (jt _)
mutual
def V7 : Nat → ByteArray → Int → G ((List jo) × Int × Bool)
  | 0, _, _ => fun _ => none
  | m + 1, a0, a1 => G.bind (Qt m a0 a1) fun x3 => G.bind (G.loop (σ := (Int × Bool × (List (List jo)))) (α := (Int × Bool × (List (List jo)))) (fun (x12, x13, x14) => G.bind (G.cond (x13 && (decide (x12 < (a0.size : Int)))) (G.lift (Yc a0 x12)) (G.pure 0)) fun x23 => G.cond ((x13 && (decide (x12 < (a0.size : Int)))) && (decide (x23 = 124))) (G.bind (Qt m a0 (w64 (x12 + 1))) fun x26 => G.bind (G.lift (app 24 x14 ([x26.1] : List (List jo)))) fun x27 => G.pure (.inl (x26.2.1, x26.2.2, x27))) (G.pure (.inr (x12, x13, x14)))) (x3.2.1, x3.2.2, [x3.1])) fun (x33, x34, x35) => G.bind (zb5 x35) fun x39 => G.pure (x39, x33, x34)
def Qt : Nat → ByteArray → Int → G ((List jo) × Int × Bool)
  | 0, _, _ => fun _ => none
  | m + 1, a0, a1 => G.bind (G.loop (σ := (Int × (List (List jo)))) (α := (Int × (List (List jo))) ⊕ ((List jo) × Int × Bool)) (fun (x9, x10) => G.bind (G.cond (decide (x9 < (a0.size : Int))) (G.lift (Yc a0 x9)) (G.pure 0)) fun x19 => G.bind (G.cond ((decide (x9 < (a0.size : Int))) && (decide (¬ x19 = 124))) (G.lift (Yc a0 x9)) (G.pure 0)) fun x20 => G.cond (((decide (x9 < (a0.size : Int))) && (decide (¬ x19 = 124))) && (decide (¬ x20 = 41))) (G.bind (Zv m a0 x9) fun x23 => G.cond (!x23.2.2) (G.pure (.inr (.inr (x23.1, x23.2.1, false)))) (G.bind (G.loop (σ := ((List jo) × Int)) (α := ((List jo) × Int)) (fun (x33, x34) => G.bind (G.cond (decide (x34 < (a0.size : Int))) (G.lift (Yc a0 x34)) (G.pure 0)) fun x42 => G.bind (G.cond (decide (x34 < (a0.size : Int))) (zaj (⟨#[42, 43, 63]⟩ : ByteArray) x42) (G.pure false)) fun x43 => G.cond ((decide (x34 < (a0.size : Int))) && x43) (G.bind (α := Int) (G.bind (G.lift (Yc a0 x34)) fun x59 => G.cond (decide (x59 = 43)) (G.pure 6) (G.pure 5)) fun x48 => G.bind (α := Int) (G.bind (G.lift (Yc a0 x34)) fun x55 => G.cond (decide (x55 = 63)) (G.pure 7) (G.pure x48)) fun x51 => G.bind (zce x33 x51) fun x53 => G.pure (.inl (x53, (w64 (x34 + 1))))) (G.pure (.inr (x33, x34)))) (x23.1, x23.2.1)) fun (x66, x67) => G.bind (G.lift (app 24 x10 ([x66] : List (List jo)))) fun x69 => G.pure (.inl (x67, x69)))) (G.pure (.inr (.inl (x9, x10))))) (a1, [])) fun o => match o with | .inl (x76, x77) => G.bind (zbz x77) fun x81 => G.pure (x81, x76, true) | .inr r82 => G.pure r82
def Zv : Nat → ByteArray → Int → G ((List jo) × Int × Bool)
  | 0, _, _ => fun _ => none
  | m + 1, a0, a1 => G.bind (G.cond (decide (a1 < (a0.size : Int))) (G.lift (Yc a0 a1)) (G.pure 0)) fun x4 => G.cond ((decide (a1 < (a0.size : Int))) && (decide (x4 = 40))) (G.bind (V7 m a0 (w64 (a1 + 1))) fun x7 => G.cond (!x7.2.2) (G.pure (x7.1, x7.2.1, false)) (G.bind (G.cond (!(decide ((a0.size : Int) ≤ x7.2.1))) (G.lift (Yc a0 x7.2.1)) (G.pure 0)) fun x14 => G.cond ((decide ((a0.size : Int) ≤ x7.2.1)) || (decide (¬ x14 = 41))) (G.pure (x7.1, x7.2.1, false)) (G.pure (x7.1, (w64 (x7.2.1 + 1)), true)))) (G.bind (G.cond (decide (a1 < (a0.size : Int))) (G.lift (Yc a0 a1)) (G.pure 0)) fun x20 => G.cond ((decide (a1 < (a0.size : Int))) && (decide (x20 = 46))) (G.bind (Zd 10) fun x23 => G.bind (Zh x23) fun x24 => G.bind (Qy x24) fun x25 => G.pure (x25, (w64 (a1 + 1)), true)) (G.bind (G.cond (decide (a1 < (a0.size : Int))) (G.lift (Yc a0 a1)) (G.pure 0)) fun x28 => G.cond ((decide (a1 < (a0.size : Int))) && (decide (x28 = 91))) (G.bind (Z0 a0 a1) fun x31 => G.bind (Qy x31.1) fun x35 => G.pure (x35, x31.2.1, x31.2.2)) (G.bind (Vf a0 a1 (⟨#[40, 41, 91, 93, 124, 42, 43, 63, 46]⟩ : ByteArray)) fun x37 => G.bind (Zd x37.1) fun x39 => G.bind (Qy x39) fun x40 => G.pure (x40, x37.2.1, x37.2.2))))
end
theorem Zk : ∀ (m : Nat), (∀ (nn : Nat) (a0 : ByteArray) (a1 : Int) (r : ((List jo) × Int × Bool)), V7 m a0 a1 nn = some r → PCall Try.prog 33 [S a0, I a1] (· = PV.tup [ja r.1, I r.2.1, B r.2.2])) ∧ (∀ (nn : Nat) (a0 : ByteArray) (a1 : Int) (r : ((List jo) × Int × Bool)), Qt m a0 a1 nn = some r → PCall Try.prog 50 [S a0, I a1] (· = PV.tup [ja r.1, I r.2.1, B r.2.2])) ∧ (∀ (nn : Nat) (a0 : ByteArray) (a1 : Int) (r : ((List jo) × Int × Bool)), Zv m a0 a1 nn = some r → PCall Try.prog 70 [S a0, I a1] (· = PV.tup [ja r.1, I r.2.1, B r.2.2]))
  | 0 => ⟨(fun _ _ _ _ h => by cases h), (fun _ _ _ _ h => by cases h), (fun _ _ _ _ h => by cases h)⟩
  | m + 1 => by
   obtain ⟨ih0, ih1, ih2⟩ := Zk m
   refine ⟨?_, ?_, ?_⟩
   intro nn a0 a1 r h0
   unfold V7 at h0
   refine PCall.intro' Try.func33 rfl Try.ntmps33 (by simp) fun W => ?_
   refine A2 0 (e_ (S a0)) 1 (e_ (I a1)) fun F f0 f1 => ?_
   generalize PHeap.empty = H
   refine SR fun K1 hK1 => ?_
   refine Q3 (ja []) (J1 (k := 5)) ?_
   refine Q1 _ (jf (e_ (I 0))) ?_
   refine Q1 _ (jf (e_ (B false))) ?_
   refine PL.nil (hK1 _ _ ?_)
   refine A2 0 f0 1 f1 fun F f0 f1 => ?_
   refine SR fun K2 hK2 => ?_
   refine Q1 _ (jb f0) ?_
   refine Q1 _ (jb f1) ?_
   obtain ⟨x3, hx3, h0⟩ := bs h0
   refine Q3 (PV.tup [(ja x3.1), (I x3.2.1), (B x3.2.2)]) (j0 (by kernel_rfl) (am (e_ (S a0)) (am (e_ (I a1)) (am0))) (js (.u _) (js (.u _) (j2))) (ih1 _ _ _ _ hx3)) ?_
   refine Q1 _ (jb (e_ (PV.tup [(ja x3.1), (I x3.2.1), (B x3.2.2)]))) ?_
   refine Q1 _ (vj (e_ (PV.tup [(ja x3.1), (I x3.2.1), (B x3.2.2)])) rfl) ?_
   refine Q1 _ (vj (e_ (PV.tup [(ja x3.1), (I x3.2.1), (B x3.2.2)])) rfl) ?_
   refine Q1 _ (vj (e_ (PV.tup [(ja x3.1), (I x3.2.1), (B x3.2.2)])) rfl) ?_
   refine Q1 _ (jf (e_ (ja x3.1))) ?_
   refine Q1 _ (jf (e_ (I x3.2.1))) ?_
   refine Q1 _ (jf (e_ (B x3.2.2))) ?_
   refine PL.nil (hK2 _ _ ?_)
   refine A4 0 f0 7 (e_ (ja x3.1)) 8 (e_ (I x3.2.1)) 9 (e_ (B x3.2.2)) fun F f0 f7 f8 f9 => ?_
   refine SR fun K4 hK4 => ?_
   refine Q1 _ (jb f7) ?_
   refine PL.litO (rep := ja) (xs := [x3.1]) 1010 rfl rfl rfl (by decide) zaa rfl (by decide) (bm (e_ (ja x3.1)) (bm0)) rfl rfl fun q5 H o1010 fz6 => ?_
   refine Q1 _ (jf (e_ q5)) ?_
   refine PL.nil (hK4 _ _ ?_)
   refine A4 0 f0 8 f8 9 f9 10 (e_ q5) fun F f0 f8 f9 f10 => ?_
   refine PC.seq fun K7 hK7 => ?_
   refine PC.block ?_
   obtain ⟨o16, ho16, h0⟩ := bs h0
   obtain ⟨B17, hB17, ho16⟩ := G.loop_some ho16
   refine PC.loop (fun m20 F H => ∃ s40 : (Int × Bool × (List (List jo))), ∃ q15, qw B17 m20 s40 = some o16 ∧ F 0 = (S a0) ∧ F 8 = (I s40.1) ∧ F 9 = (B s40.2.1) ∧ F 10 = q15 ∧ ownL 53 1 ja H 1010 q15 s40.2.2) (m := nn) ⟨(x3.2.1, x3.2.2, [x3.1]), q5, ho16, f0, f8, f9, f10, o1010⟩ fun m20 F H hI => ?_
   obtain ⟨⟨x12, x13, x14⟩, q15, ho16, f0, f8, f9, f10, o1010⟩ := hI
   obtain ⟨m20, rfl, st18, hs19, ho16⟩ := jw ho16
   rw [hB17] at hs19
   try dsimp only at hs19
   refine PC.seq fun K21 hK21 => ?_
   refine SR fun K22 hK22 => ?_
   refine Q1 _ (jb f9) ?_
   refine Q1 _ (jb (e_ (B x13))) ?_
   refine GT (I x12) rfl (e_ (B x13)) (fun hb => jb f8) ?_
   refine GT (S a0) rfl (e_ (B x13)) (fun hb => jb f0) ?_
   refine GT (I (a0.size : Int)) rfl (e_ (B x13)) (fun hb => yj qo (gvp hb (e_ (gv x13 (S a0))))) ?_
   refine GT (B (decide (x12 < (a0.size : Int)))) rfl (e_ (B x13)) (fun hb => jh rfl (gvp hb (e_ (gv x13 (I x12)))) (gvp hb (e_ (gv x13 (I (a0.size : Int))))) jv) ?_
   refine Q1 (B (x13 && (decide (x12 < (a0.size : Int))))) (vt (e_ (B x13)) (e_ (gv x13 (B (decide (x12 < (a0.size : Int)))))) rfl) ?_
   refine Q1 _ (jb (e_ (B (x13 && (decide (x12 < (a0.size : Int))))))) ?_
   refine GT (S a0) rfl (e_ (B (x13 && (decide (x12 < (a0.size : Int)))))) (fun hb => jb f0) ?_
   refine GT (I x12) rfl (e_ (B (x13 && (decide (x12 < (a0.size : Int)))))) (fun hb => jb f8) ?_
   obtain ⟨x23, hx23, hs19⟩ := bs hs19
   refine GT (U8 x23) rfl (e_ (B (x13 && (decide (x12 < (a0.size : Int)))))) (fun hb => yk qo (gvp hb (e_ (gv (x13 && (decide (x12 < (a0.size : Int)))) (S a0)))) (gvp hb (e_ (gv (x13 && (decide (x12 < (a0.size : Int)))) (I x12)))) (G.cond_pos hx23 hb)) ?_
   refine GT (B (decide (x23 = 124))) rfl (e_ (B (x13 && (decide (x12 < (a0.size : Int)))))) (fun hb => jh rfl (gvp hb (e_ (gv (x13 && (decide (x12 < (a0.size : Int)))) (U8 x23)))) (e_ (U8 124)) j7) ?_
   refine Q1 (B ((x13 && (decide (x12 < (a0.size : Int)))) && (decide (x23 = 124)))) (vt (e_ (B (x13 && (decide (x12 < (a0.size : Int)))))) (e_ (gv (x13 && (decide (x12 < (a0.size : Int)))) (B (decide (x23 = 124))))) rfl) ?_
   refine PL.nil (hK22 _ _ ?_)
   refine A5 0 f0 8 f8 9 f9 10 f10 32 (e_ (B ((x13 && (decide (x12 < (a0.size : Int)))) && (decide (x23 = 124))))) fun F f0 f8 f9 f10 f32 => ?_
   rcases cz hs19 with ⟨hb24, hs19⟩ | ⟨hb24, hs19⟩
   refine PC.condTb f32 hb24 ?_
   refine PC.skip ?_
   refine hK21 _ _ ?_
   refine A3 0 f0 8 f8 10 f10 fun F f0 f8 f10 => ?_
   refine PC.block ?_
   refine SR fun K25 hK25 => ?_
   refine Q1 _ (jb f0) ?_
   refine Q1 _ (jb f8) ?_
   refine Q1 _ (jh rfl (e_ (I x12)) (e_ (I 1)) j3) ?_
   obtain ⟨x26, hx26, hs19⟩ := bs hs19
   refine Q3 (PV.tup [(ja x26.1), (I x26.2.1), (B x26.2.2)]) (j0 (by kernel_rfl) (am (e_ (S a0)) (am (e_ (I (w64 (x12 + 1)))) (am0))) (js (.u _) (js (.u _) (j2))) (ih1 _ _ _ _ hx26)) ?_
   refine Q1 _ (jb (e_ (PV.tup [(ja x26.1), (I x26.2.1), (B x26.2.2)]))) ?_
   refine Q1 _ (vj (e_ (PV.tup [(ja x26.1), (I x26.2.1), (B x26.2.2)])) rfl) ?_
   refine Q1 _ (vj (e_ (PV.tup [(ja x26.1), (I x26.2.1), (B x26.2.2)])) rfl) ?_
   refine Q1 _ (vj (e_ (PV.tup [(ja x26.1), (I x26.2.1), (B x26.2.2)])) rfl) ?_
   refine Q1 _ (jf (e_ (ja x26.1))) ?_
   refine Q1 _ (jf (e_ (I x26.2.1))) ?_
   refine Q1 _ (jf (e_ (B x26.2.2))) ?_
   refine PL.nil (hK25 _ _ ?_)
   refine A5 0 f0 7 (e_ (ja x26.1)) 8 (e_ (I x26.2.1)) 9 (e_ (B x26.2.2)) 10 f10 fun F f0 f7 f8 f9 f10 => ?_
   refine PC.region ?_
   refine Q1 _ (jb f10) ?_
   refine Q1 _ (jb f7) ?_
   refine Q3 (qf ([x26.1] : List (List jo))) (yx (rep := ja) (xs := [x26.1]) zaa rfl (by decide) (bm (e_ (ja x26.1)) (bm0)) rfl rfl) ?_
   obtain ⟨x27, hx27, hs19⟩ := bs hs19
   refine PL.appG (rep := ja) (ys := ([x26.1] : List (List jo))) rfl rfl rfl (by decide) zaa (e_ q15) o1010 (e_ (qf ([x26.1] : List (List jo)))) (fun _ => rfl) (lf1 (fun _ => rfl) (fun _ => rfl)) hx27 fun q28 H o1010 fz29 => ?_
   refine Q1 _ (jf (e_ q28)) ?_
   refine PL.nil ?_
   have hs19 := pz hs19
   subst hs19
   exact ⟨m20, Nat.lt_succ_self _, (x26.2.1, x26.2.2, x27), q28, ho16, f0, f8, f9, (e_ q28), o1010⟩
   refine PC.condFb f32 hb24 ?_
   refine PC.exit ?_
   have hs19 := pz hs19
   subst hs19
   try dsimp only at ho16
   subst ho16
   try dsimp only at h0
   refine hK7 _ _ ?_
   refine A3 8 f8 9 f9 10 f10 fun F f8 f9 f10 => ?_
   refine PC.seq fun K30 hK30 => ?_
   refine PC.freezeL (rep := ja) 10 f10 o1010 (fun _ => rfl) fun H fz31 => ?_
   refine PC.region ?_
   refine Q1 _ (jb (e_ (qf x14))) ?_
   obtain ⟨x32, hx32, h0⟩ := bs h0
   refine Q3 (ja x32) (j0 (by kernel_rfl) (am (e_ (qf x14)) (am0)) (js (z8 _) (j2)) (zh2 hx32)) ?_
   refine Q1 _ (jb f8) ?_
   refine Q1 _ (jb f9) ?_
   refine Q1 _ (jf (e_ (ja x32))) ?_
   refine Q1 _ (jf (e_ (I x12))) ?_
   refine Q1 _ (jf (e_ (B x13))) ?_
   refine PL.nil (hK30 _ _ ?_)
   refine A3 4 (e_ (ja x32)) 5 (e_ (I x12)) 6 (e_ (B x13)) fun F f4 f5 f6 => ?_
   refine PC.ret ?_
   have h0 := pz h0
   subst h0
   exact fin (.inr rfl) (zt (ss := [4, 5, 6]) (ps := [(ja x32), (I x12), (B x13)]) Try.results33 (by decide) (rm f4 (rm f5 (rm f6 (rfl))))) (.tup _ (js (jt _) (js (.u _) (js (.u _) (j2)))))
   intro nn a0 a1 r h0
   unfold Qt at h0
   refine PCall.intro' Try.func50 rfl Try.ntmps50 (by simp) fun W => ?_
   refine A2 0 (e_ (S a0)) 1 (e_ (I a1)) fun F f0 f1 => ?_
   generalize PHeap.empty = H
   refine SR fun K1 hK1 => ?_
   refine Q3 (ja []) (J1 (k := 5)) ?_
   refine Q1 _ (jf (e_ (I 0))) ?_
   refine Q1 _ (jf (e_ (B false))) ?_
   refine PL.nil (hK1 _ _ ?_)
   refine A2 0 f0 1 f1 fun F f0 f1 => ?_
   refine SR fun K2 hK2 => ?_
   refine PL.litO (rep := ja) (xs := []) 1007 rfl rfl rfl (by decide) zaa rfl (by decide) (bm0) rfl rfl fun q3 H o1007 fz4 => ?_
   refine Q1 _ (jf (e_ q3)) ?_
   refine PL.nil (hK2 _ _ ?_)
   refine A3 0 f0 1 f1 7 (e_ q3) fun F f0 f1 f7 => ?_
   refine PC.seq fun K5 hK5 => ?_
   refine PC.block ?_
   obtain ⟨o12, ho12, h0⟩ := bs h0
   obtain ⟨B13, hB13, ho12⟩ := G.loop_some ho12
   refine PC.loop (fun m16 F H => ∃ s83 : (Int × (List (List jo))), ∃ q11, qw B13 m16 s83 = some o12 ∧ F 0 = (S a0) ∧ F 1 = (I s83.1) ∧ F 7 = q11 ∧ ownL 53 1 ja H 1007 q11 s83.2) (m := nn) ⟨(a1, []), q3, ho12, f0, f1, f7, o1007⟩ fun m16 F H hI => ?_
   obtain ⟨⟨x9, x10⟩, q11, ho12, f0, f1, f7, o1007⟩ := hI
   obtain ⟨m16, rfl, st14, hs15, ho12⟩ := jw ho12
   rw [hB13] at hs15
   try dsimp only at hs15
   refine PC.seq fun K17 hK17 => ?_
   refine SR fun K18 hK18 => ?_
   refine Q1 _ (jb f1) ?_
   refine Q1 _ (jb f0) ?_
   refine Q1 (I (a0.size : Int)) (yj qo (e_ (S a0))) ?_
   refine Q1 _ (jh rfl (e_ (I x9)) (e_ (I (a0.size : Int))) jv) ?_
   refine Q1 _ (jb (e_ (B (decide (x9 < (a0.size : Int)))))) ?_
   refine GT (S a0) rfl (e_ (B (decide (x9 < (a0.size : Int))))) (fun hb => jb f0) ?_
   refine GT (I x9) rfl (e_ (B (decide (x9 < (a0.size : Int))))) (fun hb => jb f1) ?_
   obtain ⟨x19, hx19, hs15⟩ := bs hs15
   refine GT (U8 x19) rfl (e_ (B (decide (x9 < (a0.size : Int))))) (fun hb => yk qo (gvp hb (e_ (gv (decide (x9 < (a0.size : Int))) (S a0)))) (gvp hb (e_ (gv (decide (x9 < (a0.size : Int))) (I x9)))) (G.cond_pos hx19 hb)) ?_
   refine GT (B (decide (¬ x19 = 124))) rfl (e_ (B (decide (x9 < (a0.size : Int))))) (fun hb => jh rfl (gvp hb (e_ (gv (decide (x9 < (a0.size : Int))) (U8 x19)))) (e_ (U8 124)) yc) ?_
   refine Q1 (B ((decide (x9 < (a0.size : Int))) && (decide (¬ x19 = 124)))) (vt (e_ (B (decide (x9 < (a0.size : Int))))) (e_ (gv (decide (x9 < (a0.size : Int))) (B (decide (¬ x19 = 124))))) rfl) ?_
   refine Q1 _ (jb (e_ (B ((decide (x9 < (a0.size : Int))) && (decide (¬ x19 = 124)))))) ?_
   refine GT (S a0) rfl (e_ (B ((decide (x9 < (a0.size : Int))) && (decide (¬ x19 = 124))))) (fun hb => jb f0) ?_
   refine GT (I x9) rfl (e_ (B ((decide (x9 < (a0.size : Int))) && (decide (¬ x19 = 124))))) (fun hb => jb f1) ?_
   obtain ⟨x20, hx20, hs15⟩ := bs hs15
   refine GT (U8 x20) rfl (e_ (B ((decide (x9 < (a0.size : Int))) && (decide (¬ x19 = 124))))) (fun hb => yk qo (gvp hb (e_ (gv ((decide (x9 < (a0.size : Int))) && (decide (¬ x19 = 124))) (S a0)))) (gvp hb (e_ (gv ((decide (x9 < (a0.size : Int))) && (decide (¬ x19 = 124))) (I x9)))) (G.cond_pos hx20 hb)) ?_
   refine GT (B (decide (¬ x20 = 41))) rfl (e_ (B ((decide (x9 < (a0.size : Int))) && (decide (¬ x19 = 124))))) (fun hb => jh rfl (gvp hb (e_ (gv ((decide (x9 < (a0.size : Int))) && (decide (¬ x19 = 124))) (U8 x20)))) (e_ (U8 41)) yc) ?_
   refine Q1 (B (((decide (x9 < (a0.size : Int))) && (decide (¬ x19 = 124))) && (decide (¬ x20 = 41)))) (vt (e_ (B ((decide (x9 < (a0.size : Int))) && (decide (¬ x19 = 124))))) (e_ (gv ((decide (x9 < (a0.size : Int))) && (decide (¬ x19 = 124))) (B (decide (¬ x20 = 41))))) rfl) ?_
   refine PL.nil (hK18 _ _ ?_)
   refine A4 0 f0 1 f1 7 f7 28 (e_ (B (((decide (x9 < (a0.size : Int))) && (decide (¬ x19 = 124))) && (decide (¬ x20 = 41))))) fun F f0 f1 f7 f28 => ?_
   rcases cz hs15 with ⟨hb21, hs15⟩ | ⟨hb21, hs15⟩
   refine PC.condTb f28 hb21 ?_
   refine PC.skip ?_
   refine hK17 _ _ ?_
   refine A3 0 f0 1 f1 7 f7 fun F f0 f1 f7 => ?_
   refine PC.block ?_
   refine SR fun K22 hK22 => ?_
   refine Q1 _ (jb f0) ?_
   refine Q1 _ (jb f1) ?_
   obtain ⟨x23, hx23, hs15⟩ := bs hs15
   refine Q3 (PV.tup [(ja x23.1), (I x23.2.1), (B x23.2.2)]) (j0 (by kernel_rfl) (am (e_ (S a0)) (am (e_ (I x9)) (am0))) (js (.u _) (js (.u _) (j2))) (ih2 _ _ _ _ hx23)) ?_
   refine Q1 _ (jb (e_ (PV.tup [(ja x23.1), (I x23.2.1), (B x23.2.2)]))) ?_
   refine Q1 _ (vj (e_ (PV.tup [(ja x23.1), (I x23.2.1), (B x23.2.2)])) rfl) ?_
   refine Q1 _ (vj (e_ (PV.tup [(ja x23.1), (I x23.2.1), (B x23.2.2)])) rfl) ?_
   refine Q1 _ (vj (e_ (PV.tup [(ja x23.1), (I x23.2.1), (B x23.2.2)])) rfl) ?_
   refine Q1 _ (jf (e_ (ja x23.1))) ?_
   refine Q1 _ (jf (e_ (I x23.2.1))) ?_
   refine Q1 _ (jf (e_ (B x23.2.2))) ?_
   refine PL.nil (hK22 _ _ ?_)
   refine A5 0 f0 7 f7 8 (e_ (ja x23.1)) 9 (e_ (I x23.2.1)) 10 (e_ (B x23.2.2)) fun F f0 f7 f8 f9 f10 => ?_
   refine PC.seq fun K24 hK24 => ?_
   refine SR fun K25 hK25 => ?_
   refine Q1 _ (jb f10) ?_
   refine Q1 (B (!x23.2.2)) (yn (e_ (B x23.2.2))) ?_
   refine PL.nil (hK25 _ _ ?_)
   refine A5 0 f0 7 f7 8 f8 9 f9 37 (e_ (B (!x23.2.2))) fun F f0 f7 f8 f9 f37 => ?_
   rcases cz hs15 with ⟨hb26, hs15⟩ | ⟨hb26, hs15⟩
   refine PC.condTb f37 hb26 ?_
   refine SR fun K27 hK27 => ?_
   refine Q1 _ (jb f8) ?_
   refine Q1 _ (jb f9) ?_
   refine Q1 _ (jf (e_ (ja x23.1))) ?_
   refine Q1 _ (jf (e_ (I x23.2.1))) ?_
   refine Q1 _ (jf (e_ (B false))) ?_
   refine PL.nil (hK27 _ _ ?_)
   refine A3 4 (e_ (ja x23.1)) 5 (e_ (I x23.2.1)) 6 (e_ (B false)) fun F f4 f5 f6 => ?_
   have hs15 := pz hs15
   subst hs15
   try dsimp only at ho12
   subst ho12
   try dsimp only at h0
   refine PC.ret ?_
   have h0 := pz h0
   subst h0
   exact fin (.inr rfl) (zt (ss := [4, 5, 6]) (ps := [(ja x23.1), (I x23.2.1), (B false)]) Try.results50 (by decide) (rm f4 (rm f5 (rm f6 (rfl))))) (.tup _ (js (jt _) (js (.u _) (js (.u _) (j2)))))
   refine PC.condFb f37 hb26 ?_
   refine PC.skip ?_
   refine hK24 _ _ ?_
   refine A4 0 f0 7 f7 8 f8 9 f9 fun F f0 f7 f8 f9 => ?_
   refine PC.seq fun K28 hK28 => ?_
   refine PC.block ?_
   obtain ⟨o35, ho35, hs15⟩ := bs hs15
   obtain ⟨B36, hB36, ho35⟩ := G.loop_some ho35
   refine PC.loop (fun m39 F H => ∃ s72 : ((List jo) × Int), qw B36 m39 s72 = some o35 ∧ F 0 = (S a0) ∧ F 7 = q11 ∧ F 8 = (ja s72.1) ∧ F 9 = (I s72.2) ∧ ownL 53 1 ja H 1007 q11 x10) (m := nn) ⟨(x23.1, x23.2.1), ho35, f0, f7, f8, f9, o1007⟩ fun m39 F H hI => ?_
   obtain ⟨⟨x33, x34⟩, ho35, f0, f7, f8, f9, o1007⟩ := hI
   obtain ⟨m39, rfl, st37, hs38, ho35⟩ := jw ho35
   rw [hB36] at hs38
   try dsimp only at hs38
   refine PC.seq fun K40 hK40 => ?_
   refine SR fun K41 hK41 => ?_
   refine Q1 _ (jb f9) ?_
   refine Q1 _ (jb f0) ?_
   refine Q1 (I (a0.size : Int)) (yj qo (e_ (S a0))) ?_
   refine Q1 _ (jh rfl (e_ (I x34)) (e_ (I (a0.size : Int))) jv) ?_
   refine Q1 _ (jb (e_ (B (decide (x34 < (a0.size : Int)))))) ?_
   refine GT (S a0) rfl (e_ (B (decide (x34 < (a0.size : Int))))) (fun hb => jb f0) ?_
   refine GT (I x34) rfl (e_ (B (decide (x34 < (a0.size : Int))))) (fun hb => jb f9) ?_
   obtain ⟨x42, hx42, hs38⟩ := bs hs38
   refine GT (U8 x42) rfl (e_ (B (decide (x34 < (a0.size : Int))))) (fun hb => yk qo (gvp hb (e_ (gv (decide (x34 < (a0.size : Int))) (S a0)))) (gvp hb (e_ (gv (decide (x34 < (a0.size : Int))) (I x34)))) (G.cond_pos hx42 hb)) ?_
   obtain ⟨x43, hx43, hs38⟩ := bs hs38
   refine GTq (B x43) rfl (e_ (B (decide (x34 < (a0.size : Int))))) (fun hb => j0 (by kernel_rfl) (am (e_ (S (⟨#[42, 43, 63]⟩ : ByteArray))) (am (gvp hb (e_ (gv (decide (x34 < (a0.size : Int))) (U8 x42)))) (am0))) (js (.u _) (js (.u _) (j2))) (zd0 (G.cond_pos hx43 hb))) ?_
   refine Q1 (B ((decide (x34 < (a0.size : Int))) && x43)) (vt (e_ (B (decide (x34 < (a0.size : Int))))) (e_ (gv (decide (x34 < (a0.size : Int))) (B x43))) rfl) ?_
   refine PL.nil (hK41 _ _ ?_)
   refine A5 0 f0 7 f7 8 f8 9 f9 49 (e_ (B ((decide (x34 < (a0.size : Int))) && x43))) fun F f0 f7 f8 f9 f49 => ?_
   rcases cz hs38 with ⟨hb44, hs38⟩ | ⟨hb44, hs38⟩
   refine PC.condTb f49 hb44 ?_
   refine PC.skip ?_
   refine hK40 _ _ ?_
   refine A4 0 f0 7 f7 8 f8 9 f9 fun F f0 f7 f8 f9 => ?_
   refine PC.block ?_
   refine SR fun K45 hK45 => ?_
   refine Q1 _ (jf (e_ (I 5))) ?_
   refine PL.nil (hK45 _ _ ?_)
   refine A5 0 f0 7 f7 8 f8 9 f9 11 (e_ (I 5)) fun F f0 f7 f8 f9 f11 => ?_
   obtain ⟨o47, ho47, hs38⟩ := bs hs38
   refine PC.seqM (fun F H => ∃ s61 : Int, o47 = s61 ∧ F 0 = (S a0) ∧ F 7 = q11 ∧ F 8 = (ja x33) ∧ F 9 = (I x34) ∧ F 11 = (I s61) ∧ ownL 53 1 ja H 1007 q11 x10) ?_ ?_
   refine SR fun K58 hK58 => ?_
   refine Q1 _ (jb f0) ?_
   refine Q1 _ (jb f9) ?_
   obtain ⟨x59, hx59, ho47⟩ := bs ho47
   refine Q1 (U8 x59) (yk qo (e_ (S a0)) (e_ (I x34)) hx59) ?_
   refine Q1 _ (jh rfl (e_ (U8 x59)) (e_ (U8 43)) j7) ?_
   refine PL.nil (hK58 _ _ ?_)
   refine A6 0 f0 7 f7 8 f8 9 f9 11 f11 53 (e_ (B (decide (x59 = 43)))) fun F f0 f7 f8 f9 f11 f53 => ?_
   rcases cz ho47 with ⟨hb60, ho47⟩ | ⟨hb60, ho47⟩
   refine PC.condTb f53 hb60 ?_
   refine PC.region ?_
   refine Q1 _ (jf (e_ (I 6))) ?_
   refine PL.nil ?_
   have ho47 := pz ho47
   subst ho47
   exact ⟨6, rfl, f0, f7, f8, f9, (e_ (I 6)), o1007⟩
   refine PC.condFb f53 hb60 ?_
   refine PC.skip ?_
   have ho47 := pz ho47
   subst ho47
   exact ⟨5, rfl, f0, f7, f8, f9, f11, o1007⟩
   intro F H hI
   obtain ⟨x48, ho, f0, f7, f8, f9, f11, o1007⟩ := hI
   have ho := ho.symm
   subst ho
   try dsimp only at hs38
   obtain ⟨o50, ho50, hs38⟩ := bs hs38
   refine PC.seqM (fun F H => ∃ s57 : Int, o50 = s57 ∧ F 0 = (S a0) ∧ F 7 = q11 ∧ F 8 = (ja x33) ∧ F 9 = (I x34) ∧ F 11 = (I s57) ∧ ownL 53 1 ja H 1007 q11 x10) ?_ ?_
   refine SR fun K54 hK54 => ?_
   refine Q1 _ (jb f0) ?_
   refine Q1 _ (jb f9) ?_
   obtain ⟨x55, hx55, ho50⟩ := bs ho50
   refine Q1 (U8 x55) (yk qo (e_ (S a0)) (e_ (I x34)) hx55) ?_
   refine Q1 _ (jh rfl (e_ (U8 x55)) (e_ (U8 63)) j7) ?_
   refine PL.nil (hK54 _ _ ?_)
   refine A6 0 f0 7 f7 8 f8 9 f9 11 f11 57 (e_ (B (decide (x55 = 63)))) fun F f0 f7 f8 f9 f11 f57 => ?_
   rcases cz ho50 with ⟨hb56, ho50⟩ | ⟨hb56, ho50⟩
   refine PC.condTb f57 hb56 ?_
   refine PC.region ?_
   refine Q1 _ (jf (e_ (I 7))) ?_
   refine PL.nil ?_
   have ho50 := pz ho50
   subst ho50
   exact ⟨7, rfl, f0, f7, f8, f9, (e_ (I 7)), o1007⟩
   refine PC.condFb f57 hb56 ?_
   refine PC.skip ?_
   have ho50 := pz ho50
   subst ho50
   exact ⟨x48, rfl, f0, f7, f8, f9, f11, o1007⟩
   intro F H hI
   obtain ⟨x51, ho, f0, f7, f8, f9, f11, o1007⟩ := hI
   have ho := ho.symm
   subst ho
   try dsimp only at hs38
   refine SR fun K52 hK52 => ?_
   refine Q1 _ (jb f8) ?_
   refine Q1 _ (jb f11) ?_
   obtain ⟨x53, hx53, hs38⟩ := bs hs38
   refine Q3 (ja x53) (j0 (by kernel_rfl) (am (e_ (ja x33)) (am (e_ (I x51)) (am0))) (js (jt _) (js (.u _) (j2))) (zhs hx53)) ?_
   refine Q1 _ (jf (e_ (ja x53))) ?_
   refine PL.nil (hK52 _ _ ?_)
   refine A4 0 f0 7 f7 8 (e_ (ja x53)) 9 f9 fun F f0 f7 f8 f9 => ?_
   refine PC.region ?_
   refine Q1 _ (jb f9) ?_
   refine Q1 _ (jh rfl (e_ (I x34)) (e_ (I 1)) j3) ?_
   refine Q1 _ (jf (e_ (I (w64 (x34 + 1))))) ?_
   refine PL.nil ?_
   have hs38 := pz hs38
   subst hs38
   exact ⟨m39, Nat.lt_succ_self _, (x53, (w64 (x34 + 1))), ho35, f0, f7, f8, (e_ (I (w64 (x34 + 1)))), o1007⟩
   refine PC.condFb f49 hb44 ?_
   refine PC.exit ?_
   have hs38 := pz hs38
   subst hs38
   try dsimp only at ho35
   subst ho35
   try dsimp only at hs15
   refine hK28 _ _ ?_
   refine A4 0 f0 7 f7 8 f8 9 f9 fun F f0 f7 f8 f9 => ?_
   refine SR fun K62 hK62 => ?_
   refine Q1 _ (jb f7) ?_
   refine Q1 _ (jb f8) ?_
   refine Q3 (qf ([x33] : List (List jo))) (yx (rep := ja) (xs := [x33]) zaa rfl (by decide) (bm (e_ (ja x33)) (bm0)) rfl rfl) ?_
   obtain ⟨x63, hx63, hs15⟩ := bs hs15
   refine PL.appG (rep := ja) (ys := ([x33] : List (List jo))) rfl rfl rfl (by decide) zaa (e_ q11) o1007 (e_ (qf ([x33] : List (List jo)))) (fun _ => rfl) (lf1 (fun _ => rfl) (fun _ => rfl)) hx63 fun q64 H o1007 fz65 => ?_
   refine Q1 _ (jf (e_ q64)) ?_
   refine PL.nil (hK62 _ _ ?_)
   refine A3 0 f0 7 (e_ q64) 9 f9 fun F f0 f7 f9 => ?_
   refine PC.region ?_
   refine Q1 _ (jb f9) ?_
   refine Q1 _ (jf (e_ (I x34))) ?_
   refine PL.nil ?_
   have hs15 := pz hs15
   subst hs15
   exact ⟨m16, Nat.lt_succ_self _, (x34, x63), q64, ho12, f0, (e_ (I x34)), f7, o1007⟩
   refine PC.condFb f28 hb21 ?_
   refine PC.exit ?_
   have hs15 := pz hs15
   subst hs15
   try dsimp only at ho12
   subst ho12
   try dsimp only at h0
   refine hK5 _ _ ?_
   refine A2 1 f1 7 f7 fun F f1 f7 => ?_
   refine PC.seq fun K73 hK73 => ?_
   refine PC.freezeL (rep := ja) 7 f7 o1007 (fun _ => rfl) fun H fz74 => ?_
   refine PC.region ?_
   refine Q1 _ (jb (e_ (qf x10))) ?_
   obtain ⟨x75, hx75, h0⟩ := bs h0
   refine Q3 (ja x75) (j0 (by kernel_rfl) (am (e_ (qf x10)) (am0)) (js (z8 _) (j2)) (zhn hx75)) ?_
   refine Q1 _ (jb f1) ?_
   refine Q1 _ (jf (e_ (ja x75))) ?_
   refine Q1 _ (jf (e_ (I x9))) ?_
   refine Q1 _ (jf (e_ (B true))) ?_
   refine PL.nil (hK73 _ _ ?_)
   refine A3 4 (e_ (ja x75)) 5 (e_ (I x9)) 6 (e_ (B true)) fun F f4 f5 f6 => ?_
   refine PC.ret ?_
   have h0 := pz h0
   subst h0
   exact fin (.inr rfl) (zt (ss := [4, 5, 6]) (ps := [(ja x75), (I x9), (B true)]) Try.results50 (by decide) (rm f4 (rm f5 (rm f6 (rfl))))) (.tup _ (js (jt _) (js (.u _) (js (.u _) (j2)))))
   intro nn a0 a1 r h0
   unfold Zv at h0
   refine PCall.intro' Try.func70 rfl Try.ntmps70 (by simp) fun W => ?_
   refine A2 0 (e_ (S a0)) 1 (e_ (I a1)) fun F f0 f1 => ?_
   generalize PHeap.empty = H
   refine SR fun K1 hK1 => ?_
   refine Q3 (ja []) (J1 (k := 5)) ?_
   refine Q1 _ (jf (e_ (I 0))) ?_
   refine Q1 _ (jf (e_ (B false))) ?_
   refine PL.nil (hK1 _ _ ?_)
   refine A2 0 f0 1 f1 fun F f0 f1 => ?_
   refine PC.seq fun K2 hK2 => ?_
   refine SR fun K3 hK3 => ?_
   refine Q1 _ (jb f1) ?_
   refine Q1 _ (jb f0) ?_
   refine Q1 (I (a0.size : Int)) (yj qo (e_ (S a0))) ?_
   refine Q1 _ (jh rfl (e_ (I a1)) (e_ (I (a0.size : Int))) jv) ?_
   refine Q1 _ (jb (e_ (B (decide (a1 < (a0.size : Int)))))) ?_
   refine GT (S a0) rfl (e_ (B (decide (a1 < (a0.size : Int))))) (fun hb => jb f0) ?_
   refine GT (I a1) rfl (e_ (B (decide (a1 < (a0.size : Int))))) (fun hb => jb f1) ?_
   obtain ⟨x4, hx4, h0⟩ := bs h0
   refine GT (U8 x4) rfl (e_ (B (decide (a1 < (a0.size : Int))))) (fun hb => yk qo (gvp hb (e_ (gv (decide (a1 < (a0.size : Int))) (S a0)))) (gvp hb (e_ (gv (decide (a1 < (a0.size : Int))) (I a1)))) (G.cond_pos hx4 hb)) ?_
   refine GT (B (decide (x4 = 40))) rfl (e_ (B (decide (a1 < (a0.size : Int))))) (fun hb => jh rfl (gvp hb (e_ (gv (decide (a1 < (a0.size : Int))) (U8 x4)))) (e_ (U8 40)) j7) ?_
   refine Q1 (B ((decide (a1 < (a0.size : Int))) && (decide (x4 = 40)))) (vt (e_ (B (decide (a1 < (a0.size : Int))))) (e_ (gv (decide (a1 < (a0.size : Int))) (B (decide (x4 = 40))))) rfl) ?_
   refine PL.nil (hK3 _ _ ?_)
   refine A3 0 f0 1 f1 25 (e_ (B ((decide (a1 < (a0.size : Int))) && (decide (x4 = 40))))) fun F f0 f1 f25 => ?_
   rcases cz h0 with ⟨hb5, h0⟩ | ⟨hb5, h0⟩
   refine PC.condTb f25 hb5 ?_
   refine SR fun K6 hK6 => ?_
   refine Q1 _ (jb f0) ?_
   refine Q1 _ (jb f1) ?_
   refine Q1 _ (jh rfl (e_ (I a1)) (e_ (I 1)) j3) ?_
   obtain ⟨x7, hx7, h0⟩ := bs h0
   refine Q3 (PV.tup [(ja x7.1), (I x7.2.1), (B x7.2.2)]) (j0 (by kernel_rfl) (am (e_ (S a0)) (am (e_ (I (w64 (a1 + 1)))) (am0))) (js (.u _) (js (.u _) (j2))) (ih0 _ _ _ _ hx7)) ?_
   refine Q1 _ (jb (e_ (PV.tup [(ja x7.1), (I x7.2.1), (B x7.2.2)]))) ?_
   refine Q1 _ (vj (e_ (PV.tup [(ja x7.1), (I x7.2.1), (B x7.2.2)])) rfl) ?_
   refine Q1 _ (vj (e_ (PV.tup [(ja x7.1), (I x7.2.1), (B x7.2.2)])) rfl) ?_
   refine Q1 _ (vj (e_ (PV.tup [(ja x7.1), (I x7.2.1), (B x7.2.2)])) rfl) ?_
   refine Q1 _ (jf (e_ (ja x7.1))) ?_
   refine Q1 _ (jf (e_ (I x7.2.1))) ?_
   refine Q1 _ (jf (e_ (B x7.2.2))) ?_
   refine PL.nil (hK6 _ _ ?_)
   refine A4 0 f0 7 (e_ (ja x7.1)) 8 (e_ (I x7.2.1)) 9 (e_ (B x7.2.2)) fun F f0 f7 f8 f9 => ?_
   refine PC.seq fun K8 hK8 => ?_
   refine SR fun K9 hK9 => ?_
   refine Q1 _ (jb f9) ?_
   refine Q1 (B (!x7.2.2)) (yn (e_ (B x7.2.2))) ?_
   refine PL.nil (hK9 _ _ ?_)
   refine A4 0 f0 7 f7 8 f8 35 (e_ (B (!x7.2.2))) fun F f0 f7 f8 f35 => ?_
   rcases cz h0 with ⟨hb10, h0⟩ | ⟨hb10, h0⟩
   refine PC.condTb f35 hb10 ?_
   refine SR fun K11 hK11 => ?_
   refine Q1 _ (jb f7) ?_
   refine Q1 _ (jb f8) ?_
   refine Q1 _ (jf (e_ (ja x7.1))) ?_
   refine Q1 _ (jf (e_ (I x7.2.1))) ?_
   refine Q1 _ (jf (e_ (B false))) ?_
   refine PL.nil (hK11 _ _ ?_)
   refine A3 4 (e_ (ja x7.1)) 5 (e_ (I x7.2.1)) 6 (e_ (B false)) fun F f4 f5 f6 => ?_
   refine PC.ret ?_
   have h0 := pz h0
   subst h0
   exact fin (.inr rfl) (zt (ss := [4, 5, 6]) (ps := [(ja x7.1), (I x7.2.1), (B false)]) Try.results70 (by decide) (rm f4 (rm f5 (rm f6 (rfl))))) (.tup _ (js (jt _) (js (.u _) (js (.u _) (j2)))))
   refine PC.condFb f35 hb10 ?_
   refine PC.skip ?_
   refine hK8 _ _ ?_
   refine A3 0 f0 7 f7 8 f8 fun F f0 f7 f8 => ?_
   refine PC.seq fun K12 hK12 => ?_
   refine SR fun K13 hK13 => ?_
   refine Q1 _ (jb f8) ?_
   refine Q1 _ (jb f0) ?_
   refine Q1 (I (a0.size : Int)) (yj qo (e_ (S a0))) ?_
   refine Q1 _ (jh rfl (e_ (I x7.2.1)) (e_ (I (a0.size : Int))) vr) ?_
   refine Q1 _ (jb (e_ (B (decide ((a0.size : Int) ≤ x7.2.1))))) ?_
   refine GF (S a0) rfl (e_ (B (decide ((a0.size : Int) ≤ x7.2.1)))) (fun hb => jb f0) ?_
   refine GF (I x7.2.1) rfl (e_ (B (decide ((a0.size : Int) ≤ x7.2.1)))) (fun hb => jb f8) ?_
   obtain ⟨x14, hx14, h0⟩ := bs h0
   refine GF (U8 x14) rfl (e_ (B (decide ((a0.size : Int) ≤ x7.2.1)))) (fun hb => yk qo (gvp hb (e_ (gv (!(decide ((a0.size : Int) ≤ x7.2.1))) (S a0)))) (gvp hb (e_ (gv (!(decide ((a0.size : Int) ≤ x7.2.1))) (I x7.2.1)))) (G.cond_pos hx14 hb)) ?_
   refine GF (B (decide (¬ x14 = 41))) rfl (e_ (B (decide ((a0.size : Int) ≤ x7.2.1)))) (fun hb => jh rfl (gvp hb (e_ (gv (!(decide ((a0.size : Int) ≤ x7.2.1))) (U8 x14)))) (e_ (U8 41)) yc) ?_
   refine Q1 (B ((decide ((a0.size : Int) ≤ x7.2.1)) || (decide (¬ x14 = 41)))) (yf (e_ (B (decide ((a0.size : Int) ≤ x7.2.1)))) rfl (e_ (gv (!(decide ((a0.size : Int) ≤ x7.2.1))) (B (decide (¬ x14 = 41)))))) ?_
   refine PL.nil (hK13 _ _ ?_)
   refine A3 7 f7 8 f8 47 (e_ (B ((decide ((a0.size : Int) ≤ x7.2.1)) || (decide (¬ x14 = 41))))) fun F f7 f8 f47 => ?_
   rcases cz h0 with ⟨hb15, h0⟩ | ⟨hb15, h0⟩
   refine PC.condTb f47 hb15 ?_
   refine SR fun K16 hK16 => ?_
   refine Q1 _ (jb f7) ?_
   refine Q1 _ (jb f8) ?_
   refine Q1 _ (jf (e_ (ja x7.1))) ?_
   refine Q1 _ (jf (e_ (I x7.2.1))) ?_
   refine Q1 _ (jf (e_ (B false))) ?_
   refine PL.nil (hK16 _ _ ?_)
   refine A3 4 (e_ (ja x7.1)) 5 (e_ (I x7.2.1)) 6 (e_ (B false)) fun F f4 f5 f6 => ?_
   refine PC.ret ?_
   have h0 := pz h0
   subst h0
   exact fin (.inr rfl) (zt (ss := [4, 5, 6]) (ps := [(ja x7.1), (I x7.2.1), (B false)]) Try.results70 (by decide) (rm f4 (rm f5 (rm f6 (rfl))))) (.tup _ (js (jt _) (js (.u _) (js (.u _) (j2)))))
   refine PC.condFb f47 hb15 ?_
   refine PC.skip ?_
   refine hK12 _ _ ?_
   refine A2 7 f7 8 f8 fun F f7 f8 => ?_
   refine SR fun K17 hK17 => ?_
   refine Q1 _ (jb f7) ?_
   refine Q1 _ (jb f8) ?_
   refine Q1 _ (jh rfl (e_ (I x7.2.1)) (e_ (I 1)) j3) ?_
   refine Q1 _ (jf (e_ (ja x7.1))) ?_
   refine Q1 _ (jf (e_ (I (w64 (x7.2.1 + 1))))) ?_
   refine Q1 _ (jf (e_ (B true))) ?_
   refine PL.nil (hK17 _ _ ?_)
   refine A3 4 (e_ (ja x7.1)) 5 (e_ (I (w64 (x7.2.1 + 1)))) 6 (e_ (B true)) fun F f4 f5 f6 => ?_
   refine PC.ret ?_
   have h0 := pz h0
   subst h0
   exact fin (.inr rfl) (zt (ss := [4, 5, 6]) (ps := [(ja x7.1), (I (w64 (x7.2.1 + 1))), (B true)]) Try.results70 (by decide) (rm f4 (rm f5 (rm f6 (rfl))))) (.tup _ (js (jt _) (js (.u _) (js (.u _) (j2)))))
   refine PC.condFb f25 hb5 ?_
   refine PC.skip ?_
   refine hK2 _ _ ?_
   refine A2 0 f0 1 f1 fun F f0 f1 => ?_
   refine PC.seq fun K18 hK18 => ?_
   refine SR fun K19 hK19 => ?_
   refine Q1 _ (jb f1) ?_
   refine Q1 _ (jb f0) ?_
   refine Q1 (I (a0.size : Int)) (yj qo (e_ (S a0))) ?_
   refine Q1 _ (jh rfl (e_ (I a1)) (e_ (I (a0.size : Int))) jv) ?_
   refine Q1 _ (jb (e_ (B (decide (a1 < (a0.size : Int)))))) ?_
   refine GT (S a0) rfl (e_ (B (decide (a1 < (a0.size : Int))))) (fun hb => jb f0) ?_
   refine GT (I a1) rfl (e_ (B (decide (a1 < (a0.size : Int))))) (fun hb => jb f1) ?_
   obtain ⟨x20, hx20, h0⟩ := bs h0
   refine GT (U8 x20) rfl (e_ (B (decide (a1 < (a0.size : Int))))) (fun hb => yk qo (gvp hb (e_ (gv (decide (a1 < (a0.size : Int))) (S a0)))) (gvp hb (e_ (gv (decide (a1 < (a0.size : Int))) (I a1)))) (G.cond_pos hx20 hb)) ?_
   refine GT (B (decide (x20 = 46))) rfl (e_ (B (decide (a1 < (a0.size : Int))))) (fun hb => jh rfl (gvp hb (e_ (gv (decide (a1 < (a0.size : Int))) (U8 x20)))) (e_ (U8 46)) j7) ?_
   refine Q1 (B ((decide (a1 < (a0.size : Int))) && (decide (x20 = 46)))) (vt (e_ (B (decide (a1 < (a0.size : Int))))) (e_ (gv (decide (a1 < (a0.size : Int))) (B (decide (x20 = 46))))) rfl) ?_
   refine PL.nil (hK19 _ _ ?_)
   refine A3 0 f0 1 f1 62 (e_ (B ((decide (a1 < (a0.size : Int))) && (decide (x20 = 46))))) fun F f0 f1 f62 => ?_
   rcases cz h0 with ⟨hb21, h0⟩ | ⟨hb21, h0⟩
   refine PC.condTb f62 hb21 ?_
   refine SR fun K22 hK22 => ?_
   obtain ⟨x23, hx23, h0⟩ := bs h0
   refine Q3 ((arV (n := 4) (iK .u64)) x23) (j0 (by kernel_rfl) (am (e_ (U8 10)) (am0)) (js (.u _) (j2)) (zcq hx23)) ?_
   obtain ⟨x24, hx24, h0⟩ := bs h0
   refine Q3 ((arV (n := 4) (iK .u64)) x24) (j0 (by kernel_rfl) (am (e_ ((arV (n := 4) (iK .u64)) x23)) (am0)) (js (vc _ (fun _ => (.u _))) (j2)) (zct hx24)) ?_
   obtain ⟨x25, hx25, h0⟩ := bs h0
   refine Q3 (ja x25) (j0 (by kernel_rfl) (am (e_ ((arV (n := 4) (iK .u64)) x24)) (am0)) (js (vc _ (fun _ => (.u _))) (j2)) (V9 hx25)) ?_
   refine Q1 _ (jb f1) ?_
   refine Q1 _ (jh rfl (e_ (I a1)) (e_ (I 1)) j3) ?_
   refine Q1 _ (jf (e_ (ja x25))) ?_
   refine Q1 _ (jf (e_ (I (w64 (a1 + 1))))) ?_
   refine Q1 _ (jf (e_ (B true))) ?_
   refine PL.nil (hK22 _ _ ?_)
   refine A3 4 (e_ (ja x25)) 5 (e_ (I (w64 (a1 + 1)))) 6 (e_ (B true)) fun F f4 f5 f6 => ?_
   refine PC.ret ?_
   have h0 := pz h0
   subst h0
   exact fin (.inr rfl) (zt (ss := [4, 5, 6]) (ps := [(ja x25), (I (w64 (a1 + 1))), (B true)]) Try.results70 (by decide) (rm f4 (rm f5 (rm f6 (rfl))))) (.tup _ (js (jt _) (js (.u _) (js (.u _) (j2)))))
   refine PC.condFb f62 hb21 ?_
   refine PC.skip ?_
   refine hK18 _ _ ?_
   refine A2 0 f0 1 f1 fun F f0 f1 => ?_
   refine PC.seq fun K26 hK26 => ?_
   refine SR fun K27 hK27 => ?_
   refine Q1 _ (jb f1) ?_
   refine Q1 _ (jb f0) ?_
   refine Q1 (I (a0.size : Int)) (yj qo (e_ (S a0))) ?_
   refine Q1 _ (jh rfl (e_ (I a1)) (e_ (I (a0.size : Int))) jv) ?_
   refine Q1 _ (jb (e_ (B (decide (a1 < (a0.size : Int)))))) ?_
   refine GT (S a0) rfl (e_ (B (decide (a1 < (a0.size : Int))))) (fun hb => jb f0) ?_
   refine GT (I a1) rfl (e_ (B (decide (a1 < (a0.size : Int))))) (fun hb => jb f1) ?_
   obtain ⟨x28, hx28, h0⟩ := bs h0
   refine GT (U8 x28) rfl (e_ (B (decide (a1 < (a0.size : Int))))) (fun hb => yk qo (gvp hb (e_ (gv (decide (a1 < (a0.size : Int))) (S a0)))) (gvp hb (e_ (gv (decide (a1 < (a0.size : Int))) (I a1)))) (G.cond_pos hx28 hb)) ?_
   refine GT (B (decide (x28 = 91))) rfl (e_ (B (decide (a1 < (a0.size : Int))))) (fun hb => jh rfl (gvp hb (e_ (gv (decide (a1 < (a0.size : Int))) (U8 x28)))) (e_ (U8 91)) j7) ?_
   refine Q1 (B ((decide (a1 < (a0.size : Int))) && (decide (x28 = 91)))) (vt (e_ (B (decide (a1 < (a0.size : Int))))) (e_ (gv (decide (a1 < (a0.size : Int))) (B (decide (x28 = 91))))) rfl) ?_
   refine PL.nil (hK27 _ _ ?_)
   refine A3 0 f0 1 f1 77 (e_ (B ((decide (a1 < (a0.size : Int))) && (decide (x28 = 91))))) fun F f0 f1 f77 => ?_
   rcases cz h0 with ⟨hb29, h0⟩ | ⟨hb29, h0⟩
   refine PC.condTb f77 hb29 ?_
   refine SR fun K30 hK30 => ?_
   refine Q1 _ (jb f0) ?_
   refine Q1 _ (jb f1) ?_
   obtain ⟨x31, hx31, h0⟩ := bs h0
   refine Q3 (PV.tup [((arV (n := 4) (iK .u64)) x31.1), (I x31.2.1), (B x31.2.2)]) (j0 (by kernel_rfl) (am (e_ (S a0)) (am (e_ (I a1)) (am0))) (js (.u _) (js (.u _) (j2))) (ze6 hx31)) ?_
   refine Q1 _ (jb (e_ (PV.tup [((arV (n := 4) (iK .u64)) x31.1), (I x31.2.1), (B x31.2.2)]))) ?_
   refine Q1 _ (vj (e_ (PV.tup [((arV (n := 4) (iK .u64)) x31.1), (I x31.2.1), (B x31.2.2)])) rfl) ?_
   refine Q1 _ (vj (e_ (PV.tup [((arV (n := 4) (iK .u64)) x31.1), (I x31.2.1), (B x31.2.2)])) rfl) ?_
   refine Q1 _ (vj (e_ (PV.tup [((arV (n := 4) (iK .u64)) x31.1), (I x31.2.1), (B x31.2.2)])) rfl) ?_
   refine PL.allocA 210 (cs := ((arV (n := 4) (iK .u64)) (arZ 4 0)).cells) rfl rfl rfl (by decide) Qr (by kernel_rfl) (by kernel_rfl) fun v210 H b210 fz32 => ?_
   refine PL.storeA (ag := true) (cs' := ((arV (n := 4) (iK .u64)) x31.1).cells) (ps := ((arV (n := 4) (iK .u64)) x31.1).cells) rfl rfl (fun _ h => by cases h) (e_ (PV.pp 210 0 v210)) b210 qy (e_ ((arV (n := 4) (iK .u64)) x31.1)) (v8 _ _ _ (fun _ => rfl)) rfl (jj _ _ (fun _ => rfl)) (by rw [(jj _ _ (fun _ => rfl))]; exact Nat.le_of_ble_eq_true rfl) (vz (N := 4) (jj _ _ (fun _ => rfl)) (jj _ _ (fun _ => rfl))) fun H b210 fz33 => ?_
   refine Q1 _ (jf (e_ (I x31.2.1))) ?_
   refine Q1 _ (jf (e_ (B x31.2.2))) ?_
   refine PL.nil (hK30 _ _ ?_)
   refine A3 10 (e_ (PV.pp 210 0 v210)) 11 (e_ (I x31.2.1)) 12 (e_ (B x31.2.2)) fun F f10 f11 f12 => ?_
   refine SR fun K34 hK34 => ?_
   refine Q1 ((arV (n := 4) (iK .u64)) x31.1) (vm qy f10 b210 (yo (jj _ _ (fun _ => rfl)))) ?_
   obtain ⟨x35, hx35, h0⟩ := bs h0
   refine Q3 (ja x35) (j0 (by kernel_rfl) (am (e_ ((arV (n := 4) (iK .u64)) x31.1)) (am0)) (js (vc _ (fun _ => (.u _))) (j2)) (V9 hx35)) ?_
   refine Q1 _ (jb f11) ?_
   refine Q1 _ (jb f12) ?_
   refine Q1 _ (jf (e_ (ja x35))) ?_
   refine Q1 _ (jf (e_ (I x31.2.1))) ?_
   refine Q1 _ (jf (e_ (B x31.2.2))) ?_
   refine PL.nil (hK34 _ _ ?_)
   refine A3 4 (e_ (ja x35)) 5 (e_ (I x31.2.1)) 6 (e_ (B x31.2.2)) fun F f4 f5 f6 => ?_
   refine PC.ret ?_
   have h0 := pz h0
   subst h0
   exact fin (.inr rfl) (zt (ss := [4, 5, 6]) (ps := [(ja x35), (I x31.2.1), (B x31.2.2)]) Try.results70 (by decide) (rm f4 (rm f5 (rm f6 (rfl))))) (.tup _ (js (jt _) (js (.u _) (js (.u _) (j2)))))
   refine PC.condFb f77 hb29 ?_
   refine PC.skip ?_
   refine hK26 _ _ ?_
   refine A2 0 f0 1 f1 fun F f0 f1 => ?_
   refine SR fun K36 hK36 => ?_
   refine Q1 _ (jb f0) ?_
   refine Q1 _ (jb f1) ?_
   obtain ⟨x37, hx37, h0⟩ := bs h0
   refine Q3 (PV.tup [(U8 x37.1), (I x37.2.1), (B x37.2.2)]) (j0 (by kernel_rfl) (am (e_ (S a0)) (am (e_ (I a1)) (am (e_ (S (⟨#[40, 41, 91, 93, 124, 42, 43, 63, 46]⟩ : ByteArray))) (am0)))) (js (.u _) (js (.u _) (js (.u _) (j2)))) (Yz hx37)) ?_
   refine Q1 _ (jb (e_ (PV.tup [(U8 x37.1), (I x37.2.1), (B x37.2.2)]))) ?_
   refine Q1 _ (vj (e_ (PV.tup [(U8 x37.1), (I x37.2.1), (B x37.2.2)])) rfl) ?_
   refine Q1 _ (vj (e_ (PV.tup [(U8 x37.1), (I x37.2.1), (B x37.2.2)])) rfl) ?_
   refine Q1 _ (vj (e_ (PV.tup [(U8 x37.1), (I x37.2.1), (B x37.2.2)])) rfl) ?_
   refine Q1 _ (jf (e_ (U8 x37.1))) ?_
   refine Q1 _ (jf (e_ (I x37.2.1))) ?_
   refine Q1 _ (jf (e_ (B x37.2.2))) ?_
   refine PL.nil (hK36 _ _ ?_)
   refine A3 13 (e_ (U8 x37.1)) 14 (e_ (I x37.2.1)) 15 (e_ (B x37.2.2)) fun F f13 f14 f15 => ?_
   refine SR fun K38 hK38 => ?_
   refine Q1 _ (jb f13) ?_
   obtain ⟨x39, hx39, h0⟩ := bs h0
   refine Q3 ((arV (n := 4) (iK .u64)) x39) (j0 (by kernel_rfl) (am (e_ (U8 x37.1)) (am0)) (js (.u _) (j2)) (zcq hx39)) ?_
   obtain ⟨x40, hx40, h0⟩ := bs h0
   refine Q3 (ja x40) (j0 (by kernel_rfl) (am (e_ ((arV (n := 4) (iK .u64)) x39)) (am0)) (js (vc _ (fun _ => (.u _))) (j2)) (V9 hx40)) ?_
   refine Q1 _ (jb f14) ?_
   refine Q1 _ (jb f15) ?_
   refine Q1 _ (jf (e_ (ja x40))) ?_
   refine Q1 _ (jf (e_ (I x37.2.1))) ?_
   refine Q1 _ (jf (e_ (B x37.2.2))) ?_
   refine PL.nil (hK38 _ _ ?_)
   refine A3 4 (e_ (ja x40)) 5 (e_ (I x37.2.1)) 6 (e_ (B x37.2.2)) fun F f4 f5 f6 => ?_
   refine PC.ret ?_
   have h0 := pz h0
   subst h0
   exact fin (.inr rfl) (zt (ss := [4, 5, 6]) (ps := [(ja x40), (I x37.2.1), (B x37.2.2)]) Try.results70 (by decide) (rm f4 (rm f5 (rm f6 (rfl))))) (.tup _ (js (jt _) (js (.u _) (js (.u _) (j2)))))
def zdf (a0 : ByteArray) (a1 : Int) : G ((List jo) × Int × Bool) := fun nn => V7 nn a0 a1 nn
theorem zgq {nn : Nat} {a0 : ByteArray} {a1 : Int} {r : ((List jo) × Int × Bool)} (h0 : zdf a0 a1 nn = some r) : PCall Try.prog 33 [S a0, I a1] (· = PV.tup [ja r.1, I r.2.1, B r.2.2]) := (Zk nn).1 _ _ _ _ h0
def zam (a0 : ByteArray) : G ((List jo) × Int × Int) :=
  G.cond (decide (4096 < (a0.size : Int))) (G.pure ([], 0, 4)) (G.bind (zdf a0 0) fun x7 => G.cond ((!x7.2.2) || (decide (x7.2.1 < (a0.size : Int)))) (G.pure ([], x7.2.1, 3)) (G.cond (decide (512 < (x7.1.length : Int))) (G.pure ([], 0, 4)) (G.pure (x7.1, (a0.size : Int), 0))))
theorem zgu {nn : Nat} {a0 : ByteArray} {r : ((List jo) × Int × Int)} (h0 : zam a0 nn = some r) : PCall Try.prog 25 [S a0] (· = PV.tup [ja r.1, I r.2.1, I r.2.2]) := by
 unfold zam at h0
 refine PCall.intro' Try.func25 rfl Try.ntmps25 (by simp) fun W => ?_
 refine A1 0 (e_ (S a0)) fun F f0 => ?_
 generalize PHeap.empty = H
 refine SR fun K1 hK1 => ?_
 refine Q3 (ja []) (J1 (k := 5)) ?_
 refine Q1 _ (jf (e_ (I 0))) ?_
 refine Q1 _ (jf (e_ (I 0))) ?_
 refine PL.nil (hK1 _ _ ?_)
 refine A1 0 f0 fun F f0 => ?_
 refine PC.seq fun K2 hK2 => ?_
 refine SR fun K3 hK3 => ?_
 refine Q1 _ (jb f0) ?_
 refine Q1 (I (a0.size : Int)) (yj qo (e_ (S a0))) ?_
 refine Q1 _ (jh rfl (e_ (I (a0.size : Int))) (e_ (I 4096)) J4) ?_
 refine PL.nil (hK3 _ _ ?_)
 refine A2 0 f0 10 (e_ (B (decide (4096 < (a0.size : Int))))) fun F f0 f10 => ?_
 rcases cz h0 with ⟨hb4, h0⟩ | ⟨hb4, h0⟩
 refine PC.condTb f10 hb4 ?_
 refine SR fun K5 hK5 => ?_
 refine Q3 (ja []) (J1 (k := 5)) ?_
 refine Q1 _ (jf (e_ (I 0))) ?_
 refine Q1 _ (jf (e_ (I 4))) ?_
 refine PL.nil (hK5 _ _ ?_)
 refine A3 2 (e_ (ja [])) 3 (e_ (I 0)) 4 (e_ (I 4)) fun F f2 f3 f4 => ?_
 refine PC.ret ?_
 have h0 := pz h0
 subst h0
 exact fin (.inr rfl) (zt (ss := [2, 3, 4]) (ps := [(ja []), (I 0), (I 4)]) Try.results25 (by decide) (rm f2 (rm f3 (rm f4 (rfl))))) (.tup _ (js (jt _) (js (.u _) (js (.u _) (j2)))))
 refine PC.condFb f10 hb4 ?_
 refine PC.skip ?_
 refine hK2 _ _ ?_
 refine A1 0 f0 fun F f0 => ?_
 refine SR fun K6 hK6 => ?_
 refine Q1 _ (jb f0) ?_
 obtain ⟨x7, hx7, h0⟩ := bs h0
 refine Q3 (PV.tup [(ja x7.1), (I x7.2.1), (B x7.2.2)]) (j0 (by kernel_rfl) (am (e_ (S a0)) (am (e_ (I 0)) (am0))) (js (.u _) (js (.u _) (j2))) (zgq hx7)) ?_
 refine Q1 _ (jb (e_ (PV.tup [(ja x7.1), (I x7.2.1), (B x7.2.2)]))) ?_
 refine Q1 _ (vj (e_ (PV.tup [(ja x7.1), (I x7.2.1), (B x7.2.2)])) rfl) ?_
 refine Q1 _ (vj (e_ (PV.tup [(ja x7.1), (I x7.2.1), (B x7.2.2)])) rfl) ?_
 refine Q1 _ (vj (e_ (PV.tup [(ja x7.1), (I x7.2.1), (B x7.2.2)])) rfl) ?_
 refine Q1 _ (jf (e_ (ja x7.1))) ?_
 refine Q1 _ (jf (e_ (I x7.2.1))) ?_
 refine Q1 _ (jf (e_ (B x7.2.2))) ?_
 refine PL.nil (hK6 _ _ ?_)
 refine A4 0 f0 5 (e_ (ja x7.1)) 6 (e_ (I x7.2.1)) 7 (e_ (B x7.2.2)) fun F f0 f5 f6 f7 => ?_
 refine PC.seq fun K8 hK8 => ?_
 refine SR fun K9 hK9 => ?_
 refine Q1 _ (jb f7) ?_
 refine Q1 (B (!x7.2.2)) (yn (e_ (B x7.2.2))) ?_
 refine Q1 _ (jb (e_ (B (!x7.2.2)))) ?_
 refine GF (I x7.2.1) rfl (e_ (B (!x7.2.2))) (fun hb => jb f6) ?_
 refine GF (S a0) rfl (e_ (B (!x7.2.2))) (fun hb => jb f0) ?_
 refine GF (I (a0.size : Int)) rfl (e_ (B (!x7.2.2))) (fun hb => yj qo (gvp hb (e_ (gv (!(!x7.2.2)) (S a0))))) ?_
 refine GF (B (decide (x7.2.1 < (a0.size : Int)))) rfl (e_ (B (!x7.2.2))) (fun hb => jh rfl (gvp hb (e_ (gv (!(!x7.2.2)) (I x7.2.1)))) (gvp hb (e_ (gv (!(!x7.2.2)) (I (a0.size : Int))))) jv) ?_
 refine Q1 (B ((!x7.2.2) || (decide (x7.2.1 < (a0.size : Int))))) (yf (e_ (B (!x7.2.2))) rfl (e_ (gv (!(!x7.2.2)) (B (decide (x7.2.1 < (a0.size : Int))))))) ?_
 refine PL.nil (hK9 _ _ ?_)
 refine A4 0 f0 5 f5 6 f6 24 (e_ (B ((!x7.2.2) || (decide (x7.2.1 < (a0.size : Int)))))) fun F f0 f5 f6 f24 => ?_
 rcases cz h0 with ⟨hb10, h0⟩ | ⟨hb10, h0⟩
 refine PC.condTb f24 hb10 ?_
 refine SR fun K11 hK11 => ?_
 refine Q1 _ (jb f6) ?_
 refine Q3 (ja []) (J1 (k := 5)) ?_
 refine Q1 _ (jf (e_ (I x7.2.1))) ?_
 refine Q1 _ (jf (e_ (I 3))) ?_
 refine PL.nil (hK11 _ _ ?_)
 refine A3 2 (e_ (ja [])) 3 (e_ (I x7.2.1)) 4 (e_ (I 3)) fun F f2 f3 f4 => ?_
 refine PC.ret ?_
 have h0 := pz h0
 subst h0
 exact fin (.inr rfl) (zt (ss := [2, 3, 4]) (ps := [(ja []), (I x7.2.1), (I 3)]) Try.results25 (by decide) (rm f2 (rm f3 (rm f4 (rfl))))) (.tup _ (js (jt _) (js (.u _) (js (.u _) (j2)))))
 refine PC.condFb f24 hb10 ?_
 refine PC.skip ?_
 refine hK8 _ _ ?_
 refine A2 0 f0 5 f5 fun F f0 f5 => ?_
 refine PC.seq fun K12 hK12 => ?_
 refine SR fun K13 hK13 => ?_
 refine Q1 _ (jb f5) ?_
 refine Q1 (I (x7.1.length : Int)) (qg (rep := jr) (xs := x7.1) Jj (e_ (ja x7.1))) ?_
 refine Q1 _ (jh rfl (e_ (I (x7.1.length : Int))) (e_ (I 512)) J4) ?_
 refine PL.nil (hK13 _ _ ?_)
 refine A3 0 f0 5 f5 28 (e_ (B (decide (512 < (x7.1.length : Int))))) fun F f0 f5 f28 => ?_
 rcases cz h0 with ⟨hb14, h0⟩ | ⟨hb14, h0⟩
 refine PC.condTb f28 hb14 ?_
 refine SR fun K15 hK15 => ?_
 refine Q3 (ja []) (J1 (k := 5)) ?_
 refine Q1 _ (jf (e_ (I 0))) ?_
 refine Q1 _ (jf (e_ (I 4))) ?_
 refine PL.nil (hK15 _ _ ?_)
 refine A3 2 (e_ (ja [])) 3 (e_ (I 0)) 4 (e_ (I 4)) fun F f2 f3 f4 => ?_
 refine PC.ret ?_
 have h0 := pz h0
 subst h0
 exact fin (.inr rfl) (zt (ss := [2, 3, 4]) (ps := [(ja []), (I 0), (I 4)]) Try.results25 (by decide) (rm f2 (rm f3 (rm f4 (rfl))))) (.tup _ (js (jt _) (js (.u _) (js (.u _) (j2)))))
 refine PC.condFb f28 hb14 ?_
 refine PC.skip ?_
 refine hK12 _ _ ?_
 refine A2 0 f0 5 f5 fun F f0 f5 => ?_
 refine SR fun K16 hK16 => ?_
 refine Q1 _ (jb f5) ?_
 refine Q1 _ (jb f0) ?_
 refine Q1 (I (a0.size : Int)) (yj qo (e_ (S a0))) ?_
 refine Q1 _ (jf (e_ (ja x7.1))) ?_
 refine Q1 _ (jf (e_ (I (a0.size : Int)))) ?_
 refine Q1 _ (jf (e_ (I 0))) ?_
 refine PL.nil (hK16 _ _ ?_)
 refine A3 2 (e_ (ja x7.1)) 3 (e_ (I (a0.size : Int))) 4 (e_ (I 0)) fun F f2 f3 f4 => ?_
 refine PC.ret ?_
 have h0 := pz h0
 subst h0
 exact fin (.inr rfl) (zt (ss := [2, 3, 4]) (ps := [(ja x7.1), (I (a0.size : Int)), (I 0)]) Try.results25 (by decide) (rm f2 (rm f3 (rm f4 (rfl))))) (.tup _ (js (jt _) (js (.u _) (js (.u _) (j2)))))
def zaq (a0 : Int) : G Int :=
  G.cond ((decide (a0 = 1)) || (decide (a0 = 2))) (G.pure 0) (G.cond ((decide (a0 = 3)) || (decide (a0 = 4))) (G.pure 2) (G.cond (((decide (a0 = 5)) || (decide (a0 = 6))) || (decide (a0 = 7))) (G.pure 1) (G.pure (-1))))
theorem zea {nn : Nat} {a0 : Int} {r : Int} (h0 : zaq a0 nn = some r) : PCall Try.prog 78 [I a0] (· = I r) := by
 unfold zaq at h0
 refine PCall.intro' Try.func78 rfl Try.ntmps78 (by simp) fun W => ?_
 refine A1 0 (e_ (I a0)) fun F f0 => ?_
 generalize PHeap.empty = H
 refine SR fun K1 hK1 => ?_
 refine Q1 _ (jf (e_ (I 0))) ?_
 refine PL.nil (hK1 _ _ ?_)
 refine A1 0 f0 fun F f0 => ?_
 refine PC.seq fun K2 hK2 => ?_
 refine SR fun K3 hK3 => ?_
 refine Q1 _ (jb f0) ?_
 refine Q1 _ (jh rfl (e_ (I a0)) (e_ (I 1)) j7) ?_
 refine Q1 _ (jb (e_ (B (decide (a0 = 1))))) ?_
 refine GF (I a0) rfl (e_ (B (decide (a0 = 1)))) (fun hb => jb f0) ?_
 refine GF (B (decide (a0 = 2))) rfl (e_ (B (decide (a0 = 1)))) (fun hb => jh rfl (gvp hb (e_ (gv (!(decide (a0 = 1))) (I a0)))) (e_ (I 2)) j7) ?_
 refine Q1 (B ((decide (a0 = 1)) || (decide (a0 = 2)))) (yf (e_ (B (decide (a0 = 1)))) rfl (e_ (gv (!(decide (a0 = 1))) (B (decide (a0 = 2)))))) ?_
 refine PL.nil (hK3 _ _ ?_)
 refine A2 0 f0 8 (e_ (B ((decide (a0 = 1)) || (decide (a0 = 2))))) fun F f0 f8 => ?_
 rcases cz h0 with ⟨hb4, h0⟩ | ⟨hb4, h0⟩
 refine PC.condTb f8 hb4 ?_
 refine SR fun K5 hK5 => ?_
 refine Q1 _ (jf (e_ (I 0))) ?_
 refine PL.nil (hK5 _ _ ?_)
 refine A1 2 (e_ (I 0)) fun F f2 => ?_
 refine PC.ret ?_
 have h0 := pz h0
 subst h0
 exact fin (.inr rfl) (j9 Try.results78 f2) (.u _)
 refine PC.condFb f8 hb4 ?_
 refine PC.skip ?_
 refine hK2 _ _ ?_
 refine A1 0 f0 fun F f0 => ?_
 refine PC.seq fun K6 hK6 => ?_
 refine SR fun K7 hK7 => ?_
 refine Q1 _ (jb f0) ?_
 refine Q1 _ (jh rfl (e_ (I a0)) (e_ (I 3)) j7) ?_
 refine Q1 _ (jb (e_ (B (decide (a0 = 3))))) ?_
 refine GF (I a0) rfl (e_ (B (decide (a0 = 3)))) (fun hb => jb f0) ?_
 refine GF (B (decide (a0 = 4))) rfl (e_ (B (decide (a0 = 3)))) (fun hb => jh rfl (gvp hb (e_ (gv (!(decide (a0 = 3))) (I a0)))) (e_ (I 4)) j7) ?_
 refine Q1 (B ((decide (a0 = 3)) || (decide (a0 = 4)))) (yf (e_ (B (decide (a0 = 3)))) rfl (e_ (gv (!(decide (a0 = 3))) (B (decide (a0 = 4)))))) ?_
 refine PL.nil (hK7 _ _ ?_)
 refine A2 0 f0 14 (e_ (B ((decide (a0 = 3)) || (decide (a0 = 4))))) fun F f0 f14 => ?_
 rcases cz h0 with ⟨hb8, h0⟩ | ⟨hb8, h0⟩
 refine PC.condTb f14 hb8 ?_
 refine SR fun K9 hK9 => ?_
 refine Q1 _ (jf (e_ (I 2))) ?_
 refine PL.nil (hK9 _ _ ?_)
 refine A1 2 (e_ (I 2)) fun F f2 => ?_
 refine PC.ret ?_
 have h0 := pz h0
 subst h0
 exact fin (.inr rfl) (j9 Try.results78 f2) (.u _)
 refine PC.condFb f14 hb8 ?_
 refine PC.skip ?_
 refine hK6 _ _ ?_
 refine A1 0 f0 fun F f0 => ?_
 refine PC.seq fun K10 hK10 => ?_
 refine SR fun K11 hK11 => ?_
 refine Q1 _ (jb f0) ?_
 refine Q1 _ (jh rfl (e_ (I a0)) (e_ (I 5)) j7) ?_
 refine Q1 _ (jb (e_ (B (decide (a0 = 5))))) ?_
 refine GF (I a0) rfl (e_ (B (decide (a0 = 5)))) (fun hb => jb f0) ?_
 refine GF (B (decide (a0 = 6))) rfl (e_ (B (decide (a0 = 5)))) (fun hb => jh rfl (gvp hb (e_ (gv (!(decide (a0 = 5))) (I a0)))) (e_ (I 6)) j7) ?_
 refine Q1 (B ((decide (a0 = 5)) || (decide (a0 = 6)))) (yf (e_ (B (decide (a0 = 5)))) rfl (e_ (gv (!(decide (a0 = 5))) (B (decide (a0 = 6)))))) ?_
 refine Q1 _ (jb (e_ (B ((decide (a0 = 5)) || (decide (a0 = 6)))))) ?_
 refine GF (I a0) rfl (e_ (B ((decide (a0 = 5)) || (decide (a0 = 6))))) (fun hb => jb f0) ?_
 refine GF (B (decide (a0 = 7))) rfl (e_ (B ((decide (a0 = 5)) || (decide (a0 = 6))))) (fun hb => jh rfl (gvp hb (e_ (gv (!((decide (a0 = 5)) || (decide (a0 = 6)))) (I a0)))) (e_ (I 7)) j7) ?_
 refine Q1 (B (((decide (a0 = 5)) || (decide (a0 = 6))) || (decide (a0 = 7)))) (yf (e_ (B ((decide (a0 = 5)) || (decide (a0 = 6))))) rfl (e_ (gv (!((decide (a0 = 5)) || (decide (a0 = 6)))) (B (decide (a0 = 7)))))) ?_
 refine PL.nil (hK11 _ _ ?_)
 refine A1 24 (e_ (B (((decide (a0 = 5)) || (decide (a0 = 6))) || (decide (a0 = 7))))) fun F f24 => ?_
 rcases cz h0 with ⟨hb12, h0⟩ | ⟨hb12, h0⟩
 refine PC.condTb f24 hb12 ?_
 refine SR fun K13 hK13 => ?_
 refine Q1 _ (jf (e_ (I 1))) ?_
 refine PL.nil (hK13 _ _ ?_)
 refine A1 2 (e_ (I 1)) fun F f2 => ?_
 refine PC.ret ?_
 have h0 := pz h0
 subst h0
 exact fin (.inr rfl) (j9 Try.results78 f2) (.u _)
 refine PC.condFb f24 hb12 ?_
 refine PC.skip ?_
 refine hK10 _ _ ?_
 refine PC.absF (fun F => True) trivial ?_
 intro F hI
 clear hI
 refine SR fun K14 hK14 => ?_
 refine Q1 _ (jf (e_ (I (-1)))) ?_
 refine PL.nil (hK14 _ _ ?_)
 refine A1 2 (e_ (I (-1))) fun F f2 => ?_
 refine PC.ret ?_
 have h0 := pz h0
 subst h0
 exact fin (.inr rfl) (j9 Try.results78 f2) (.u _)
def Qi (a0 : (List jo)) : G Int :=
  G.cond (decide (512 < (a0.length : Int))) (G.pure 4) (G.bind (G.loop (σ := (Int × Int)) (α := Int ⊕ Int) (fun (x11, x12) => G.cond (decide (x12 < (a0.length : Int))) (G.bind (G.lift (idx a0 x12)) fun x23 => G.bind (zaq x23.jq) fun x24 => G.bind (G.cond (!(decide (x24 < 0))) (G.lift (idx a0 x12)) (G.pure (⟨0, (arZ 4 0)⟩))) fun x27 => G.bind (G.cond ((!(decide (x24 < 0))) && (decide (¬ x27.jq = 1))) (G.lift (idx a0 x12)) (G.pure (⟨0, (arZ 4 0)⟩))) fun x28 => G.cond ((decide (x24 < 0)) || ((decide (¬ x27.jq = 1)) && (!(x28.Q0.1 == (arZ 4 0).1)))) (G.pure (.inr (.inr 1))) (G.cond (decide (x11 < x24)) (G.pure (.inr (.inr 3))) (G.pure (.inl ((w64 ((w64 (x11 - x24)) + 1)), (w64 (x12 + 1))))))) (G.pure (.inr (.inl x11)))) (0, 0)) fun o => match o with | .inl x40 => G.cond (decide (¬ x40 = 1)) (G.pure 3) (G.pure 0) | .inr r46 => G.pure r46)
theorem Yh {nn : Nat} {a0 : (List jo)} {r : Int} (h0 : Qi a0 nn = some r) : PCall Try.prog 55 [ja a0] (· = I r) := by
 unfold Qi at h0
 refine PCall.intro' Try.func55 rfl Try.ntmps55 (by simp) fun W => ?_
 refine A1 0 (e_ (ja a0)) fun F f0 => ?_
 generalize PHeap.empty = H
 refine SR fun K1 hK1 => ?_
 refine Q1 _ (jf (e_ (I 0))) ?_
 refine PL.nil (hK1 _ _ ?_)
 refine A1 0 f0 fun F f0 => ?_
 refine PC.seq fun K2 hK2 => ?_
 refine SR fun K3 hK3 => ?_
 refine Q1 _ (jb f0) ?_
 refine Q1 (I (a0.length : Int)) (qg (rep := jr) (xs := a0) Jj (e_ (ja a0))) ?_
 refine Q1 _ (jh rfl (e_ (I (a0.length : Int))) (e_ (I 512)) J4) ?_
 refine PL.nil (hK3 _ _ ?_)
 refine A2 0 f0 8 (e_ (B (decide (512 < (a0.length : Int))))) fun F f0 f8 => ?_
 rcases cz h0 with ⟨hb4, h0⟩ | ⟨hb4, h0⟩
 refine PC.condTb f8 hb4 ?_
 refine SR fun K5 hK5 => ?_
 refine Q1 _ (jf (e_ (I 4))) ?_
 refine PL.nil (hK5 _ _ ?_)
 refine A1 2 (e_ (I 4)) fun F f2 => ?_
 refine PC.ret ?_
 have h0 := pz h0
 subst h0
 exact fin (.inr rfl) (j9 Try.results55 f2) (.u _)
 refine PC.condFb f8 hb4 ?_
 refine PC.skip ?_
 refine hK2 _ _ ?_
 refine A1 0 f0 fun F f0 => ?_
 refine SR fun K6 hK6 => ?_
 refine Q1 _ (jf (e_ (I 0))) ?_
 refine PL.nil (hK6 _ _ ?_)
 refine A2 0 f0 3 (e_ (I 0)) fun F f0 f3 => ?_
 refine PC.seq fun K7 hK7 => ?_
 refine SR fun K8 hK8 => ?_
 refine Q1 _ (jf (e_ (I 0))) ?_
 refine PL.nil (hK8 _ _ ?_)
 refine A3 0 f0 3 f3 4 (e_ (I 0)) fun F f0 f3 f4 => ?_
 refine PC.block ?_
 obtain ⟨o13, ho13, h0⟩ := bs h0
 obtain ⟨B14, hB14, ho13⟩ := G.loop_some ho13
 refine PC.loop (fun m17 F H => ∃ s47 : (Int × Int), qw B14 m17 s47 = some o13 ∧ F 0 = (ja a0) ∧ F 3 = (I s47.1) ∧ F 4 = (I s47.2)) (m := nn) ⟨(0, 0), ho13, f0, f3, f4⟩ fun m17 F H hI => ?_
 obtain ⟨⟨x11, x12⟩, ho13, f0, f3, f4⟩ := hI
 obtain ⟨m17, rfl, st15, hs16, ho13⟩ := jw ho13
 rw [hB14] at hs16
 try dsimp only at hs16
 refine PC.seq fun K18 hK18 => ?_
 refine SR fun K19 hK19 => ?_
 refine Q1 _ (jb f4) ?_
 refine Q1 _ (jb f0) ?_
 refine Q1 (I (a0.length : Int)) (qg (rep := jr) (xs := a0) Jj (e_ (ja a0))) ?_
 refine Q1 _ (jh rfl (e_ (I x12)) (e_ (I (a0.length : Int))) jv) ?_
 refine PL.nil (hK19 _ _ ?_)
 refine A4 0 f0 3 f3 4 f4 12 (e_ (B (decide (x12 < (a0.length : Int))))) fun F f0 f3 f4 f12 => ?_
 rcases cz hs16 with ⟨hb20, hs16⟩ | ⟨hb20, hs16⟩
 refine PC.condTb f12 hb20 ?_
 refine PC.skip ?_
 refine hK18 _ _ ?_
 refine A3 0 f0 3 f3 4 f4 fun F f0 f3 f4 => ?_
 refine PC.seq fun K21 hK21 => ?_
 refine PC.block ?_
 refine SR fun K22 hK22 => ?_
 refine Q1 _ (jb f0) ?_
 refine Q1 _ (jb f4) ?_
 obtain ⟨x23, hx23, hs16⟩ := bs hs16
 refine Q1 (PV.rp (jr x23).cells) (j1 (rep := jr) (xs := a0) Yw (e_ (ja a0)) (e_ (I x12)) hx23) ?_
 refine Q1 (PV.rp ((jr x23).cells.drop 0)) (j8 Ya Qf (by decide) (e_ (PV.rp (jr x23).cells))) ?_
 refine Q1 (I x23.jq) (jx Qf (e_ (PV.rp ((jr x23).cells.drop 0))) (zr x23)) ?_
 obtain ⟨x24, hx24, hs16⟩ := bs hs16
 refine Q3 (I x24) (j0 (by kernel_rfl) (am (e_ (I x23.jq)) (am0)) (js (.u _) (j2)) (zea hx24)) ?_
 refine Q1 _ (jf (e_ (I x24))) ?_
 refine PL.nil (hK22 _ _ ?_)
 refine A4 0 f0 3 f3 4 f4 5 (e_ (I x24)) fun F f0 f3 f4 f5 => ?_
 refine PC.seq fun K25 hK25 => ?_
 refine SR fun K26 hK26 => ?_
 refine Q1 _ (jb f5) ?_
 refine Q1 _ (jh rfl (e_ (I x24)) (e_ (I 0)) jv) ?_
 refine Q1 _ (jb (e_ (B (decide (x24 < 0))))) ?_
 refine GF (ja a0) rfl (e_ (B (decide (x24 < 0)))) (fun hb => jb f0) ?_
 refine GF (I x12) rfl (e_ (B (decide (x24 < 0)))) (fun hb => jb f4) ?_
 obtain ⟨x27, hx27, hs16⟩ := bs hs16
 refine GF (PV.rp (jr x27).cells) rfl (e_ (B (decide (x24 < 0)))) (fun hb => j1 (rep := jr) (xs := a0) Yw (gvp hb (e_ (gv (!(decide (x24 < 0))) (ja a0)))) (gvp hb (e_ (gv (!(decide (x24 < 0))) (I x12)))) (G.cond_pos hx27 hb)) ?_
 refine GF (PV.rp ((jr x27).cells.drop 0)) rfl (e_ (B (decide (x24 < 0)))) (fun hb => j8 Ya Qf (by decide) (gvp hb (e_ (gv (!(decide (x24 < 0))) (PV.rp (jr x27).cells))))) ?_
 refine GF (I x27.jq) rfl (e_ (B (decide (x24 < 0)))) (fun hb => jx Qf (gvp hb (e_ (gv (!(decide (x24 < 0))) (PV.rp ((jr x27).cells.drop 0))))) (zr x27)) ?_
 refine GF (B (decide (¬ x27.jq = 1))) rfl (e_ (B (decide (x24 < 0)))) (fun hb => jh rfl (gvp hb (e_ (gv (!(decide (x24 < 0))) (I x27.jq)))) (e_ (I 1)) yc) ?_
 refine GF (B (decide (¬ x27.jq = 1))) rfl (e_ (B (decide (x24 < 0)))) (fun hb => jb (gvp hb (e_ (gv (!(decide (x24 < 0))) (B (decide (¬ x27.jq = 1))))))) ?_
 refine PL.gq (p := (ja a0)) (c := (!(decide (x24 < 0)))) (c' := ((!(decide (x24 < 0))) && (decide (¬ x27.jq = 1)))) rfl rfl (e_ (gv (!(decide (x24 < 0))) (B (decide (¬ x27.jq = 1))))) (Jo _ _) (j4 (by decide)) (fun hb => ju (jb f0)) ?_
 refine PL.gq (p := (I x12)) (c := (!(decide (x24 < 0)))) (c' := ((!(decide (x24 < 0))) && (decide (¬ x27.jq = 1)))) rfl rfl (e_ (gv (!(decide (x24 < 0))) (B (decide (¬ x27.jq = 1))))) (Jo _ _) (j4 (by decide)) (fun hb => ju (jb f4)) ?_
 obtain ⟨x28, hx28, hs16⟩ := bs hs16
 refine PL.gq (p := (PV.rp (jr x28).cells)) (c := (!(decide (x24 < 0)))) (c' := ((!(decide (x24 < 0))) && (decide (¬ x27.jq = 1)))) rfl rfl (e_ (gv (!(decide (x24 < 0))) (B (decide (¬ x27.jq = 1))))) (Jo _ _) (j4 (by decide)) (fun hb => ju (j1 (rep := jr) (xs := a0) Yw (gvp hb (e_ (gv ((!(decide (x24 < 0))) && (decide (¬ x27.jq = 1))) (ja a0)))) (gvp hb (e_ (gv ((!(decide (x24 < 0))) && (decide (¬ x27.jq = 1))) (I x12)))) (G.cond_pos hx28 hb))) ?_
 refine PL.gq (p := (PV.rp ((jr x28).cells.drop 1))) (c := (!(decide (x24 < 0)))) (c' := ((!(decide (x24 < 0))) && (decide (¬ x27.jq = 1)))) rfl rfl (e_ (gv (!(decide (x24 < 0))) (B (decide (¬ x27.jq = 1))))) (Jo _ _) (j4 (by decide)) (fun hb => ju (j8 zj3 qy (by decide) (gvp hb (e_ (gv ((!(decide (x24 < 0))) && (decide (¬ x27.jq = 1))) (PV.rp (jr x28).cells)))))) ?_
 refine PL.gq (p := ((arV (n := 4) (iK .u64)) x28.Q0)) (c := (!(decide (x24 < 0)))) (c' := ((!(decide (x24 < 0))) && (decide (¬ x27.jq = 1)))) rfl rfl (e_ (gv (!(decide (x24 < 0))) (B (decide (¬ x27.jq = 1))))) (Jo _ _) (j4 (by decide)) (fun hb => ju (jx qy (gvp hb (e_ (gv ((!(decide (x24 < 0))) && (decide (¬ x27.jq = 1))) (PV.rp ((jr x28).cells.drop 1))))) (zde x28))) ?_
 refine PL.gq (p := ((arV (n := 4) (iK .u64)) (arZ 4 0))) (c := (!(decide (x24 < 0)))) (c' := ((!(decide (x24 < 0))) && (decide (¬ x27.jq = 1)))) rfl rfl (e_ (gv (!(decide (x24 < 0))) (B (decide (¬ x27.jq = 1))))) (Jo _ _) (j4 (by decide)) (fun hb => ju (Jg (bm0) (by kernel_rfl))) ?_
 refine PL.gq (p := (B (!(x28.Q0.1 == (arZ 4 0).1)))) (c := (!(decide (x24 < 0)))) (c' := ((!(decide (x24 < 0))) && (decide (¬ x27.jq = 1)))) rfl rfl (e_ (gv (!(decide (x24 < 0))) (B (decide (¬ x27.jq = 1))))) (Jo _ _) (j4 (by decide)) (fun hb => ar_neq (e := 80) (kd := .u64) (rep := (iK .u64)) (fun _ => rfl) (by kernel_rfl) (by kernel_rfl) (fun _ => by kernel_rfl) (by kernel_rfl) x28.Q0 (arZ 4 0) (gvp hb (e_ (gv ((!(decide (x24 < 0))) && (decide (¬ x27.jq = 1))) ((arV (n := 4) (iK .u64)) x28.Q0)))) (gvp hb (e_ (gv ((!(decide (x24 < 0))) && (decide (¬ x27.jq = 1))) ((arV (n := 4) (iK .u64)) (arZ 4 0)))))) ?_
 refine GF (B ((decide (¬ x27.jq = 1)) && (!(x28.Q0.1 == (arZ 4 0).1)))) rfl (e_ (B (decide (x24 < 0)))) (fun hb => Vx hb (gvp hb (e_ (gv (!(decide (x24 < 0))) (B (decide (¬ x27.jq = 1)))))) (e_ (gv ((!(decide (x24 < 0))) && (decide (¬ x27.jq = 1))) (B (!(x28.Q0.1 == (arZ 4 0).1))))) rfl) ?_
 refine Q1 (B ((decide (x24 < 0)) || ((decide (¬ x27.jq = 1)) && (!(x28.Q0.1 == (arZ 4 0).1))))) (yf (e_ (B (decide (x24 < 0)))) rfl (e_ (gv (!(decide (x24 < 0))) (B ((decide (¬ x27.jq = 1)) && (!(x28.Q0.1 == (arZ 4 0).1))))))) ?_
 refine PL.nil (hK26 _ _ ?_)
 refine A5 0 f0 3 f3 4 f4 5 f5 39 (e_ (B ((decide (x24 < 0)) || ((decide (¬ x27.jq = 1)) && (!(x28.Q0.1 == (arZ 4 0).1)))))) fun F f0 f3 f4 f5 f39 => ?_
 rcases cz hs16 with ⟨hb29, hs16⟩ | ⟨hb29, hs16⟩
 refine PC.condTb f39 hb29 ?_
 refine SR fun K30 hK30 => ?_
 refine Q1 _ (jf (e_ (I 1))) ?_
 refine PL.nil (hK30 _ _ ?_)
 refine A1 2 (e_ (I 1)) fun F f2 => ?_
 have hs16 := pz hs16
 subst hs16
 try dsimp only at ho13
 subst ho13
 try dsimp only at h0
 refine PC.ret ?_
 have h0 := pz h0
 subst h0
 exact fin (.inr rfl) (j9 Try.results55 f2) (.u _)
 refine PC.condFb f39 hb29 ?_
 refine PC.skip ?_
 refine hK25 _ _ ?_
 refine A4 0 f0 3 f3 4 f4 5 f5 fun F f0 f3 f4 f5 => ?_
 refine PC.seq fun K31 hK31 => ?_
 refine SR fun K32 hK32 => ?_
 refine Q1 _ (jb f3) ?_
 refine Q1 _ (jb f5) ?_
 refine Q1 _ (jh rfl (e_ (I x11)) (e_ (I x24)) jv) ?_
 refine PL.nil (hK32 _ _ ?_)
 refine A5 0 f0 3 f3 4 f4 5 f5 42 (e_ (B (decide (x11 < x24)))) fun F f0 f3 f4 f5 f42 => ?_
 rcases cz hs16 with ⟨hb33, hs16⟩ | ⟨hb33, hs16⟩
 refine PC.condTb f42 hb33 ?_
 refine SR fun K34 hK34 => ?_
 refine Q1 _ (jf (e_ (I 3))) ?_
 refine PL.nil (hK34 _ _ ?_)
 refine A1 2 (e_ (I 3)) fun F f2 => ?_
 have hs16 := pz hs16
 subst hs16
 try dsimp only at ho13
 subst ho13
 try dsimp only at h0
 refine PC.ret ?_
 have h0 := pz h0
 subst h0
 exact fin (.inr rfl) (j9 Try.results55 f2) (.u _)
 refine PC.condFb f42 hb33 ?_
 refine PC.skip ?_
 refine hK31 _ _ ?_
 refine A4 0 f0 3 f3 4 f4 5 f5 fun F f0 f3 f4 f5 => ?_
 refine PC.region ?_
 refine Q1 _ (jb f3) ?_
 refine Q1 _ (jb f5) ?_
 refine Q1 _ (jh rfl (e_ (I x11)) (e_ (I x24)) Jb) ?_
 refine Q1 _ (jh rfl (e_ (I (w64 (x11 - x24)))) (e_ (I 1)) j3) ?_
 refine Q1 _ (jf (e_ (I (w64 ((w64 (x11 - x24)) + 1))))) ?_
 refine PL.nil (hK21 _ _ ?_)
 refine A3 0 f0 3 (e_ (I (w64 ((w64 (x11 - x24)) + 1)))) 4 f4 fun F f0 f3 f4 => ?_
 refine PC.region ?_
 refine Q1 _ (jb f4) ?_
 refine Q1 _ (jh rfl (e_ (I x12)) (e_ (I 1)) j3) ?_
 refine Q1 _ (jf (e_ (I (w64 (x12 + 1))))) ?_
 refine PL.nil ?_
 have hs16 := pz hs16
 subst hs16
 exact ⟨m17, Nat.lt_succ_self _, ((w64 ((w64 (x11 - x24)) + 1)), (w64 (x12 + 1))), ho13, f0, f3, (e_ (I (w64 (x12 + 1))))⟩
 refine PC.condFb f12 hb20 ?_
 refine PC.exit ?_
 have hs16 := pz hs16
 subst hs16
 try dsimp only at ho13
 subst ho13
 try dsimp only at h0
 refine hK7 _ _ ?_
 refine A1 3 f3 fun F f3 => ?_
 refine PC.seq fun K35 hK35 => ?_
 refine SR fun K36 hK36 => ?_
 refine Q1 _ (jb f3) ?_
 refine Q1 _ (jh rfl (e_ (I x11)) (e_ (I 1)) yc) ?_
 refine PL.nil (hK36 _ _ ?_)
 refine A1 48 (e_ (B (decide (¬ x11 = 1)))) fun F f48 => ?_
 rcases cz h0 with ⟨hb37, h0⟩ | ⟨hb37, h0⟩
 refine PC.condTb f48 hb37 ?_
 refine SR fun K38 hK38 => ?_
 refine Q1 _ (jf (e_ (I 3))) ?_
 refine PL.nil (hK38 _ _ ?_)
 refine A1 2 (e_ (I 3)) fun F f2 => ?_
 refine PC.ret ?_
 have h0 := pz h0
 subst h0
 exact fin (.inr rfl) (j9 Try.results55 f2) (.u _)
 refine PC.condFb f48 hb37 ?_
 refine PC.skip ?_
 refine hK35 _ _ ?_
 refine PC.absF (fun F => True) trivial ?_
 intro F hI
 clear hI
 refine SR fun K39 hK39 => ?_
 refine Q1 _ (jf (e_ (I 0))) ?_
 refine PL.nil (hK39 _ _ ?_)
 refine A1 2 (e_ (I 0)) fun F f2 => ?_
 refine PC.ret ?_
 have h0 := pz h0
 subst h0
 exact fin (.inr rfl) (j9 Try.results55 f2) (.u _)
def Yn (a0 : (List jo)) : G (List (Arr 4 Int)) :=
  G.bind (Qi a0) fun x7 => G.cond (decide (¬ x7 = 0)) (G.pure []) (G.bind (G.loop (σ := (Int × (List (Arr 4 Int)))) (α := (List (Arr 4 Int))) (fun (x16, x17) => G.cond (decide (x16 < (a0.length : Int))) (G.bind (α := (List (Arr 4 Int))) (G.bind (G.lift (idx a0 x16)) fun x32 => G.cond (decide (x32.jq = 1)) (G.bind (G.lift (idx a0 x16)) fun x34 => G.bind (G.lift (app 32 x17 ([x34.Q0] : List (Arr 4 Int)))) fun x35 => G.pure x35) (G.pure x17)) fun x29 => G.pure (.inl ((w64 (x16 + 1)), x29))) (G.pure (.inr x17))) (0, [])) fun x41 => G.pure x41)
theorem zb9 {nn : Nat} {a0 : (List jo)} {r : (List (Arr 4 Int))} (h0 : Yn a0 nn = some r) : PCall Try.prog 41 [ja a0] (· = jg r) := by
 unfold Yn at h0
 refine PCall.intro' Try.func41 rfl Try.ntmps41 (by simp) fun W => ?_
 refine A1 0 (e_ (ja a0)) fun F f0 => ?_
 generalize PHeap.empty = H
 refine SR fun K1 hK1 => ?_
 refine Q1 (PV.u (.slice none 0 0)) (jf rfl) ?_
 have o1002 : ownL 82 4 (arV (n := 4) (iK .u64)) H 1002 (PV.u (.slice none 0 0)) [] := ownL.nil _ _
 refine PL.nil (hK1 _ _ ?_)
 refine A1 0 f0 fun F f0 => ?_
 refine SR fun K2 hK2 => ?_
 refine PL.litO (rep := (arV (n := 4) (iK .u64))) (xs := []) 1002 rfl rfl rfl (by decide) zbs rfl (by decide) (bm0) rfl rfl fun q3 H o1002 fz4 => ?_
 refine Q1 _ (jf (e_ q3)) ?_
 refine PL.nil (hK2 _ _ ?_)
 refine A2 0 f0 3 (e_ q3) fun F f0 f3 => ?_
 refine PC.seq fun K5 hK5 => ?_
 refine SR fun K6 hK6 => ?_
 refine Q1 _ (jb f0) ?_
 obtain ⟨x7, hx7, h0⟩ := bs h0
 refine Q3 (I x7) (j0 (by kernel_rfl) (am (e_ (ja a0)) (am0)) (js (jt _) (j2)) (Yh hx7)) ?_
 refine Q1 _ (jh rfl (e_ (I x7)) (e_ (I 0)) yc) ?_
 refine PL.nil (hK6 _ _ ?_)
 refine A3 0 f0 3 f3 8 (e_ (B (decide (¬ x7 = 0)))) fun F f0 f3 f8 => ?_
 rcases cz h0 with ⟨hb8, h0⟩ | ⟨hb8, h0⟩
 refine PC.condTb f8 hb8 ?_
 refine SR fun K9 hK9 => ?_
 refine Q1 _ (jb f3) ?_
 refine Q1 _ (jf (e_ q3)) ?_
 refine PL.nil (hK9 _ _ ?_)
 refine A1 2 (e_ q3) fun F f2 => ?_
 refine PC.freezeL (rep := (arV (n := 4) (iK .u64))) 2 f2 o1002 (fun _ => (jj _ _ (fun _ => rfl))) fun H fz10 => ?_
 refine PC.ret ?_
 have h0 := pz h0
 subst h0
 exact fin (.inr rfl) (j9 Try.results41 (e_ (jg []))) (vq _)
 refine PC.condFb f8 hb8 ?_
 refine PC.skip ?_
 refine hK5 _ _ ?_
 refine A2 0 f0 3 f3 fun F f0 f3 => ?_
 refine PC.seq fun K11 hK11 => ?_
 refine SR fun K12 hK12 => ?_
 refine Q1 _ (jf (e_ (I 0))) ?_
 refine PL.nil (hK12 _ _ ?_)
 refine A3 0 f0 3 f3 4 (e_ (I 0)) fun F f0 f3 f4 => ?_
 refine PC.block ?_
 obtain ⟨o19, ho19, h0⟩ := bs h0
 obtain ⟨B20, hB20, ho19⟩ := G.loop_some ho19
 refine PC.loop (fun m23 F H => ∃ s45 : (Int × (List (Arr 4 Int))), ∃ q18, qw B20 m23 s45 = some o19 ∧ F 0 = (ja a0) ∧ F 3 = q18 ∧ F 4 = (I s45.1) ∧ ownL 82 4 (arV (n := 4) (iK .u64)) H 1002 q18 s45.2) (m := nn) ⟨(0, []), q3, ho19, f0, f3, f4, o1002⟩ fun m23 F H hI => ?_
 obtain ⟨⟨x16, x17⟩, q18, ho19, f0, f3, f4, o1002⟩ := hI
 obtain ⟨m23, rfl, st21, hs22, ho19⟩ := jw ho19
 rw [hB20] at hs22
 try dsimp only at hs22
 refine PC.seq fun K24 hK24 => ?_
 refine SR fun K25 hK25 => ?_
 refine Q1 _ (jb f4) ?_
 refine Q1 _ (jb f0) ?_
 refine Q1 (I (a0.length : Int)) (qg (rep := jr) (xs := a0) Jj (e_ (ja a0))) ?_
 refine Q1 _ (jh rfl (e_ (I x16)) (e_ (I (a0.length : Int))) jv) ?_
 refine PL.nil (hK25 _ _ ?_)
 refine A4 0 f0 3 f3 4 f4 13 (e_ (B (decide (x16 < (a0.length : Int))))) fun F f0 f3 f4 f13 => ?_
 rcases cz hs22 with ⟨hb26, hs22⟩ | ⟨hb26, hs22⟩
 refine PC.condTb f13 hb26 ?_
 refine PC.skip ?_
 refine hK24 _ _ ?_
 refine A3 0 f0 3 f3 4 f4 fun F f0 f3 f4 => ?_
 obtain ⟨o28, ho28, hs22⟩ := bs hs22
 refine PC.seqM (fun F H => ∃ s38 : (List (Arr 4 Int)), ∃ q30, o28 = s38 ∧ F 0 = (ja a0) ∧ F 3 = q30 ∧ F 4 = (I x16) ∧ ownL 82 4 (arV (n := 4) (iK .u64)) H 1002 q30 s38) ?_ ?_
 refine PC.block ?_
 refine SR fun K31 hK31 => ?_
 refine Q1 _ (jb f0) ?_
 refine Q1 _ (jb f4) ?_
 obtain ⟨x32, hx32, ho28⟩ := bs ho28
 refine Q1 (PV.rp (jr x32).cells) (j1 (rep := jr) (xs := a0) Yw (e_ (ja a0)) (e_ (I x16)) hx32) ?_
 refine Q1 (PV.rp ((jr x32).cells.drop 0)) (j8 Ya Qf (by decide) (e_ (PV.rp (jr x32).cells))) ?_
 refine Q1 (I x32.jq) (jx Qf (e_ (PV.rp ((jr x32).cells.drop 0))) (zr x32)) ?_
 refine Q1 _ (jh rfl (e_ (I x32.jq)) (e_ (I 1)) j7) ?_
 refine PL.nil (hK31 _ _ ?_)
 refine A4 0 f0 3 f3 4 f4 21 (e_ (B (decide (x32.jq = 1)))) fun F f0 f3 f4 f21 => ?_
 rcases cz ho28 with ⟨hb33, ho28⟩ | ⟨hb33, ho28⟩
 refine PC.condTb f21 hb33 ?_
 refine PC.region ?_
 refine Q1 _ (jb f3) ?_
 refine Q1 _ (jb f0) ?_
 refine Q1 _ (jb f4) ?_
 obtain ⟨x34, hx34, ho28⟩ := bs ho28
 refine Q1 (PV.rp (jr x34).cells) (j1 (rep := jr) (xs := a0) Yw (e_ (ja a0)) (e_ (I x16)) hx34) ?_
 refine Q1 (PV.rp ((jr x34).cells.drop 1)) (j8 zj3 qy (by decide) (e_ (PV.rp (jr x34).cells))) ?_
 refine Q1 ((arV (n := 4) (iK .u64)) x34.Q0) (jx qy (e_ (PV.rp ((jr x34).cells.drop 1))) (zde x34)) ?_
 refine Q3 (jg ([x34.Q0] : List (Arr 4 Int))) (yx (rep := (arV (n := 4) (iK .u64))) (xs := [x34.Q0]) zbs rfl (by decide) (bm (e_ ((arV (n := 4) (iK .u64)) x34.Q0)) (bm0)) (Vp (rep := (arV (n := 4) (iK .u64))) (xs := [x34.Q0]) rfl rfl (fun _ => (jj _ _ (fun _ => rfl))) (fun _ => (v8 _ _ _ (fun _ => rfl)))) rfl) ?_
 obtain ⟨x35, hx35, ho28⟩ := bs ho28
 refine PL.appG (rep := (arV (n := 4) (iK .u64))) (ys := ([x34.Q0] : List (Arr 4 Int))) rfl rfl rfl (by decide) zbs (e_ q18) o1002 (e_ (jg ([x34.Q0] : List (Arr 4 Int)))) (fun _ => (jj _ _ (fun _ => rfl))) (lfa (fun _ => zet _ _ _ (fun _ => rfl))) hx35 fun q36 H o1002 fz37 => ?_
 refine Q1 _ (jf (e_ q36)) ?_
 refine PL.nil ?_
 have ho28 := pz ho28
 subst ho28
 exact ⟨x35, q36, rfl, f0, (e_ q36), f4, o1002⟩
 refine PC.condFb f21 hb33 ?_
 refine PC.skip ?_
 have ho28 := pz ho28
 subst ho28
 exact ⟨x17, q18, rfl, f0, f3, f4, o1002⟩
 intro F H hI
 obtain ⟨x29, q30, ho, f0, f3, f4, o1002⟩ := hI
 have ho := ho.symm
 subst ho
 try dsimp only at hs22
 refine PC.region ?_
 refine Q1 _ (jb f4) ?_
 refine Q1 _ (jh rfl (e_ (I x16)) (e_ (I 1)) j3) ?_
 refine Q1 _ (jf (e_ (I (w64 (x16 + 1))))) ?_
 refine PL.nil ?_
 have hs22 := pz hs22
 subst hs22
 exact ⟨m23, Nat.lt_succ_self _, ((w64 (x16 + 1)), x29), q30, ho19, f0, f3, (e_ (I (w64 (x16 + 1)))), o1002⟩
 refine PC.condFb f13 hb26 ?_
 refine PC.exit ?_
 have hs22 := pz hs22
 subst hs22
 try dsimp only at ho19
 subst ho19
 try dsimp only at h0
 refine hK11 _ _ ?_
 refine A1 3 f3 fun F f3 => ?_
 refine SR fun K39 hK39 => ?_
 refine Q1 _ (jb f3) ?_
 refine Q1 _ (jf (e_ q18)) ?_
 refine PL.nil (hK39 _ _ ?_)
 refine A1 2 (e_ q18) fun F f2 => ?_
 refine PC.freezeL (rep := (arV (n := 4) (iK .u64))) 2 f2 o1002 (fun _ => (jj _ _ (fun _ => rfl))) fun H fz40 => ?_
 refine PC.ret ?_
 have h0 := pz h0
 subst h0
 exact fin (.inr rfl) (j9 Try.results41 (e_ (jg x17))) (vq _)
def Za (a0 : (List jo)) (a1 : Int) : G Int :=
  G.bind (G.loop (σ := (Int × Int)) (α := Int) (fun (x7, x8) => G.cond (decide (x8 < a1)) (G.bind (α := Int) (G.bind (G.lift (idx a0 x8)) fun x21 => G.cond (decide (x21.jq = 1)) (G.pure (w64 (x7 + 1))) (G.pure x7)) fun x19 => G.pure (.inl (x19, (w64 (x8 + 1))))) (G.pure (.inr x7))) (0, 0)) fun x25 => G.pure x25
theorem zeh {nn : Nat} {a0 : (List jo)} {a1 : Int} {r : Int} (h0 : Za a0 a1 nn = some r) : PCall Try.prog 79 [ja a0, I a1] (· = I r) := by
 unfold Za at h0
 refine PCall.intro' Try.func79 rfl Try.ntmps79 (by simp) fun W => ?_
 refine A2 0 (e_ (ja a0)) 1 (e_ (I a1)) fun F f0 f1 => ?_
 generalize PHeap.empty = H
 refine SR fun K1 hK1 => ?_
 refine Q1 _ (jf (e_ (I 0))) ?_
 refine PL.nil (hK1 _ _ ?_)
 refine A2 0 f0 1 f1 fun F f0 f1 => ?_
 refine SR fun K2 hK2 => ?_
 refine Q1 _ (jf (e_ (I 0))) ?_
 refine PL.nil (hK2 _ _ ?_)
 refine A3 0 f0 1 f1 5 (e_ (I 0)) fun F f0 f1 f5 => ?_
 refine PC.seq fun K3 hK3 => ?_
 refine SR fun K4 hK4 => ?_
 refine Q1 _ (jf (e_ (I 0))) ?_
 refine PL.nil (hK4 _ _ ?_)
 refine A4 0 f0 1 f1 5 f5 6 (e_ (I 0)) fun F f0 f1 f5 f6 => ?_
 refine PC.block ?_
 obtain ⟨o9, ho9, h0⟩ := bs h0
 obtain ⟨B10, hB10, ho9⟩ := G.loop_some ho9
 refine PC.loop (fun m13 F H => ∃ s27 : (Int × Int), qw B10 m13 s27 = some o9 ∧ F 0 = (ja a0) ∧ F 1 = (I a1) ∧ F 5 = (I s27.1) ∧ F 6 = (I s27.2)) (m := nn) ⟨(0, 0), ho9, f0, f1, f5, f6⟩ fun m13 F H hI => ?_
 obtain ⟨⟨x7, x8⟩, ho9, f0, f1, f5, f6⟩ := hI
 obtain ⟨m13, rfl, st11, hs12, ho9⟩ := jw ho9
 rw [hB10] at hs12
 try dsimp only at hs12
 refine PC.seq fun K14 hK14 => ?_
 refine SR fun K15 hK15 => ?_
 refine Q1 _ (jb f6) ?_
 refine Q1 _ (jb f1) ?_
 refine Q1 _ (jh rfl (e_ (I x8)) (e_ (I a1)) jv) ?_
 refine PL.nil (hK15 _ _ ?_)
 refine A5 0 f0 1 f1 5 f5 6 f6 9 (e_ (B (decide (x8 < a1)))) fun F f0 f1 f5 f6 f9 => ?_
 rcases cz hs12 with ⟨hb16, hs12⟩ | ⟨hb16, hs12⟩
 refine PC.condTb f9 hb16 ?_
 refine PC.skip ?_
 refine hK14 _ _ ?_
 refine A4 0 f0 1 f1 5 f5 6 f6 fun F f0 f1 f5 f6 => ?_
 obtain ⟨o18, ho18, hs12⟩ := bs hs12
 refine PC.seqM (fun F H => ∃ s23 : Int, o18 = s23 ∧ F 0 = (ja a0) ∧ F 1 = (I a1) ∧ F 5 = (I s23) ∧ F 6 = (I x8)) ?_ ?_
 refine PC.block ?_
 refine SR fun K20 hK20 => ?_
 refine Q1 _ (jb f0) ?_
 refine Q1 _ (jb f6) ?_
 obtain ⟨x21, hx21, ho18⟩ := bs ho18
 refine Q1 (PV.rp (jr x21).cells) (j1 (rep := jr) (xs := a0) Yw (e_ (ja a0)) (e_ (I x8)) hx21) ?_
 refine Q1 (PV.rp ((jr x21).cells.drop 0)) (j8 Ya Qf (by decide) (e_ (PV.rp (jr x21).cells))) ?_
 refine Q1 (I x21.jq) (jx Qf (e_ (PV.rp ((jr x21).cells.drop 0))) (zr x21)) ?_
 refine Q1 _ (jh rfl (e_ (I x21.jq)) (e_ (I 1)) j7) ?_
 refine PL.nil (hK20 _ _ ?_)
 refine A5 0 f0 1 f1 5 f5 6 f6 17 (e_ (B (decide (x21.jq = 1)))) fun F f0 f1 f5 f6 f17 => ?_
 rcases cz ho18 with ⟨hb22, ho18⟩ | ⟨hb22, ho18⟩
 refine PC.condTb f17 hb22 ?_
 refine PC.region ?_
 refine Q1 _ (jb f5) ?_
 refine Q1 _ (jh rfl (e_ (I x7)) (e_ (I 1)) j3) ?_
 refine Q1 _ (jf (e_ (I (w64 (x7 + 1))))) ?_
 refine PL.nil ?_
 have ho18 := pz ho18
 subst ho18
 exact ⟨(w64 (x7 + 1)), rfl, f0, f1, (e_ (I (w64 (x7 + 1)))), f6⟩
 refine PC.condFb f17 hb22 ?_
 refine PC.skip ?_
 have ho18 := pz ho18
 subst ho18
 exact ⟨x7, rfl, f0, f1, f5, f6⟩
 intro F H hI
 obtain ⟨x19, ho, f0, f1, f5, f6⟩ := hI
 have ho := ho.symm
 subst ho
 try dsimp only at hs12
 refine PC.region ?_
 refine Q1 _ (jb f6) ?_
 refine Q1 _ (jh rfl (e_ (I x8)) (e_ (I 1)) j3) ?_
 refine Q1 _ (jf (e_ (I (w64 (x8 + 1))))) ?_
 refine PL.nil ?_
 have hs12 := pz hs12
 subst hs12
 exact ⟨m13, Nat.lt_succ_self _, (x19, (w64 (x8 + 1))), ho9, f0, f1, f5, (e_ (I (w64 (x8 + 1))))⟩
 refine PC.condFb f9 hb16 ?_
 refine PC.exit ?_
 have hs12 := pz hs12
 subst hs12
 try dsimp only at ho9
 subst ho9
 try dsimp only at h0
 refine hK3 _ _ ?_
 refine A1 5 f5 fun F f5 => ?_
 refine SR fun K24 hK24 => ?_
 refine Q1 _ (jb f5) ?_
 refine Q1 _ (jf (e_ (I x7))) ?_
 refine PL.nil (hK24 _ _ ?_)
 refine A1 4 (e_ (I x7)) fun F f4 => ?_
 refine PC.ret ?_
 have h0 := pz h0
 subst h0
 exact fin (.inr rfl) (j9 Try.results79 f4) (.u _)
def J6 : Nat → (List jo) → Int → G Int
  | 0, _, _ => fun _ => none
  | m + 1, a0, a1 => G.cond ((decide (a1 < 0)) || (decide ((a0.length : Int) ≤ a1))) (G.pure (-1)) (G.bind (G.lift (idx a0 a1)) fun x7 => G.bind (zaq x7.jq) fun x8 => G.bind (G.loop (σ := (Int × Int)) (α := Int ⊕ Int) (fun (x14, x15) => G.cond (decide (x15 < x8)) (G.bind (J6 m a0 (w64 (x14 - 1))) fun x26 => G.cond (decide (x26 < 0)) (G.pure (.inr (.inr (-1)))) (G.pure (.inl (x26, (w64 (x15 + 1)))))) (G.pure (.inr (.inl x14)))) (a1, 0)) fun o => match o with | .inl x35 => G.cond (decide (x8 < 0)) (G.pure (-1)) (G.pure x35) | .inr r41 => G.pure r41)
theorem Yy : ∀ (m : Nat), (∀ (nn : Nat) (a0 : (List jo)) (a1 : Int) (r : Int), J6 m a0 a1 nn = some r → PCall Try.prog 80 [ja a0, I a1] (· = I r))
  | 0 => (fun _ _ _ _ h => by cases h)
  | m + 1 => by
   have ih0 : (∀ (nn : Nat) (a0 : (List jo)) (a1 : Int) (r : Int), J6 m a0 a1 nn = some r → PCall Try.prog 80 [ja a0, I a1] (· = I r)) := Yy m
   intro nn a0 a1 r h0
   unfold J6 at h0
   refine PCall.intro' Try.func80 rfl Try.ntmps80 (by simp) fun W => ?_
   refine A2 0 (e_ (ja a0)) 1 (e_ (I a1)) fun F f0 f1 => ?_
   generalize PHeap.empty = H
   refine SR fun K1 hK1 => ?_
   refine Q1 _ (jf (e_ (I 0))) ?_
   refine PL.nil (hK1 _ _ ?_)
   refine A2 0 f0 1 f1 fun F f0 f1 => ?_
   refine PC.seq fun K2 hK2 => ?_
   refine SR fun K3 hK3 => ?_
   refine Q1 _ (jb f1) ?_
   refine Q1 _ (jh rfl (e_ (I a1)) (e_ (I 0)) jv) ?_
   refine Q1 _ (jb (e_ (B (decide (a1 < 0))))) ?_
   refine GF (I a1) rfl (e_ (B (decide (a1 < 0)))) (fun hb => jb f1) ?_
   refine GF (ja a0) rfl (e_ (B (decide (a1 < 0)))) (fun hb => jb f0) ?_
   refine GF (I (a0.length : Int)) rfl (e_ (B (decide (a1 < 0)))) (fun hb => qg (rep := jr) (xs := a0) Jj (gvp hb (e_ (gv (!(decide (a1 < 0))) (ja a0))))) ?_
   refine GF (B (decide ((a0.length : Int) ≤ a1))) rfl (e_ (B (decide (a1 < 0)))) (fun hb => jh rfl (gvp hb (e_ (gv (!(decide (a1 < 0))) (I a1)))) (gvp hb (e_ (gv (!(decide (a1 < 0))) (I (a0.length : Int))))) vr) ?_
   refine Q1 (B ((decide (a1 < 0)) || (decide ((a0.length : Int) ≤ a1)))) (yf (e_ (B (decide (a1 < 0)))) rfl (e_ (gv (!(decide (a1 < 0))) (B (decide ((a0.length : Int) ≤ a1)))))) ?_
   refine PL.nil (hK3 _ _ ?_)
   refine A3 0 f0 1 f1 15 (e_ (B ((decide (a1 < 0)) || (decide ((a0.length : Int) ≤ a1))))) fun F f0 f1 f15 => ?_
   rcases cz h0 with ⟨hb4, h0⟩ | ⟨hb4, h0⟩
   refine PC.condTb f15 hb4 ?_
   refine SR fun K5 hK5 => ?_
   refine Q1 _ (jf (e_ (I (-1)))) ?_
   refine PL.nil (hK5 _ _ ?_)
   refine A1 4 (e_ (I (-1))) fun F f4 => ?_
   refine PC.ret ?_
   have h0 := pz h0
   subst h0
   exact fin (.inr rfl) (j9 Try.results80 f4) (.u _)
   refine PC.condFb f15 hb4 ?_
   refine PC.skip ?_
   refine hK2 _ _ ?_
   refine A2 0 f0 1 f1 fun F f0 f1 => ?_
   refine SR fun K6 hK6 => ?_
   refine Q1 _ (jb f0) ?_
   refine Q1 _ (jb f1) ?_
   obtain ⟨x7, hx7, h0⟩ := bs h0
   refine Q1 (PV.rp (jr x7).cells) (j1 (rep := jr) (xs := a0) Yw (e_ (ja a0)) (e_ (I a1)) hx7) ?_
   refine Q1 (PV.rp ((jr x7).cells.drop 0)) (j8 Ya Qf (by decide) (e_ (PV.rp (jr x7).cells))) ?_
   refine Q1 (I x7.jq) (jx Qf (e_ (PV.rp ((jr x7).cells.drop 0))) (zr x7)) ?_
   obtain ⟨x8, hx8, h0⟩ := bs h0
   refine Q3 (I x8) (j0 (by kernel_rfl) (am (e_ (I x7.jq)) (am0)) (js (.u _) (j2)) (zea hx8)) ?_
   refine Q1 _ (jf (e_ (I x8))) ?_
   refine PL.nil (hK6 _ _ ?_)
   refine A3 0 f0 1 f1 5 (e_ (I x8)) fun F f0 f1 f5 => ?_
   refine SR fun K9 hK9 => ?_
   refine Q1 _ (jb f1) ?_
   refine Q1 _ (jf (e_ (I a1))) ?_
   refine PL.nil (hK9 _ _ ?_)
   refine A3 0 f0 5 f5 6 (e_ (I a1)) fun F f0 f5 f6 => ?_
   refine PC.seq fun K10 hK10 => ?_
   refine SR fun K11 hK11 => ?_
   refine Q1 _ (jf (e_ (I 0))) ?_
   refine PL.nil (hK11 _ _ ?_)
   refine A4 0 f0 5 f5 6 f6 7 (e_ (I 0)) fun F f0 f5 f6 f7 => ?_
   refine PC.block ?_
   obtain ⟨o16, ho16, h0⟩ := bs h0
   obtain ⟨B17, hB17, ho16⟩ := G.loop_some ho16
   refine PC.loop (fun m20 F H => ∃ s42 : (Int × Int), qw B17 m20 s42 = some o16 ∧ F 0 = (ja a0) ∧ F 5 = (I x8) ∧ F 6 = (I s42.1) ∧ F 7 = (I s42.2)) (m := nn) ⟨(a1, 0), ho16, f0, f5, f6, f7⟩ fun m20 F H hI => ?_
   obtain ⟨⟨x14, x15⟩, ho16, f0, f5, f6, f7⟩ := hI
   obtain ⟨m20, rfl, st18, hs19, ho16⟩ := jw ho16
   rw [hB17] at hs19
   try dsimp only at hs19
   refine PC.seq fun K21 hK21 => ?_
   refine SR fun K22 hK22 => ?_
   refine Q1 _ (jb f7) ?_
   refine Q1 _ (jb f5) ?_
   refine Q1 _ (jh rfl (e_ (I x15)) (e_ (I x8)) jv) ?_
   refine PL.nil (hK22 _ _ ?_)
   refine A5 0 f0 5 f5 6 f6 7 f7 25 (e_ (B (decide (x15 < x8)))) fun F f0 f5 f6 f7 f25 => ?_
   rcases cz hs19 with ⟨hb23, hs19⟩ | ⟨hb23, hs19⟩
   refine PC.condTb f25 hb23 ?_
   refine PC.skip ?_
   refine hK21 _ _ ?_
   refine A4 0 f0 5 f5 6 f6 7 f7 fun F f0 f5 f6 f7 => ?_
   refine PC.seq fun K24 hK24 => ?_
   refine PC.block ?_
   refine SR fun K25 hK25 => ?_
   refine Q1 _ (jb f0) ?_
   refine Q1 _ (jb f6) ?_
   refine Q1 _ (jh rfl (e_ (I x14)) (e_ (I 1)) Jb) ?_
   obtain ⟨x26, hx26, hs19⟩ := bs hs19
   refine Q3 (I x26) (j0 (by kernel_rfl) (am (e_ (ja a0)) (am (e_ (I (w64 (x14 - 1)))) (am0))) (js (jt _) (js (.u _) (j2))) (ih0 _ _ _ _ hx26)) ?_
   refine Q1 _ (jf (e_ (I x26))) ?_
   refine PL.nil (hK25 _ _ ?_)
   refine A4 0 f0 5 f5 6 (e_ (I x26)) 7 f7 fun F f0 f5 f6 f7 => ?_
   refine SR fun K27 hK27 => ?_
   refine Q1 _ (jb f6) ?_
   refine Q1 _ (jh rfl (e_ (I x26)) (e_ (I 0)) jv) ?_
   refine PL.nil (hK27 _ _ ?_)
   refine A5 0 f0 5 f5 6 f6 7 f7 33 (e_ (B (decide (x26 < 0)))) fun F f0 f5 f6 f7 f33 => ?_
   rcases cz hs19 with ⟨hb28, hs19⟩ | ⟨hb28, hs19⟩
   refine PC.condTb f33 hb28 ?_
   refine SR fun K29 hK29 => ?_
   refine Q1 _ (jf (e_ (I (-1)))) ?_
   refine PL.nil (hK29 _ _ ?_)
   refine A1 4 (e_ (I (-1))) fun F f4 => ?_
   have hs19 := pz hs19
   subst hs19
   try dsimp only at ho16
   subst ho16
   try dsimp only at h0
   refine PC.ret ?_
   have h0 := pz h0
   subst h0
   exact fin (.inr rfl) (j9 Try.results80 f4) (.u _)
   refine PC.condFb f33 hb28 ?_
   refine PC.skip ?_
   refine hK24 _ _ ?_
   refine A4 0 f0 5 f5 6 f6 7 f7 fun F f0 f5 f6 f7 => ?_
   refine PC.region ?_
   refine Q1 _ (jb f7) ?_
   refine Q1 _ (jh rfl (e_ (I x15)) (e_ (I 1)) j3) ?_
   refine Q1 _ (jf (e_ (I (w64 (x15 + 1))))) ?_
   refine PL.nil ?_
   have hs19 := pz hs19
   subst hs19
   exact ⟨m20, Nat.lt_succ_self _, (x26, (w64 (x15 + 1))), ho16, f0, f5, f6, (e_ (I (w64 (x15 + 1))))⟩
   refine PC.condFb f25 hb23 ?_
   refine PC.exit ?_
   have hs19 := pz hs19
   subst hs19
   try dsimp only at ho16
   subst ho16
   try dsimp only at h0
   refine hK10 _ _ ?_
   refine A2 5 f5 6 f6 fun F f5 f6 => ?_
   refine PC.seq fun K30 hK30 => ?_
   refine SR fun K31 hK31 => ?_
   refine Q1 _ (jb f5) ?_
   refine Q1 _ (jh rfl (e_ (I x8)) (e_ (I 0)) jv) ?_
   refine PL.nil (hK31 _ _ ?_)
   refine A2 6 f6 35 (e_ (B (decide (x8 < 0)))) fun F f6 f35 => ?_
   rcases cz h0 with ⟨hb32, h0⟩ | ⟨hb32, h0⟩
   refine PC.condTb f35 hb32 ?_
   refine SR fun K33 hK33 => ?_
   refine Q1 _ (jf (e_ (I (-1)))) ?_
   refine PL.nil (hK33 _ _ ?_)
   refine A1 4 (e_ (I (-1))) fun F f4 => ?_
   refine PC.ret ?_
   have h0 := pz h0
   subst h0
   exact fin (.inr rfl) (j9 Try.results80 f4) (.u _)
   refine PC.condFb f35 hb32 ?_
   refine PC.skip ?_
   refine hK30 _ _ ?_
   refine A1 6 f6 fun F f6 => ?_
   refine SR fun K34 hK34 => ?_
   refine Q1 _ (jb f6) ?_
   refine Q1 _ (jf (e_ (I x14))) ?_
   refine PL.nil (hK34 _ _ ?_)
   refine A1 4 (e_ (I x14)) fun F f4 => ?_
   refine PC.ret ?_
   have h0 := pz h0
   subst h0
   exact fin (.inr rfl) (j9 Try.results80 f4) (.u _)
def Vy (a0 : (List jo)) (a1 : Int) : G Int := fun nn => J6 nn a0 a1 nn
theorem Yi {nn : Nat} {a0 : (List jo)} {a1 : Int} {r : Int} (h0 : Vy a0 a1 nn = some r) : PCall Try.prog 80 [ja a0, I a1] (· = I r) := (Yy nn) _ _ _ _ h0
def Jq : Nat → (List jo) → Int → G Bool
  | 0, _, _ => fun _ => none
  | m + 1, a0, a1 => G.bind (G.lift (idx a0 a1)) fun x3 => G.cond (decide (x3.jq = 1)) (G.pure false) (G.cond (((decide (x3.jq = 2)) || (decide (x3.jq = 5))) || (decide (x3.jq = 7))) (G.pure true) (G.bind (Jq m a0 (w64 (a1 - 1))) fun x13 => G.cond (decide (x3.jq = 6)) (G.pure x13) (G.bind (Vy a0 (w64 (a1 - 1))) fun x19 => G.bind (Jq m a0 (w64 (x19 - 1))) fun x20 => G.cond (decide (x3.jq = 3)) (G.pure (x20 && x13)) (G.pure (x20 || x13)))))
theorem Zf : ∀ (m : Nat), (∀ (nn : Nat) (a0 : (List jo)) (a1 : Int) (r : Bool), Jq m a0 a1 nn = some r → PCall Try.prog 81 [ja a0, I a1] (· = B r))
  | 0 => (fun _ _ _ _ h => by cases h)
  | m + 1 => by
   have ih0 : (∀ (nn : Nat) (a0 : (List jo)) (a1 : Int) (r : Bool), Jq m a0 a1 nn = some r → PCall Try.prog 81 [ja a0, I a1] (· = B r)) := Zf m
   intro nn a0 a1 r h0
   unfold Jq at h0
   refine PCall.intro' Try.func81 rfl Try.ntmps81 (by simp) fun W => ?_
   refine A2 0 (e_ (ja a0)) 1 (e_ (I a1)) fun F f0 f1 => ?_
   generalize PHeap.empty = H
   refine SR fun K1 hK1 => ?_
   refine Q1 _ (jf (e_ (B false))) ?_
   refine PL.nil (hK1 _ _ ?_)
   refine A2 0 f0 1 f1 fun F f0 f1 => ?_
   refine SR fun K2 hK2 => ?_
   refine Q1 _ (jb f0) ?_
   refine Q1 _ (jb f1) ?_
   obtain ⟨x3, hx3, h0⟩ := bs h0
   refine Q1 (PV.rp (jr x3).cells) (j1 (rep := jr) (xs := a0) Yw (e_ (ja a0)) (e_ (I a1)) hx3) ?_
   refine Q1 (PV.rp ((jr x3).cells.drop 0)) (j8 Ya Qf (by decide) (e_ (PV.rp (jr x3).cells))) ?_
   refine Q1 (I x3.jq) (jx Qf (e_ (PV.rp ((jr x3).cells.drop 0))) (zr x3)) ?_
   refine Q1 _ (jf (e_ (I x3.jq))) ?_
   refine PL.nil (hK2 _ _ ?_)
   refine A3 0 f0 1 f1 5 (e_ (I x3.jq)) fun F f0 f1 f5 => ?_
   refine PC.seq fun K4 hK4 => ?_
   refine SR fun K5 hK5 => ?_
   refine Q1 _ (jb f5) ?_
   refine Q1 _ (jh rfl (e_ (I x3.jq)) (e_ (I 1)) j7) ?_
   refine PL.nil (hK5 _ _ ?_)
   refine A4 0 f0 1 f1 5 f5 14 (e_ (B (decide (x3.jq = 1)))) fun F f0 f1 f5 f14 => ?_
   rcases cz h0 with ⟨hb6, h0⟩ | ⟨hb6, h0⟩
   refine PC.condTb f14 hb6 ?_
   refine SR fun K7 hK7 => ?_
   refine Q1 _ (jf (e_ (B false))) ?_
   refine PL.nil (hK7 _ _ ?_)
   refine A1 4 (e_ (B false)) fun F f4 => ?_
   refine PC.ret ?_
   have h0 := pz h0
   subst h0
   exact fin (.inr rfl) (j9 Try.results81 f4) (.u _)
   refine PC.condFb f14 hb6 ?_
   refine PC.skip ?_
   refine hK4 _ _ ?_
   refine A3 0 f0 1 f1 5 f5 fun F f0 f1 f5 => ?_
   refine PC.seq fun K8 hK8 => ?_
   refine SR fun K9 hK9 => ?_
   refine Q1 _ (jb f5) ?_
   refine Q1 _ (jh rfl (e_ (I x3.jq)) (e_ (I 2)) j7) ?_
   refine Q1 _ (jb (e_ (B (decide (x3.jq = 2))))) ?_
   refine GF (I x3.jq) rfl (e_ (B (decide (x3.jq = 2)))) (fun hb => jb f5) ?_
   refine GF (B (decide (x3.jq = 5))) rfl (e_ (B (decide (x3.jq = 2)))) (fun hb => jh rfl (gvp hb (e_ (gv (!(decide (x3.jq = 2))) (I x3.jq)))) (e_ (I 5)) j7) ?_
   refine Q1 (B ((decide (x3.jq = 2)) || (decide (x3.jq = 5)))) (yf (e_ (B (decide (x3.jq = 2)))) rfl (e_ (gv (!(decide (x3.jq = 2))) (B (decide (x3.jq = 5)))))) ?_
   refine Q1 _ (jb (e_ (B ((decide (x3.jq = 2)) || (decide (x3.jq = 5)))))) ?_
   refine GF (I x3.jq) rfl (e_ (B ((decide (x3.jq = 2)) || (decide (x3.jq = 5))))) (fun hb => jb f5) ?_
   refine GF (B (decide (x3.jq = 7))) rfl (e_ (B ((decide (x3.jq = 2)) || (decide (x3.jq = 5))))) (fun hb => jh rfl (gvp hb (e_ (gv (!((decide (x3.jq = 2)) || (decide (x3.jq = 5)))) (I x3.jq)))) (e_ (I 7)) j7) ?_
   refine Q1 (B (((decide (x3.jq = 2)) || (decide (x3.jq = 5))) || (decide (x3.jq = 7)))) (yf (e_ (B ((decide (x3.jq = 2)) || (decide (x3.jq = 5))))) rfl (e_ (gv (!((decide (x3.jq = 2)) || (decide (x3.jq = 5)))) (B (decide (x3.jq = 7)))))) ?_
   refine PL.nil (hK9 _ _ ?_)
   refine A4 0 f0 1 f1 5 f5 24 (e_ (B (((decide (x3.jq = 2)) || (decide (x3.jq = 5))) || (decide (x3.jq = 7))))) fun F f0 f1 f5 f24 => ?_
   rcases cz h0 with ⟨hb10, h0⟩ | ⟨hb10, h0⟩
   refine PC.condTb f24 hb10 ?_
   refine SR fun K11 hK11 => ?_
   refine Q1 _ (jf (e_ (B true))) ?_
   refine PL.nil (hK11 _ _ ?_)
   refine A1 4 (e_ (B true)) fun F f4 => ?_
   refine PC.ret ?_
   have h0 := pz h0
   subst h0
   exact fin (.inr rfl) (j9 Try.results81 f4) (.u _)
   refine PC.condFb f24 hb10 ?_
   refine PC.skip ?_
   refine hK8 _ _ ?_
   refine A3 0 f0 1 f1 5 f5 fun F f0 f1 f5 => ?_
   refine SR fun K12 hK12 => ?_
   refine Q1 _ (jb f0) ?_
   refine Q1 _ (jb f1) ?_
   refine Q1 _ (jh rfl (e_ (I a1)) (e_ (I 1)) Jb) ?_
   obtain ⟨x13, hx13, h0⟩ := bs h0
   refine Q3 (B x13) (j0 (by kernel_rfl) (am (e_ (ja a0)) (am (e_ (I (w64 (a1 - 1)))) (am0))) (js (jt _) (js (.u _) (j2))) (ih0 _ _ _ _ hx13)) ?_
   refine Q1 _ (jf (e_ (B x13))) ?_
   refine PL.nil (hK12 _ _ ?_)
   refine A4 0 f0 1 f1 5 f5 6 (e_ (B x13)) fun F f0 f1 f5 f6 => ?_
   refine PC.seq fun K14 hK14 => ?_
   refine SR fun K15 hK15 => ?_
   refine Q1 _ (jb f5) ?_
   refine Q1 _ (jh rfl (e_ (I x3.jq)) (e_ (I 6)) j7) ?_
   refine PL.nil (hK15 _ _ ?_)
   refine A5 0 f0 1 f1 5 f5 6 f6 30 (e_ (B (decide (x3.jq = 6)))) fun F f0 f1 f5 f6 f30 => ?_
   rcases cz h0 with ⟨hb16, h0⟩ | ⟨hb16, h0⟩
   refine PC.condTb f30 hb16 ?_
   refine SR fun K17 hK17 => ?_
   refine Q1 _ (jb f6) ?_
   refine Q1 _ (jf (e_ (B x13))) ?_
   refine PL.nil (hK17 _ _ ?_)
   refine A1 4 (e_ (B x13)) fun F f4 => ?_
   refine PC.ret ?_
   have h0 := pz h0
   subst h0
   exact fin (.inr rfl) (j9 Try.results81 f4) (.u _)
   refine PC.condFb f30 hb16 ?_
   refine PC.skip ?_
   refine hK14 _ _ ?_
   refine A4 0 f0 1 f1 5 f5 6 f6 fun F f0 f1 f5 f6 => ?_
   refine SR fun K18 hK18 => ?_
   refine Q1 _ (jb f0) ?_
   refine Q1 _ (jb f0) ?_
   refine Q1 _ (jb f1) ?_
   refine Q1 _ (jh rfl (e_ (I a1)) (e_ (I 1)) Jb) ?_
   obtain ⟨x19, hx19, h0⟩ := bs h0
   refine Q3 (I x19) (j0 (by kernel_rfl) (am (e_ (ja a0)) (am (e_ (I (w64 (a1 - 1)))) (am0))) (js (jt _) (js (.u _) (j2))) (Yi hx19)) ?_
   refine Q1 _ (jh rfl (e_ (I x19)) (e_ (I 1)) Jb) ?_
   obtain ⟨x20, hx20, h0⟩ := bs h0
   refine Q3 (B x20) (j0 (by kernel_rfl) (am (e_ (ja a0)) (am (e_ (I (w64 (x19 - 1)))) (am0))) (js (jt _) (js (.u _) (j2))) (ih0 _ _ _ _ hx20)) ?_
   refine Q1 _ (jf (e_ (B x20))) ?_
   refine PL.nil (hK18 _ _ ?_)
   refine A3 5 f5 6 f6 7 (e_ (B x20)) fun F f5 f6 f7 => ?_
   refine PC.seq fun K21 hK21 => ?_
   refine SR fun K22 hK22 => ?_
   refine Q1 _ (jb f5) ?_
   refine Q1 _ (jh rfl (e_ (I x3.jq)) (e_ (I 3)) j7) ?_
   refine PL.nil (hK22 _ _ ?_)
   refine A3 6 f6 7 f7 40 (e_ (B (decide (x3.jq = 3)))) fun F f6 f7 f40 => ?_
   rcases cz h0 with ⟨hb23, h0⟩ | ⟨hb23, h0⟩
   refine PC.condTb f40 hb23 ?_
   refine SR fun K24 hK24 => ?_
   refine Q1 _ (jb f7) ?_
   refine Q1 _ (jb (e_ (B x20))) ?_
   refine GT (B x13) rfl (e_ (B x20)) (fun hb => jb f6) ?_
   refine Q1 (B (x20 && x13)) (vt (e_ (B x20)) (e_ (gv x20 (B x13))) rfl) ?_
   refine Q1 _ (jf (e_ (B (x20 && x13)))) ?_
   refine PL.nil (hK24 _ _ ?_)
   refine A1 4 (e_ (B (x20 && x13))) fun F f4 => ?_
   refine PC.ret ?_
   have h0 := pz h0
   subst h0
   exact fin (.inr rfl) (j9 Try.results81 f4) (.u _)
   refine PC.condFb f40 hb23 ?_
   refine PC.skip ?_
   refine hK21 _ _ ?_
   refine A2 6 f6 7 f7 fun F f6 f7 => ?_
   refine SR fun K25 hK25 => ?_
   refine Q1 _ (jb f7) ?_
   refine Q1 _ (jb (e_ (B x20))) ?_
   refine GF (B x13) rfl (e_ (B x20)) (fun hb => jb f6) ?_
   refine Q1 (B (x20 || x13)) (yf (e_ (B x20)) rfl (e_ (gv (!x20) (B x13)))) ?_
   refine Q1 _ (jf (e_ (B (x20 || x13)))) ?_
   refine PL.nil (hK25 _ _ ?_)
   refine A1 4 (e_ (B (x20 || x13))) fun F f4 => ?_
   refine PC.ret ?_
   have h0 := pz h0
   subst h0
   exact fin (.inr rfl) (j9 Try.results81 f4) (.u _)
def zar (a0 : (List jo)) (a1 : Int) : G Bool := fun nn => Jq nn a0 a1 nn
theorem zcd {nn : Nat} {a0 : (List jo)} {a1 : Int} {r : Bool} (h0 : zar a0 a1 nn = some r) : PCall Try.prog 81 [ja a0, I a1] (· = B r) := (Zf nn) _ _ _ _ h0
def Jr : Nat → (List jo) → Int → Bool → G (List Int)
  | 0, _, _, _ => fun _ => none
  | m + 1, a0, a1, a2 => G.bind (G.lift (idx a0 a1)) fun x3 => G.cond (decide (x3.jq = 1)) (G.bind (Za a0 a1) fun x8 => G.pure [x8]) (G.cond (decide (x3.jq = 2)) (G.pure []) (G.bind (Jr m a0 (w64 (a1 - 1)) a2) fun x18 => G.cond ((decide (¬ x3.jq = 3)) && (decide (¬ x3.jq = 4))) (G.pure x18) (G.bind (Vy a0 (w64 (a1 - 1))) fun x26 => G.bind (Jr m a0 (w64 (x26 - 1)) a2) fun x28 => G.bind (G.cond ((decide (x3.jq = 3)) && a2) (zar a0 (w64 (a1 - 1))) (G.pure false)) fun x33 => G.cond (((decide (x3.jq = 3)) && a2) && (!x33)) (G.pure x18) (G.bind (G.cond ((decide (x3.jq = 3)) && (!a2)) (zar a0 (w64 (x26 - 1))) (G.pure false)) fun x38 => G.cond (((decide (x3.jq = 3)) && (!a2)) && (!x38)) (G.pure x28) (G.bind (G.lift (app 8 x28 x18)) fun x43 => G.pure x43)))))
theorem Zn : ∀ (m : Nat), (∀ (nn : Nat) (a0 : (List jo)) (a1 : Int) (a2 : Bool) (r : (List Int)), Jr m a0 a1 a2 nn = some r → PCall Try.prog 56 [ja a0, I a1, B a2] (· = PV.fr 3 1 (r.map I)))
  | 0 => (fun _ _ _ _ _ h => by cases h)
  | m + 1 => by
   have ih0 : (∀ (nn : Nat) (a0 : (List jo)) (a1 : Int) (a2 : Bool) (r : (List Int)), Jr m a0 a1 a2 nn = some r → PCall Try.prog 56 [ja a0, I a1, B a2] (· = PV.fr 3 1 (r.map I))) := Zn m
   intro nn a0 a1 a2 r h0
   unfold Jr at h0
   refine PCall.intro' Try.func56 rfl Try.ntmps56 (by simp) fun W => ?_
   refine A3 0 (e_ (ja a0)) 1 (e_ (I a1)) 2 (e_ (B a2)) fun F f0 f1 f2 => ?_
   generalize PHeap.empty = H
   refine SR fun K1 hK1 => ?_
   refine Q1 (PV.u (.slice none 0 0)) (jf rfl) ?_
   have o1006 : ownL 3 1 I H 1006 (PV.u (.slice none 0 0)) [] := ownL.nil _ _
   refine PL.nil (hK1 _ _ ?_)
   refine A3 0 f0 1 f1 2 f2 fun F f0 f1 f2 => ?_
   refine SR fun K2 hK2 => ?_
   refine Q1 _ (jb f0) ?_
   refine Q1 _ (jb f1) ?_
   obtain ⟨x3, hx3, h0⟩ := bs h0
   refine Q1 (PV.rp (jr x3).cells) (j1 (rep := jr) (xs := a0) Yw (e_ (ja a0)) (e_ (I a1)) hx3) ?_
   refine Q1 (PV.rp ((jr x3).cells.drop 0)) (j8 Ya Qf (by decide) (e_ (PV.rp (jr x3).cells))) ?_
   refine Q1 (I x3.jq) (jx Qf (e_ (PV.rp ((jr x3).cells.drop 0))) (zr x3)) ?_
   refine Q1 _ (jf (e_ (I x3.jq))) ?_
   refine PL.nil (hK2 _ _ ?_)
   refine A4 0 f0 1 f1 2 f2 7 (e_ (I x3.jq)) fun F f0 f1 f2 f7 => ?_
   refine PC.seq fun K4 hK4 => ?_
   refine SR fun K5 hK5 => ?_
   refine Q1 _ (jb f7) ?_
   refine Q1 _ (jh rfl (e_ (I x3.jq)) (e_ (I 1)) j7) ?_
   refine PL.nil (hK5 _ _ ?_)
   refine A5 0 f0 1 f1 2 f2 7 f7 17 (e_ (B (decide (x3.jq = 1)))) fun F f0 f1 f2 f7 f17 => ?_
   rcases cz h0 with ⟨hb6, h0⟩ | ⟨hb6, h0⟩
   refine PC.condTb f17 hb6 ?_
   refine SR fun K7 hK7 => ?_
   refine Q1 _ (jb f0) ?_
   refine Q1 _ (jb f1) ?_
   obtain ⟨x8, hx8, h0⟩ := bs h0
   refine Q3 (I x8) (j0 (by kernel_rfl) (am (e_ (ja a0)) (am (e_ (I a1)) (am0))) (js (jt _) (js (.u _) (j2))) (zeh hx8)) ?_
   refine PL.litO (rep := I) (xs := [x8]) 1006 rfl rfl rfl (by decide) qj rfl (by decide) (bm (e_ (I x8)) (bm0)) rfl rfl fun q9 H o1006 fz10 => ?_
   refine Q1 _ (jf (e_ q9)) ?_
   refine PL.nil (hK7 _ _ ?_)
   refine A1 6 (e_ q9) fun F f6 => ?_
   refine PC.ret ?_
   have h0 := pz h0
   subst h0
   exact za (.inr rfl) (j9 Try.results56 f6) o1006 (fun _ => rfl)
   refine PC.condFb f17 hb6 ?_
   refine PC.skip ?_
   refine hK4 _ _ ?_
   refine A4 0 f0 1 f1 2 f2 7 f7 fun F f0 f1 f2 f7 => ?_
   refine PC.seq fun K11 hK11 => ?_
   refine SR fun K12 hK12 => ?_
   refine Q1 _ (jb f7) ?_
   refine Q1 _ (jh rfl (e_ (I x3.jq)) (e_ (I 2)) j7) ?_
   refine PL.nil (hK12 _ _ ?_)
   refine A5 0 f0 1 f1 2 f2 7 f7 23 (e_ (B (decide (x3.jq = 2)))) fun F f0 f1 f2 f7 f23 => ?_
   rcases cz h0 with ⟨hb13, h0⟩ | ⟨hb13, h0⟩
   refine PC.condTb f23 hb13 ?_
   refine SR fun K14 hK14 => ?_
   refine PL.litO (rep := I) (xs := []) 1006 rfl rfl rfl (by decide) qj rfl (by decide) (bm0) rfl rfl fun q15 H o1006 fz16 => ?_
   refine Q1 _ (jf (e_ q15)) ?_
   refine PL.nil (hK14 _ _ ?_)
   refine A1 6 (e_ q15) fun F f6 => ?_
   refine PC.ret ?_
   have h0 := pz h0
   subst h0
   exact za (.inr rfl) (j9 Try.results56 f6) o1006 (fun _ => rfl)
   refine PC.condFb f23 hb13 ?_
   refine PC.skip ?_
   refine hK11 _ _ ?_
   refine A4 0 f0 1 f1 2 f2 7 f7 fun F f0 f1 f2 f7 => ?_
   refine SR fun K17 hK17 => ?_
   refine Q1 _ (jb f0) ?_
   refine Q1 _ (jb f1) ?_
   refine Q1 _ (jh rfl (e_ (I a1)) (e_ (I 1)) Jb) ?_
   refine Q1 _ (jb f2) ?_
   obtain ⟨x18, hx18, h0⟩ := bs h0
   refine PL.callG (rep := I) (enc := (Value.int .i64)) 1006 rfl rfl rfl (by decide) (by kernel_rfl) (am (e_ (ja a0)) (am (e_ (I (w64 (a1 - 1)))) (am (e_ (B a2)) (am0)))) (Yr (Qb _) (Yr (.u _) (Yr (.u _) (zkn)))) (ih0 _ _ _ _ _ hx18) (fun _ => rfl) fun q19 H o1006 fz20 => ?_
   refine Q1 _ (jf (e_ q19)) ?_
   refine PL.nil (hK17 _ _ ?_)
   refine A5 0 f0 1 f1 2 f2 7 f7 8 (e_ q19) fun F f0 f1 f2 f7 f8 => ?_
   refine PC.seq fun K21 hK21 => ?_
   refine SR fun K22 hK22 => ?_
   refine Q1 _ (jb f7) ?_
   refine Q1 _ (jh rfl (e_ (I x3.jq)) (e_ (I 3)) yc) ?_
   refine Q1 _ (jb (e_ (B (decide (¬ x3.jq = 3))))) ?_
   refine GT (I x3.jq) rfl (e_ (B (decide (¬ x3.jq = 3)))) (fun hb => jb f7) ?_
   refine GT (B (decide (¬ x3.jq = 4))) rfl (e_ (B (decide (¬ x3.jq = 3)))) (fun hb => jh rfl (gvp hb (e_ (gv (decide (¬ x3.jq = 3)) (I x3.jq)))) (e_ (I 4)) yc) ?_
   refine Q1 (B ((decide (¬ x3.jq = 3)) && (decide (¬ x3.jq = 4)))) (vt (e_ (B (decide (¬ x3.jq = 3)))) (e_ (gv (decide (¬ x3.jq = 3)) (B (decide (¬ x3.jq = 4))))) rfl) ?_
   refine PL.nil (hK22 _ _ ?_)
   refine A6 0 f0 1 f1 2 f2 7 f7 8 f8 35 (e_ (B ((decide (¬ x3.jq = 3)) && (decide (¬ x3.jq = 4))))) fun F f0 f1 f2 f7 f8 f35 => ?_
   rcases cz h0 with ⟨hb23, h0⟩ | ⟨hb23, h0⟩
   refine PC.condTb f35 hb23 ?_
   refine SR fun K24 hK24 => ?_
   refine Q1 _ (jb f8) ?_
   refine Q1 _ (jf (e_ q19)) ?_
   refine PL.nil (hK24 _ _ ?_)
   refine A1 6 (e_ q19) fun F f6 => ?_
   refine PC.ret ?_
   have h0 := pz h0
   subst h0
   exact za (.inr rfl) (j9 Try.results56 f6) o1006 (fun _ => rfl)
   refine PC.condFb f35 hb23 ?_
   refine PC.skip ?_
   refine hK21 _ _ ?_
   refine A5 0 f0 1 f1 2 f2 7 f7 8 f8 fun F f0 f1 f2 f7 f8 => ?_
   refine SR fun K25 hK25 => ?_
   refine Q1 _ (jb f0) ?_
   refine Q1 _ (jb f1) ?_
   refine Q1 _ (jh rfl (e_ (I a1)) (e_ (I 1)) Jb) ?_
   obtain ⟨x26, hx26, h0⟩ := bs h0
   refine Q3 (I x26) (j0 (by kernel_rfl) (am (e_ (ja a0)) (am (e_ (I (w64 (a1 - 1)))) (am0))) (js (jt _) (js (.u _) (j2))) (Yi hx26)) ?_
   refine Q1 _ (jh rfl (e_ (I x26)) (e_ (I 1)) Jb) ?_
   refine Q1 _ (jf (e_ (I (w64 (x26 - 1))))) ?_
   refine PL.nil (hK25 _ _ ?_)
   refine A6 0 f0 1 f1 2 f2 7 f7 8 f8 9 (e_ (I (w64 (x26 - 1)))) fun F f0 f1 f2 f7 f8 f9 => ?_
   refine SR fun K27 hK27 => ?_
   refine Q1 _ (jb f0) ?_
   refine Q1 _ (jb f9) ?_
   refine Q1 _ (jb f2) ?_
   obtain ⟨x28, hx28, h0⟩ := bs h0
   refine PL.callG (rep := I) (enc := (Value.int .i64)) 6006 rfl rfl rfl (by decide) (by kernel_rfl) (am (e_ (ja a0)) (am (e_ (I (w64 (x26 - 1)))) (am (e_ (B a2)) (am0)))) (Yr (Qb _) (Yr (.u _) (Yr (.u _) (zkn)))) (ih0 _ _ _ _ _ hx28) (fun _ => rfl) fun q29 H o6006 fz30 => ?_
   have o1006 := o1006.mono (fz30 1006 (by decide))
   refine Q1 _ (jf (e_ q29)) ?_
   refine PL.nil (hK27 _ _ ?_)
   refine A7 0 f0 1 f1 2 f2 7 f7 8 f8 9 f9 10 (e_ q29) fun F f0 f1 f2 f7 f8 f9 f10 => ?_
   refine PC.seq fun K31 hK31 => ?_
   refine SR fun K32 hK32 => ?_
   refine Q1 _ (jb f7) ?_
   refine Q1 _ (jh rfl (e_ (I x3.jq)) (e_ (I 3)) j7) ?_
   refine Q1 _ (jb (e_ (B (decide (x3.jq = 3))))) ?_
   refine GT (B a2) rfl (e_ (B (decide (x3.jq = 3)))) (fun hb => jb f2) ?_
   refine Q1 (B ((decide (x3.jq = 3)) && a2)) (vt (e_ (B (decide (x3.jq = 3)))) (e_ (gv (decide (x3.jq = 3)) (B a2))) rfl) ?_
   refine Q1 _ (jb (e_ (B ((decide (x3.jq = 3)) && a2)))) ?_
   refine GT (ja a0) rfl (e_ (B ((decide (x3.jq = 3)) && a2))) (fun hb => jb f0) ?_
   refine GT (I a1) rfl (e_ (B ((decide (x3.jq = 3)) && a2))) (fun hb => jb f1) ?_
   refine GT (I (w64 (a1 - 1))) rfl (e_ (B ((decide (x3.jq = 3)) && a2))) (fun hb => jh rfl (gvp hb (e_ (gv ((decide (x3.jq = 3)) && a2) (I a1)))) (e_ (I 1)) Jb) ?_
   obtain ⟨x33, hx33, h0⟩ := bs h0
   refine GTq (B x33) rfl (e_ (B ((decide (x3.jq = 3)) && a2))) (fun hb => j0 (by kernel_rfl) (am (gvp hb (e_ (gv ((decide (x3.jq = 3)) && a2) (ja a0)))) (am (gvp hb (e_ (gv ((decide (x3.jq = 3)) && a2) (I (w64 (a1 - 1)))))) (am0))) (js (jt _) (js (.u _) (j2))) (zcd (G.cond_pos hx33 hb))) ?_
   refine GT (B (!x33)) rfl (e_ (B ((decide (x3.jq = 3)) && a2))) (fun hb => yn (gvp hb (e_ (gv ((decide (x3.jq = 3)) && a2) (B x33))))) ?_
   refine Q1 (B (((decide (x3.jq = 3)) && a2) && (!x33))) (vt (e_ (B ((decide (x3.jq = 3)) && a2))) (e_ (gv ((decide (x3.jq = 3)) && a2) (B (!x33)))) rfl) ?_
   refine PL.nil (hK32 _ _ ?_)
   refine A7 0 f0 2 f2 7 f7 8 f8 9 f9 10 f10 57 (e_ (B (((decide (x3.jq = 3)) && a2) && (!x33)))) fun F f0 f2 f7 f8 f9 f10 f57 => ?_
   rcases cz h0 with ⟨hb34, h0⟩ | ⟨hb34, h0⟩
   refine PC.condTb f57 hb34 ?_
   refine SR fun K35 hK35 => ?_
   refine Q1 _ (jb f8) ?_
   refine Q1 _ (jf (e_ q19)) ?_
   refine PL.nil (hK35 _ _ ?_)
   refine A1 6 (e_ q19) fun F f6 => ?_
   refine PC.ret ?_
   have h0 := pz h0
   subst h0
   exact za (.inr rfl) (j9 Try.results56 f6) o1006 (fun _ => rfl)
   refine PC.condFb f57 hb34 ?_
   refine PC.skip ?_
   refine hK31 _ _ ?_
   refine A6 0 f0 2 f2 7 f7 8 f8 9 f9 10 f10 fun F f0 f2 f7 f8 f9 f10 => ?_
   refine PC.seq fun K36 hK36 => ?_
   refine SR fun K37 hK37 => ?_
   refine Q1 _ (jb f7) ?_
   refine Q1 _ (jh rfl (e_ (I x3.jq)) (e_ (I 3)) j7) ?_
   refine Q1 _ (jb (e_ (B (decide (x3.jq = 3))))) ?_
   refine GT (B a2) rfl (e_ (B (decide (x3.jq = 3)))) (fun hb => jb f2) ?_
   refine GT (B (!a2)) rfl (e_ (B (decide (x3.jq = 3)))) (fun hb => yn (gvp hb (e_ (gv (decide (x3.jq = 3)) (B a2))))) ?_
   refine Q1 (B ((decide (x3.jq = 3)) && (!a2))) (vt (e_ (B (decide (x3.jq = 3)))) (e_ (gv (decide (x3.jq = 3)) (B (!a2)))) rfl) ?_
   refine Q1 _ (jb (e_ (B ((decide (x3.jq = 3)) && (!a2))))) ?_
   refine GT (ja a0) rfl (e_ (B ((decide (x3.jq = 3)) && (!a2)))) (fun hb => jb f0) ?_
   refine GT (I (w64 (x26 - 1))) rfl (e_ (B ((decide (x3.jq = 3)) && (!a2)))) (fun hb => jb f9) ?_
   obtain ⟨x38, hx38, h0⟩ := bs h0
   refine GTq (B x38) rfl (e_ (B ((decide (x3.jq = 3)) && (!a2)))) (fun hb => j0 (by kernel_rfl) (am (gvp hb (e_ (gv ((decide (x3.jq = 3)) && (!a2)) (ja a0)))) (am (gvp hb (e_ (gv ((decide (x3.jq = 3)) && (!a2)) (I (w64 (x26 - 1)))))) (am0))) (js (jt _) (js (.u _) (j2))) (zcd (G.cond_pos hx38 hb))) ?_
   refine GT (B (!x38)) rfl (e_ (B ((decide (x3.jq = 3)) && (!a2)))) (fun hb => yn (gvp hb (e_ (gv ((decide (x3.jq = 3)) && (!a2)) (B x38))))) ?_
   refine Q1 (B (((decide (x3.jq = 3)) && (!a2)) && (!x38))) (vt (e_ (B ((decide (x3.jq = 3)) && (!a2)))) (e_ (gv ((decide (x3.jq = 3)) && (!a2)) (B (!x38)))) rfl) ?_
   refine PL.nil (hK37 _ _ ?_)
   refine A3 8 f8 10 f10 70 (e_ (B (((decide (x3.jq = 3)) && (!a2)) && (!x38)))) fun F f8 f10 f70 => ?_
   rcases cz h0 with ⟨hb39, h0⟩ | ⟨hb39, h0⟩
   refine PC.condTb f70 hb39 ?_
   refine SR fun K40 hK40 => ?_
   refine Q1 _ (jb f10) ?_
   refine Q1 _ (jf (e_ q29)) ?_
   refine PL.nil (hK40 _ _ ?_)
   refine A1 6 (e_ q29) fun F f6 => ?_
   refine PC.ret ?_
   have h0 := pz h0
   subst h0
   exact za (.inr rfl) (j9 Try.results56 f6) o6006 (fun _ => rfl)
   refine PC.condFb f70 hb39 ?_
   refine PC.skip ?_
   refine hK36 _ _ ?_
   refine A2 8 f8 10 f10 fun F f8 f10 => ?_
   refine PC.seq fun K41 hK41 => ?_
   refine PC.freezeL (rep := I) 8 f8 o1006 (fun _ => rfl) fun H fz42 => ?_
   have o6006 := o6006.mono (fz42 6006 (by decide))
   refine PC.region ?_
   refine Q1 _ (jb f10) ?_
   refine Q1 _ (jb (e_ (slI x18))) ?_
   obtain ⟨x43, hx43, h0⟩ := bs h0
   refine PL.appG (rep := I) (ys := x18) rfl rfl rfl (by decide) qj (e_ q29) o6006 (e_ (slI x18)) (fun _ => rfl) (lf1 (fun _ => rfl) (fun _ => rfl)) hx43 fun q44 H o6006 fz45 => ?_
   refine Q1 _ (jf (e_ q44)) ?_
   refine PL.nil (hK41 _ _ ?_)
   refine A1 6 (e_ q44) fun F f6 => ?_
   refine PC.ret ?_
   have h0 := pz h0
   subst h0
   exact za (.inr rfl) (j9 Try.results56 f6) o6006 (fun _ => rfl)
def zz (a0 : (List jo)) (a1 : Int) (a2 : Bool) : G (List Int) := fun nn => Jr nn a0 a1 a2 nn
theorem Y0 {nn : Nat} {a0 : (List jo)} {a1 : Int} {a2 : Bool} {r : (List Int)} (h0 : zz a0 a1 a2 nn = some r) : PCall Try.prog 56 [ja a0, I a1, B a2] (· = PV.fr 3 1 (r.map I)) := (Zn nn) _ _ _ _ _ h0
theorem Vd {nn : Nat} {a0 : (List jo)} {a1 : Int} {a2 : Bool} {r : (List Int)} (h0 : zz a0 a1 a2 nn = some r) : PCall Try.prog 56 [ja a0, I a1, B a2] (· = slI r) := (Y0 h0).forget
def Yp (a0 : (List jo)) : G (List Int) :=
  G.bind (Qi a0) fun x4 => G.cond (decide (¬ x4 = 0)) (G.pure []) (G.bind (zz a0 (w64 ((a0.length : Int) - 1)) true) fun x10 => G.pure x10)
theorem zg8 {nn : Nat} {a0 : (List jo)} {r : (List Int)} (h0 : Yp a0 nn = some r) : PCall Try.prog 42 [ja a0] (· = PV.fr 3 1 (r.map I)) := by
 unfold Yp at h0
 refine PCall.intro' Try.func42 rfl Try.ntmps42 (by simp) fun W => ?_
 refine A1 0 (e_ (ja a0)) fun F f0 => ?_
 generalize PHeap.empty = H
 refine SR fun K1 hK1 => ?_
 refine Q1 (PV.u (.slice none 0 0)) (jf rfl) ?_
 have o1002 : ownL 3 1 I H 1002 (PV.u (.slice none 0 0)) [] := ownL.nil _ _
 refine PL.nil (hK1 _ _ ?_)
 refine A1 0 f0 fun F f0 => ?_
 refine PC.seq fun K2 hK2 => ?_
 refine SR fun K3 hK3 => ?_
 refine Q1 _ (jb f0) ?_
 obtain ⟨x4, hx4, h0⟩ := bs h0
 refine Q3 (I x4) (j0 (by kernel_rfl) (am (e_ (ja a0)) (am0)) (js (jt _) (j2)) (Yh hx4)) ?_
 refine Q1 _ (jh rfl (e_ (I x4)) (e_ (I 0)) yc) ?_
 refine PL.nil (hK3 _ _ ?_)
 refine A2 0 f0 5 (e_ (B (decide (¬ x4 = 0)))) fun F f0 f5 => ?_
 rcases cz h0 with ⟨hb5, h0⟩ | ⟨hb5, h0⟩
 refine PC.condTb f5 hb5 ?_
 refine SR fun K6 hK6 => ?_
 refine PL.litO (rep := I) (xs := []) 1002 rfl rfl rfl (by decide) qj rfl (by decide) (bm0) rfl rfl fun q7 H o1002 fz8 => ?_
 refine Q1 _ (jf (e_ q7)) ?_
 refine PL.nil (hK6 _ _ ?_)
 refine A1 2 (e_ q7) fun F f2 => ?_
 refine PC.ret ?_
 have h0 := pz h0
 subst h0
 exact za (.inr rfl) (j9 Try.results42 f2) o1002 (fun _ => rfl)
 refine PC.condFb f5 hb5 ?_
 refine PC.skip ?_
 refine hK2 _ _ ?_
 refine A1 0 f0 fun F f0 => ?_
 refine SR fun K9 hK9 => ?_
 refine Q1 _ (jb f0) ?_
 refine Q1 _ (jb f0) ?_
 refine Q1 (I (a0.length : Int)) (qg (rep := jr) (xs := a0) Jj (e_ (ja a0))) ?_
 refine Q1 _ (jh rfl (e_ (I (a0.length : Int))) (e_ (I 1)) Jb) ?_
 obtain ⟨x10, hx10, h0⟩ := bs h0
 refine PL.callG (rep := I) (enc := (Value.int .i64)) 1002 rfl rfl rfl (by decide) (by kernel_rfl) (am (e_ (ja a0)) (am (e_ (I (w64 ((a0.length : Int) - 1)))) (am (e_ (B true)) (am0)))) (Yr (Qb _) (Yr (.u _) (Yr (.u _) (zkn)))) (Y0 hx10) (fun _ => rfl) fun q11 H o1002 fz12 => ?_
 refine Q1 _ (jf (e_ q11)) ?_
 refine PL.nil (hK9 _ _ ?_)
 refine A1 2 (e_ q11) fun F f2 => ?_
 refine PC.ret ?_
 have h0 := pz h0
 subst h0
 exact za (.inr rfl) (j9 Try.results42 f2) o1002 (fun _ => rfl)
theorem zhh {nn : Nat} {a0 : (List jo)} {r : (List Int)} (h0 : Yp a0 nn = some r) : PCall Try.prog 42 [ja a0] (· = slI r) := (zg8 h0).forget
def Zo (a0 : (List Int)) (a1 : Int) : G Bool :=
  G.bind (G.loop (σ := Int) (α := Unit ⊕ Bool) (fun x5 => G.cond (decide (x5 < (a0.length : Int))) (G.bind (G.lift (idx a0 x5)) fun x16 => G.cond (decide (x16 = a1)) (G.pure (.inr (.inr true))) (G.pure (.inl (w64 (x5 + 1))))) (G.pure (.inr (.inl ())))) 0) fun o => match o with | .inl () => G.pure false | .inr r21 => G.pure r21
theorem zcy {nn : Nat} {a0 : (List Int)} {a1 : Int} {r : Bool} (h0 : Zo a0 a1 nn = some r) : PCall Try.prog 43 [slI a0, I a1] (· = B r) := by
 unfold Zo at h0
 refine PCall.intro' Try.func43 rfl Try.ntmps43 (by simp) fun W => ?_
 refine A2 0 (e_ (slI a0)) 1 (e_ (I a1)) fun F f0 f1 => ?_
 generalize PHeap.empty = H
 refine SR fun K1 hK1 => ?_
 refine Q1 _ (jf (e_ (B false))) ?_
 refine PL.nil (hK1 _ _ ?_)
 refine A2 0 f0 1 f1 fun F f0 f1 => ?_
 refine PC.seq fun K2 hK2 => ?_
 refine SR fun K3 hK3 => ?_
 refine Q1 _ (jf (e_ (I 0))) ?_
 refine PL.nil (hK3 _ _ ?_)
 refine A3 0 f0 1 f1 5 (e_ (I 0)) fun F f0 f1 f5 => ?_
 refine PC.block ?_
 obtain ⟨o6, ho6, h0⟩ := bs h0
 obtain ⟨B7, hB7, ho6⟩ := G.loop_some ho6
 refine PC.loop (fun m10 F H => ∃ s22 : Int, qw B7 m10 s22 = some o6 ∧ F 0 = (slI a0) ∧ F 1 = (I a1) ∧ F 5 = (I s22)) (m := nn) ⟨0, ho6, f0, f1, f5⟩ fun m10 F H hI => ?_
 obtain ⟨x5, ho6, f0, f1, f5⟩ := hI
 obtain ⟨m10, rfl, st8, hs9, ho6⟩ := jw ho6
 rw [hB7] at hs9
 try dsimp only at hs9
 refine PC.seq fun K11 hK11 => ?_
 refine SR fun K12 hK12 => ?_
 refine Q1 _ (jb f5) ?_
 refine Q1 _ (jb f0) ?_
 refine Q1 (I (a0.length : Int)) (qg (rep := I) (xs := a0) ql (e_ (slI a0))) ?_
 refine Q1 _ (jh rfl (e_ (I x5)) (e_ (I (a0.length : Int))) jv) ?_
 refine PL.nil (hK12 _ _ ?_)
 refine A4 0 f0 1 f1 5 f5 9 (e_ (B (decide (x5 < (a0.length : Int))))) fun F f0 f1 f5 f9 => ?_
 rcases cz hs9 with ⟨hb13, hs9⟩ | ⟨hb13, hs9⟩
 refine PC.condTb f9 hb13 ?_
 refine PC.skip ?_
 refine hK11 _ _ ?_
 refine A3 0 f0 1 f1 5 f5 fun F f0 f1 f5 => ?_
 refine PC.seq fun K14 hK14 => ?_
 refine PC.block ?_
 refine SR fun K15 hK15 => ?_
 refine Q1 _ (jb f0) ?_
 refine Q1 _ (jb f5) ?_
 obtain ⟨x16, hx16, hs9⟩ := bs hs9
 refine Q1 (PV.rp (I x16).cells) (j1 (rep := I) (xs := a0) vk (e_ (slI a0)) (e_ (I x5)) hx16) ?_
 refine Q1 (I x16) (qr qz (e_ (PV.rp (I x16).cells))) ?_
 refine Q1 _ (jb f1) ?_
 refine Q1 _ (jh rfl (e_ (I x16)) (e_ (I a1)) j7) ?_
 refine PL.nil (hK15 _ _ ?_)
 refine A4 0 f0 1 f1 5 f5 17 (e_ (B (decide (x16 = a1)))) fun F f0 f1 f5 f17 => ?_
 rcases cz hs9 with ⟨hb17, hs9⟩ | ⟨hb17, hs9⟩
 refine PC.condTb f17 hb17 ?_
 refine SR fun K18 hK18 => ?_
 refine Q1 _ (jf (e_ (B true))) ?_
 refine PL.nil (hK18 _ _ ?_)
 refine A1 4 (e_ (B true)) fun F f4 => ?_
 have hs9 := pz hs9
 subst hs9
 try dsimp only at ho6
 subst ho6
 try dsimp only at h0
 refine PC.ret ?_
 have h0 := pz h0
 subst h0
 exact fin (.inr rfl) (j9 Try.results43 f4) (.u _)
 refine PC.condFb f17 hb17 ?_
 refine PC.skip ?_
 refine hK14 _ _ ?_
 refine A3 0 f0 1 f1 5 f5 fun F f0 f1 f5 => ?_
 refine PC.region ?_
 refine Q1 _ (jb f5) ?_
 refine Q1 _ (jh rfl (e_ (I x5)) (e_ (I 1)) j3) ?_
 refine Q1 _ (jf (e_ (I (w64 (x5 + 1))))) ?_
 refine PL.nil ?_
 have hs9 := pz hs9
 subst hs9
 exact ⟨m10, Nat.lt_succ_self _, (w64 (x5 + 1)), ho6, f0, f1, (e_ (I (w64 (x5 + 1))))⟩
 refine PC.condFb f9 hb13 ?_
 refine PC.exit ?_
 have hs9 := pz hs9
 subst hs9
 try dsimp only at ho6
 subst ho6
 try dsimp only at h0
 refine hK2 _ _ ?_
 refine PC.absF (fun F => True) trivial ?_
 intro F hI
 clear hI
 refine SR fun K19 hK19 => ?_
 refine Q1 _ (jf (e_ (B false))) ?_
 refine PL.nil (hK19 _ _ ?_)
 refine A1 4 (e_ (B false)) fun F f4 => ?_
 refine PC.ret ?_
 have h0 := pz h0
 subst h0
 exact fin (.inr rfl) (j9 Try.results43 f4) (.u _)
def Qx (a0 : (List Int)) (a1 : Int) : G Bool :=
  G.bind (G.loop (σ := Int) (α := Unit ⊕ Bool) (fun x5 => G.cond (decide (x5 < (a0.length : Int))) (G.bind (G.lift (idx a0 x5)) fun x16 => G.cond (decide (x16 = a1)) (G.pure (.inr (.inr true))) (G.pure (.inl (w64 (x5 + 1))))) (G.pure (.inr (.inl ())))) 0) fun o => match o with | .inl () => G.pure false | .inr r21 => G.pure r21
theorem Vv {nn : Nat} {a0 : (List Int)} {a1 : Int} {r : Bool} (h0 : Qx a0 a1 nn = some r) : PCall Try.prog 82 [slI a0, I a1] (· = B r) := by
 unfold Qx at h0
 refine PCall.intro' Try.func82 rfl Try.ntmps82 (by simp) fun W => ?_
 refine A2 0 (e_ (slI a0)) 1 (e_ (I a1)) fun F f0 f1 => ?_
 generalize PHeap.empty = H
 refine SR fun K1 hK1 => ?_
 refine Q1 _ (jf (e_ (B false))) ?_
 refine PL.nil (hK1 _ _ ?_)
 refine A2 0 f0 1 f1 fun F f0 f1 => ?_
 refine PC.seq fun K2 hK2 => ?_
 refine SR fun K3 hK3 => ?_
 refine Q1 _ (jf (e_ (I 0))) ?_
 refine PL.nil (hK3 _ _ ?_)
 refine A3 0 f0 1 f1 5 (e_ (I 0)) fun F f0 f1 f5 => ?_
 refine PC.block ?_
 obtain ⟨o6, ho6, h0⟩ := bs h0
 obtain ⟨B7, hB7, ho6⟩ := G.loop_some ho6
 refine PC.loop (fun m10 F H => ∃ s22 : Int, qw B7 m10 s22 = some o6 ∧ F 0 = (slI a0) ∧ F 1 = (I a1) ∧ F 5 = (I s22)) (m := nn) ⟨0, ho6, f0, f1, f5⟩ fun m10 F H hI => ?_
 obtain ⟨x5, ho6, f0, f1, f5⟩ := hI
 obtain ⟨m10, rfl, st8, hs9, ho6⟩ := jw ho6
 rw [hB7] at hs9
 try dsimp only at hs9
 refine PC.seq fun K11 hK11 => ?_
 refine SR fun K12 hK12 => ?_
 refine Q1 _ (jb f5) ?_
 refine Q1 _ (jb f0) ?_
 refine Q1 (I (a0.length : Int)) (qg (rep := I) (xs := a0) ql (e_ (slI a0))) ?_
 refine Q1 _ (jh rfl (e_ (I x5)) (e_ (I (a0.length : Int))) jv) ?_
 refine PL.nil (hK12 _ _ ?_)
 refine A4 0 f0 1 f1 5 f5 9 (e_ (B (decide (x5 < (a0.length : Int))))) fun F f0 f1 f5 f9 => ?_
 rcases cz hs9 with ⟨hb13, hs9⟩ | ⟨hb13, hs9⟩
 refine PC.condTb f9 hb13 ?_
 refine PC.skip ?_
 refine hK11 _ _ ?_
 refine A3 0 f0 1 f1 5 f5 fun F f0 f1 f5 => ?_
 refine PC.seq fun K14 hK14 => ?_
 refine PC.block ?_
 refine SR fun K15 hK15 => ?_
 refine Q1 _ (jb f0) ?_
 refine Q1 _ (jb f5) ?_
 obtain ⟨x16, hx16, hs9⟩ := bs hs9
 refine Q1 (PV.rp (I x16).cells) (j1 (rep := I) (xs := a0) vk (e_ (slI a0)) (e_ (I x5)) hx16) ?_
 refine Q1 (I x16) (qr qz (e_ (PV.rp (I x16).cells))) ?_
 refine Q1 _ (jb f1) ?_
 refine Q1 _ (jh rfl (e_ (I x16)) (e_ (I a1)) j7) ?_
 refine PL.nil (hK15 _ _ ?_)
 refine A4 0 f0 1 f1 5 f5 17 (e_ (B (decide (x16 = a1)))) fun F f0 f1 f5 f17 => ?_
 rcases cz hs9 with ⟨hb17, hs9⟩ | ⟨hb17, hs9⟩
 refine PC.condTb f17 hb17 ?_
 refine SR fun K18 hK18 => ?_
 refine Q1 _ (jf (e_ (B true))) ?_
 refine PL.nil (hK18 _ _ ?_)
 refine A1 4 (e_ (B true)) fun F f4 => ?_
 have hs9 := pz hs9
 subst hs9
 try dsimp only at ho6
 subst ho6
 try dsimp only at h0
 refine PC.ret ?_
 have h0 := pz h0
 subst h0
 exact fin (.inr rfl) (j9 Try.results82 f4) (.u _)
 refine PC.condFb f17 hb17 ?_
 refine PC.skip ?_
 refine hK14 _ _ ?_
 refine A3 0 f0 1 f1 5 f5 fun F f0 f1 f5 => ?_
 refine PC.region ?_
 refine Q1 _ (jb f5) ?_
 refine Q1 _ (jh rfl (e_ (I x5)) (e_ (I 1)) j3) ?_
 refine Q1 _ (jf (e_ (I (w64 (x5 + 1))))) ?_
 refine PL.nil ?_
 have hs9 := pz hs9
 subst hs9
 exact ⟨m10, Nat.lt_succ_self _, (w64 (x5 + 1)), ho6, f0, f1, (e_ (I (w64 (x5 + 1))))⟩
 refine PC.condFb f9 hb13 ?_
 refine PC.exit ?_
 have hs9 := pz hs9
 subst hs9
 try dsimp only at ho6
 subst ho6
 try dsimp only at h0
 refine hK2 _ _ ?_
 refine PC.absF (fun F => True) trivial ?_
 intro F hI
 clear hI
 refine SR fun K19 hK19 => ?_
 refine Q1 _ (jf (e_ (B false))) ?_
 refine PL.nil (hK19 _ _ ?_)
 refine A1 4 (e_ (B false)) fun F f4 => ?_
 refine PC.ret ?_
 have h0 := pz h0
 subst h0
 exact fin (.inr rfl) (j9 Try.results82 f4) (.u _)
def Yd (a0 : (List jo)) (a1 : Int) (a2 : Int) : G Bool :=
  G.bind (G.loop (σ := Int) (α := Unit ⊕ Bool) (fun x5 => G.cond (decide (x5 < (a0.length : Int))) (G.bind (α := Unit ⊕ Bool) (G.bind (G.lift (idx a0 x5)) fun x17 => G.bind (α := Unit ⊕ Bool) (G.cond ((decide (x17.jq = 5)) || (decide (x17.jq = 6))) (G.bind (zz a0 (w64 (x5 - 1)) true) fun x34 => G.bind (Qx x34 a1) fun x35 => G.bind (G.cond x35 (zz a0 (w64 (x5 - 1)) false) (G.pure [])) fun x36 => G.bind (G.cond x35 (Qx x36 a2) (G.pure false)) fun x37 => G.cond (x35 && x37) (G.pure (.inr true)) (G.pure (.inl ()))) (G.pure (.inl ()))) fun o => match o with | .inl () => G.cond (decide (x17.jq = 3)) (G.bind (Vy a0 (w64 (x5 - 1))) fun x23 => G.bind (zz a0 (w64 (x23 - 1)) true) fun x25 => G.bind (Qx x25 a1) fun x26 => G.bind (G.cond x26 (zz a0 (w64 (x5 - 1)) false) (G.pure [])) fun x27 => G.bind (G.cond x26 (Qx x27 a2) (G.pure false)) fun x28 => G.cond (x26 && x28) (G.pure (.inr true)) (G.pure (.inl ()))) (G.pure (.inl ())) | .inr r40 => G.pure (.inr r40)) fun o => match o with | .inl () => G.pure (.inl (w64 (x5 + 1))) | .inr r42 => G.pure (.inr (.inr r42))) (G.pure (.inr (.inl ())))) 0) fun o => match o with | .inl () => G.pure false | .inr r46 => G.pure r46
theorem zdh {nn : Nat} {a0 : (List jo)} {a1 : Int} {a2 : Int} {r : Bool} (h0 : Yd a0 a1 a2 nn = some r) : PCall Try.prog 57 [ja a0, I a1, I a2] (· = B r) := by
 unfold Yd at h0
 refine PCall.intro' Try.func57 rfl Try.ntmps57 (by simp) fun W => ?_
 refine A3 0 (e_ (ja a0)) 1 (e_ (I a1)) 2 (e_ (I a2)) fun F f0 f1 f2 => ?_
 generalize PHeap.empty = H
 refine SR fun K1 hK1 => ?_
 refine Q1 _ (jf (e_ (B false))) ?_
 refine PL.nil (hK1 _ _ ?_)
 refine A3 0 f0 1 f1 2 f2 fun F f0 f1 f2 => ?_
 refine PC.seq fun K2 hK2 => ?_
 refine SR fun K3 hK3 => ?_
 refine Q1 _ (jf (e_ (I 0))) ?_
 refine PL.nil (hK3 _ _ ?_)
 refine A4 0 f0 1 f1 2 f2 7 (e_ (I 0)) fun F f0 f1 f2 f7 => ?_
 refine PC.block ?_
 obtain ⟨o6, ho6, h0⟩ := bs h0
 obtain ⟨B7, hB7, ho6⟩ := G.loop_some ho6
 refine PC.loop (fun m10 F H => ∃ s47 : Int, qw B7 m10 s47 = some o6 ∧ F 0 = (ja a0) ∧ F 1 = (I a1) ∧ F 2 = (I a2) ∧ F 7 = (I s47)) (m := nn) ⟨0, ho6, f0, f1, f2, f7⟩ fun m10 F H hI => ?_
 obtain ⟨x5, ho6, f0, f1, f2, f7⟩ := hI
 obtain ⟨m10, rfl, st8, hs9, ho6⟩ := jw ho6
 rw [hB7] at hs9
 try dsimp only at hs9
 refine PC.seq fun K11 hK11 => ?_
 refine SR fun K12 hK12 => ?_
 refine Q1 _ (jb f7) ?_
 refine Q1 _ (jb f0) ?_
 refine Q1 (I (a0.length : Int)) (qg (rep := jr) (xs := a0) Jj (e_ (ja a0))) ?_
 refine Q1 _ (jh rfl (e_ (I x5)) (e_ (I (a0.length : Int))) jv) ?_
 refine PL.nil (hK12 _ _ ?_)
 refine A5 0 f0 1 f1 2 f2 7 f7 13 (e_ (B (decide (x5 < (a0.length : Int))))) fun F f0 f1 f2 f7 f13 => ?_
 rcases cz hs9 with ⟨hb13, hs9⟩ | ⟨hb13, hs9⟩
 refine PC.condTb f13 hb13 ?_
 refine PC.skip ?_
 refine hK11 _ _ ?_
 refine A4 0 f0 1 f1 2 f2 7 f7 fun F f0 f1 f2 f7 => ?_
 obtain ⟨o15, ho15, hs9⟩ := bs hs9
 refine PC.seqM (fun F H => ∃ s43 : Unit, o15 = .inl s43 ∧ F 0 = (ja a0) ∧ F 1 = (I a1) ∧ F 2 = (I a2) ∧ F 7 = (I x5)) ?_ ?_
 refine PC.block ?_
 refine SR fun K16 hK16 => ?_
 refine Q1 _ (jb f0) ?_
 refine Q1 _ (jb f7) ?_
 obtain ⟨x17, hx17, ho15⟩ := bs ho15
 refine Q1 (PV.rp (jr x17).cells) (j1 (rep := jr) (xs := a0) Yw (e_ (ja a0)) (e_ (I x5)) hx17) ?_
 refine Q1 (PV.rp ((jr x17).cells.drop 0)) (j8 Ya Qf (by decide) (e_ (PV.rp (jr x17).cells))) ?_
 refine Q1 (I x17.jq) (jx Qf (e_ (PV.rp ((jr x17).cells.drop 0))) (zr x17)) ?_
 refine Q1 _ (jf (e_ (I x17.jq))) ?_
 refine PL.nil (hK16 _ _ ?_)
 refine A5 0 f0 1 f1 2 f2 7 f7 8 (e_ (I x17.jq)) fun F f0 f1 f2 f7 f8 => ?_
 obtain ⟨o19, ho19, ho15⟩ := bs ho15
 refine PC.seqM (fun F H => ∃ s41 : Unit, o19 = .inl s41 ∧ F 0 = (ja a0) ∧ F 1 = (I a1) ∧ F 2 = (I a2) ∧ F 7 = (I x5) ∧ F 8 = (I x17.jq)) ?_ ?_
 refine SR fun K31 hK31 => ?_
 refine Q1 _ (jb f8) ?_
 refine Q1 _ (jh rfl (e_ (I x17.jq)) (e_ (I 5)) j7) ?_
 refine Q1 _ (jb (e_ (B (decide (x17.jq = 5))))) ?_
 refine GF (I x17.jq) rfl (e_ (B (decide (x17.jq = 5)))) (fun hb => jb f8) ?_
 refine GF (B (decide (x17.jq = 6))) rfl (e_ (B (decide (x17.jq = 5)))) (fun hb => jh rfl (gvp hb (e_ (gv (!(decide (x17.jq = 5))) (I x17.jq)))) (e_ (I 6)) j7) ?_
 refine Q1 (B ((decide (x17.jq = 5)) || (decide (x17.jq = 6)))) (yf (e_ (B (decide (x17.jq = 5)))) rfl (e_ (gv (!(decide (x17.jq = 5))) (B (decide (x17.jq = 6)))))) ?_
 refine PL.nil (hK31 _ _ ?_)
 refine A6 0 f0 1 f1 2 f2 7 f7 8 f8 26 (e_ (B ((decide (x17.jq = 5)) || (decide (x17.jq = 6))))) fun F f0 f1 f2 f7 f8 f26 => ?_
 rcases cz ho19 with ⟨hb32, ho19⟩ | ⟨hb32, ho19⟩
 refine PC.condTb f26 hb32 ?_
 refine SR fun K33 hK33 => ?_
 refine Q1 _ (jb f0) ?_
 refine Q1 _ (jb f7) ?_
 refine Q1 _ (jh rfl (e_ (I x5)) (e_ (I 1)) Jb) ?_
 obtain ⟨x34, hx34, ho19⟩ := bs ho19
 refine Q3 (slI x34) (j0 (by kernel_rfl) (am (e_ (ja a0)) (am (e_ (I (w64 (x5 - 1)))) (am (e_ (B true)) (am0)))) (js (jt _) (js (.u _) (js (.u _) (j2)))) (Vd hx34)) ?_
 refine Q1 _ (jb f1) ?_
 obtain ⟨x35, hx35, ho19⟩ := bs ho19
 refine Q3 (B x35) (j0 (by kernel_rfl) (am (e_ (slI x34)) (am (e_ (I a1)) (am0))) (js (ye _) (js (.u _) (j2))) (Vv hx35)) ?_
 refine Q1 _ (jb (e_ (B x35))) ?_
 refine GT (ja a0) rfl (e_ (B x35)) (fun hb => jb f0) ?_
 refine GT (I x5) rfl (e_ (B x35)) (fun hb => jb f7) ?_
 refine GT (I (w64 (x5 - 1))) rfl (e_ (B x35)) (fun hb => jh rfl (gvp hb (e_ (gv x35 (I x5)))) (e_ (I 1)) Jb) ?_
 obtain ⟨x36, hx36, ho19⟩ := bs ho19
 refine GTq (slI x36) rfl (e_ (B x35)) (fun hb => j0 (by kernel_rfl) (am (gvp hb (e_ (gv x35 (ja a0)))) (am (gvp hb (e_ (gv x35 (I (w64 (x5 - 1)))))) (am (e_ (B false)) (am0)))) (js (jt _) (js (.u _) (js (.u _) (j2)))) (Vd (G.cond_pos hx36 hb))) ?_
 refine GT (I a2) rfl (e_ (B x35)) (fun hb => jb f2) ?_
 obtain ⟨x37, hx37, ho19⟩ := bs ho19
 refine GTq (B x37) rfl (e_ (B x35)) (fun hb => j0 (by kernel_rfl) (am (gvp hb (e_ (gv x35 (slI x36)))) (am (gvp hb (e_ (gv x35 (I a2)))) (am0))) (js (ye _) (js (.u _) (j2))) (Vv (G.cond_pos hx37 hb))) ?_
 refine Q1 (B (x35 && x37)) (vt (e_ (B x35)) (e_ (gv x35 (B x37))) rfl) ?_
 refine PL.nil (hK33 _ _ ?_)
 refine A6 0 f0 1 f1 2 f2 7 f7 8 f8 40 (e_ (B (x35 && x37))) fun F f0 f1 f2 f7 f8 f40 => ?_
 rcases cz ho19 with ⟨hb38, ho19⟩ | ⟨hb38, ho19⟩
 refine PC.condTb f40 hb38 ?_
 refine SR fun K39 hK39 => ?_
 refine Q1 _ (jf (e_ (B true))) ?_
 refine PL.nil (hK39 _ _ ?_)
 refine A1 6 (e_ (B true)) fun F f6 => ?_
 have ho19 := pz ho19
 subst ho19
 try dsimp only at ho15
 have ho15 := pz ho15
 subst ho15
 try dsimp only at hs9
 have hs9 := pz hs9
 subst hs9
 try dsimp only at ho6
 subst ho6
 try dsimp only at h0
 refine PC.ret ?_
 have h0 := pz h0
 subst h0
 exact fin (.inr rfl) (j9 Try.results57 f6) (.u _)
 refine PC.condFb f40 hb38 ?_
 refine PC.skip ?_
 have ho19 := pz ho19
 subst ho19
 exact ⟨(), rfl, f0, f1, f2, f7, f8⟩
 refine PC.condFb f26 hb32 ?_
 refine PC.skip ?_
 have ho19 := pz ho19
 subst ho19
 exact ⟨(), rfl, f0, f1, f2, f7, f8⟩
 intro F H hI
 obtain ⟨_, ho, f0, f1, f2, f7, f8⟩ := hI
 have ho := ho.symm
 subst ho
 try dsimp only at ho15
 refine SR fun K20 hK20 => ?_
 refine Q1 _ (jb f8) ?_
 refine Q1 _ (jh rfl (e_ (I x17.jq)) (e_ (I 3)) j7) ?_
 refine PL.nil (hK20 _ _ ?_)
 refine A5 0 f0 1 f1 2 f2 7 f7 42 (e_ (B (decide (x17.jq = 3)))) fun F f0 f1 f2 f7 f42 => ?_
 rcases cz ho15 with ⟨hb21, ho15⟩ | ⟨hb21, ho15⟩
 refine PC.condTb f42 hb21 ?_
 refine SR fun K22 hK22 => ?_
 refine Q1 _ (jb f0) ?_
 refine Q1 _ (jb f7) ?_
 refine Q1 _ (jh rfl (e_ (I x5)) (e_ (I 1)) Jb) ?_
 obtain ⟨x23, hx23, ho15⟩ := bs ho15
 refine Q3 (I x23) (j0 (by kernel_rfl) (am (e_ (ja a0)) (am (e_ (I (w64 (x5 - 1)))) (am0))) (js (jt _) (js (.u _) (j2))) (Yi hx23)) ?_
 refine Q1 _ (jh rfl (e_ (I x23)) (e_ (I 1)) Jb) ?_
 refine Q1 _ (jf (e_ (I (w64 (x23 - 1))))) ?_
 refine PL.nil (hK22 _ _ ?_)
 refine A5 0 f0 1 f1 2 f2 7 f7 9 (e_ (I (w64 (x23 - 1)))) fun F f0 f1 f2 f7 f9 => ?_
 refine SR fun K24 hK24 => ?_
 refine Q1 _ (jb f0) ?_
 refine Q1 _ (jb f9) ?_
 obtain ⟨x25, hx25, ho15⟩ := bs ho15
 refine Q3 (slI x25) (j0 (by kernel_rfl) (am (e_ (ja a0)) (am (e_ (I (w64 (x23 - 1)))) (am (e_ (B true)) (am0)))) (js (jt _) (js (.u _) (js (.u _) (j2)))) (Vd hx25)) ?_
 refine Q1 _ (jb f1) ?_
 obtain ⟨x26, hx26, ho15⟩ := bs ho15
 refine Q3 (B x26) (j0 (by kernel_rfl) (am (e_ (slI x25)) (am (e_ (I a1)) (am0))) (js (ye _) (js (.u _) (j2))) (Vv hx26)) ?_
 refine Q1 _ (jb (e_ (B x26))) ?_
 refine GT (ja a0) rfl (e_ (B x26)) (fun hb => jb f0) ?_
 refine GT (I x5) rfl (e_ (B x26)) (fun hb => jb f7) ?_
 refine GT (I (w64 (x5 - 1))) rfl (e_ (B x26)) (fun hb => jh rfl (gvp hb (e_ (gv x26 (I x5)))) (e_ (I 1)) Jb) ?_
 obtain ⟨x27, hx27, ho15⟩ := bs ho15
 refine GTq (slI x27) rfl (e_ (B x26)) (fun hb => j0 (by kernel_rfl) (am (gvp hb (e_ (gv x26 (ja a0)))) (am (gvp hb (e_ (gv x26 (I (w64 (x5 - 1)))))) (am (e_ (B false)) (am0)))) (js (jt _) (js (.u _) (js (.u _) (j2)))) (Vd (G.cond_pos hx27 hb))) ?_
 refine GT (I a2) rfl (e_ (B x26)) (fun hb => jb f2) ?_
 obtain ⟨x28, hx28, ho15⟩ := bs ho15
 refine GTq (B x28) rfl (e_ (B x26)) (fun hb => j0 (by kernel_rfl) (am (gvp hb (e_ (gv x26 (slI x27)))) (am (gvp hb (e_ (gv x26 (I a2)))) (am0))) (js (ye _) (js (.u _) (j2))) (Vv (G.cond_pos hx28 hb))) ?_
 refine Q1 (B (x26 && x28)) (vt (e_ (B x26)) (e_ (gv x26 (B x28))) rfl) ?_
 refine PL.nil (hK24 _ _ ?_)
 refine A5 0 f0 1 f1 2 f2 7 f7 60 (e_ (B (x26 && x28))) fun F f0 f1 f2 f7 f60 => ?_
 rcases cz ho15 with ⟨hb29, ho15⟩ | ⟨hb29, ho15⟩
 refine PC.condTb f60 hb29 ?_
 refine SR fun K30 hK30 => ?_
 refine Q1 _ (jf (e_ (B true))) ?_
 refine PL.nil (hK30 _ _ ?_)
 refine A1 6 (e_ (B true)) fun F f6 => ?_
 have ho15 := pz ho15
 subst ho15
 try dsimp only at hs9
 have hs9 := pz hs9
 subst hs9
 try dsimp only at ho6
 subst ho6
 try dsimp only at h0
 refine PC.ret ?_
 have h0 := pz h0
 subst h0
 exact fin (.inr rfl) (j9 Try.results57 f6) (.u _)
 refine PC.condFb f60 hb29 ?_
 refine PC.skip ?_
 have ho15 := pz ho15
 subst ho15
 exact ⟨(), rfl, f0, f1, f2, f7⟩
 refine PC.condFb f42 hb21 ?_
 refine PC.skip ?_
 have ho15 := pz ho15
 subst ho15
 exact ⟨(), rfl, f0, f1, f2, f7⟩
 intro F H hI
 obtain ⟨_, ho, f0, f1, f2, f7⟩ := hI
 have ho := ho.symm
 subst ho
 try dsimp only at hs9
 refine PC.region ?_
 refine Q1 _ (jb f7) ?_
 refine Q1 _ (jh rfl (e_ (I x5)) (e_ (I 1)) j3) ?_
 refine Q1 _ (jf (e_ (I (w64 (x5 + 1))))) ?_
 refine PL.nil ?_
 have hs9 := pz hs9
 subst hs9
 exact ⟨m10, Nat.lt_succ_self _, (w64 (x5 + 1)), ho6, f0, f1, f2, (e_ (I (w64 (x5 + 1))))⟩
 refine PC.condFb f13 hb13 ?_
 refine PC.exit ?_
 have hs9 := pz hs9
 subst hs9
 try dsimp only at ho6
 subst ho6
 try dsimp only at h0
 refine hK2 _ _ ?_
 refine PC.absF (fun F => True) trivial ?_
 intro F hI
 clear hI
 refine SR fun K44 hK44 => ?_
 refine Q1 _ (jf (e_ (B false))) ?_
 refine PL.nil (hK44 _ _ ?_)
 refine A1 6 (e_ (B false)) fun F f6 => ?_
 refine PC.ret ?_
 have h0 := pz h0
 subst h0
 exact fin (.inr rfl) (j9 Try.results57 f6) (.u _)
def Q9 (a0 : (List jo)) (a1 : Int) : G (List Int) :=
  G.bind (Yn a0) fun x6 => G.bind (G.loop (σ := (Int × (List Int))) (α := (List Int)) (fun (x12, x13) => G.cond (decide (x12 < (x6.length : Int))) (G.bind (α := (List Int)) (G.bind (G.cond ((decide (0 ≤ a1)) && (decide (a1 < (x6.length : Int)))) (Yd a0 a1 x12) (G.pure false)) fun x28 => G.cond (((decide (0 ≤ a1)) && (decide (a1 < (x6.length : Int)))) && x28) (G.bind (G.lift (app 8 x13 ([x12] : List Int))) fun x30 => G.pure x30) (G.pure x13)) fun x25 => G.pure (.inl ((w64 (x12 + 1)), x25))) (G.pure (.inr x13))) (0, [])) fun x35 => G.pure x35
theorem zen {nn : Nat} {a0 : (List jo)} {a1 : Int} {r : (List Int)} (h0 : Q9 a0 a1 nn = some r) : PCall Try.prog 45 [ja a0, I a1] (· = PV.fr 3 1 (r.map I)) := by
 unfold Q9 at h0
 refine PCall.intro' Try.func45 rfl Try.ntmps45 (by simp) fun W => ?_
 refine A2 0 (e_ (ja a0)) 1 (e_ (I a1)) fun F f0 f1 => ?_
 generalize PHeap.empty = H
 refine SR fun K1 hK1 => ?_
 refine Q1 (PV.u (.slice none 0 0)) (jf rfl) ?_
 have o1004 : ownL 3 1 I H 1004 (PV.u (.slice none 0 0)) [] := ownL.nil _ _
 refine PL.nil (hK1 _ _ ?_)
 refine A2 0 f0 1 f1 fun F f0 f1 => ?_
 refine SR fun K2 hK2 => ?_
 refine PL.litO (rep := I) (xs := []) 1004 rfl rfl rfl (by decide) qj rfl (by decide) (bm0) rfl rfl fun q3 H o1004 fz4 => ?_
 refine Q1 _ (jf (e_ q3)) ?_
 refine PL.nil (hK2 _ _ ?_)
 refine A3 0 f0 1 f1 5 (e_ q3) fun F f0 f1 f5 => ?_
 refine SR fun K5 hK5 => ?_
 refine Q1 _ (jb f0) ?_
 obtain ⟨x6, hx6, h0⟩ := bs h0
 refine Q3 (jg x6) (j0 (by kernel_rfl) (am (e_ (ja a0)) (am0)) (js (jt _) (j2)) (zb9 hx6)) ?_
 refine Q1 (I (x6.length : Int)) (qg (rep := (arV (n := 4) (iK .u64))) (xs := x6) zd (e_ (jg x6))) ?_
 refine Q1 _ (jf (e_ (I (x6.length : Int)))) ?_
 refine PL.nil (hK5 _ _ ?_)
 refine A4 0 f0 1 f1 5 f5 6 (e_ (I (x6.length : Int))) fun F f0 f1 f5 f6 => ?_
 refine PC.seq fun K7 hK7 => ?_
 refine SR fun K8 hK8 => ?_
 refine Q1 _ (jf (e_ (I 0))) ?_
 refine PL.nil (hK8 _ _ ?_)
 refine A5 0 f0 1 f1 5 f5 6 f6 7 (e_ (I 0)) fun F f0 f1 f5 f6 f7 => ?_
 refine PC.block ?_
 obtain ⟨o15, ho15, h0⟩ := bs h0
 obtain ⟨B16, hB16, ho15⟩ := G.loop_some ho15
 refine PC.loop (fun m19 F H => ∃ s38 : (Int × (List Int)), ∃ q14, qw B16 m19 s38 = some o15 ∧ F 0 = (ja a0) ∧ F 1 = (I a1) ∧ F 5 = q14 ∧ F 6 = (I (x6.length : Int)) ∧ F 7 = (I s38.1) ∧ ownL 3 1 I H 1004 q14 s38.2) (m := nn) ⟨(0, []), q3, ho15, f0, f1, f5, f6, f7, o1004⟩ fun m19 F H hI => ?_
 obtain ⟨⟨x12, x13⟩, q14, ho15, f0, f1, f5, f6, f7, o1004⟩ := hI
 obtain ⟨m19, rfl, st17, hs18, ho15⟩ := jw ho15
 rw [hB16] at hs18
 try dsimp only at hs18
 refine PC.seq fun K20 hK20 => ?_
 refine SR fun K21 hK21 => ?_
 refine Q1 _ (jb f7) ?_
 refine Q1 _ (jb f6) ?_
 refine Q1 _ (jh rfl (e_ (I x12)) (e_ (I (x6.length : Int))) jv) ?_
 refine PL.nil (hK21 _ _ ?_)
 refine A6 0 f0 1 f1 5 f5 6 f6 7 f7 14 (e_ (B (decide (x12 < (x6.length : Int))))) fun F f0 f1 f5 f6 f7 f14 => ?_
 rcases cz hs18 with ⟨hb22, hs18⟩ | ⟨hb22, hs18⟩
 refine PC.condTb f14 hb22 ?_
 refine PC.skip ?_
 refine hK20 _ _ ?_
 refine A5 0 f0 1 f1 5 f5 6 f6 7 f7 fun F f0 f1 f5 f6 f7 => ?_
 obtain ⟨o24, ho24, hs18⟩ := bs hs18
 refine PC.seqM (fun F H => ∃ s33 : (List Int), ∃ q26, o24 = s33 ∧ F 0 = (ja a0) ∧ F 1 = (I a1) ∧ F 5 = q26 ∧ F 6 = (I (x6.length : Int)) ∧ F 7 = (I x12) ∧ ownL 3 1 I H 1004 q26 s33) ?_ ?_
 refine PC.block ?_
 refine SR fun K27 hK27 => ?_
 refine Q1 _ (jb f1) ?_
 refine Q1 _ (jh rfl (e_ (I a1)) (e_ (I 0)) vr) ?_
 refine Q1 _ (jb (e_ (B (decide (0 ≤ a1))))) ?_
 refine GT (I a1) rfl (e_ (B (decide (0 ≤ a1)))) (fun hb => jb f1) ?_
 refine GT (I (x6.length : Int)) rfl (e_ (B (decide (0 ≤ a1)))) (fun hb => jb f6) ?_
 refine GT (B (decide (a1 < (x6.length : Int)))) rfl (e_ (B (decide (0 ≤ a1)))) (fun hb => jh rfl (gvp hb (e_ (gv (decide (0 ≤ a1)) (I a1)))) (gvp hb (e_ (gv (decide (0 ≤ a1)) (I (x6.length : Int))))) jv) ?_
 refine Q1 (B ((decide (0 ≤ a1)) && (decide (a1 < (x6.length : Int))))) (vt (e_ (B (decide (0 ≤ a1)))) (e_ (gv (decide (0 ≤ a1)) (B (decide (a1 < (x6.length : Int)))))) rfl) ?_
 refine Q1 _ (jb (e_ (B ((decide (0 ≤ a1)) && (decide (a1 < (x6.length : Int))))))) ?_
 refine GT (ja a0) rfl (e_ (B ((decide (0 ≤ a1)) && (decide (a1 < (x6.length : Int)))))) (fun hb => jb f0) ?_
 refine GT (I a1) rfl (e_ (B ((decide (0 ≤ a1)) && (decide (a1 < (x6.length : Int)))))) (fun hb => jb f1) ?_
 refine GT (I x12) rfl (e_ (B ((decide (0 ≤ a1)) && (decide (a1 < (x6.length : Int)))))) (fun hb => jb f7) ?_
 obtain ⟨x28, hx28, ho24⟩ := bs ho24
 refine GTq (B x28) rfl (e_ (B ((decide (0 ≤ a1)) && (decide (a1 < (x6.length : Int)))))) (fun hb => j0 (by kernel_rfl) (am (gvp hb (e_ (gv ((decide (0 ≤ a1)) && (decide (a1 < (x6.length : Int)))) (ja a0)))) (am (gvp hb (e_ (gv ((decide (0 ≤ a1)) && (decide (a1 < (x6.length : Int)))) (I a1)))) (am (gvp hb (e_ (gv ((decide (0 ≤ a1)) && (decide (a1 < (x6.length : Int)))) (I x12)))) (am0)))) (js (jt _) (js (.u _) (js (.u _) (j2)))) (zdh (G.cond_pos hx28 hb))) ?_
 refine Q1 (B (((decide (0 ≤ a1)) && (decide (a1 < (x6.length : Int)))) && x28)) (vt (e_ (B ((decide (0 ≤ a1)) && (decide (a1 < (x6.length : Int)))))) (e_ (gv ((decide (0 ≤ a1)) && (decide (a1 < (x6.length : Int)))) (B x28))) rfl) ?_
 refine PL.nil (hK27 _ _ ?_)
 refine A6 0 f0 1 f1 5 f5 6 f6 7 f7 29 (e_ (B (((decide (0 ≤ a1)) && (decide (a1 < (x6.length : Int)))) && x28))) fun F f0 f1 f5 f6 f7 f29 => ?_
 rcases cz ho24 with ⟨hb29, ho24⟩ | ⟨hb29, ho24⟩
 refine PC.condTb f29 hb29 ?_
 refine PC.region ?_
 refine Q1 _ (jb f5) ?_
 refine Q1 _ (jb f7) ?_
 refine Q3 (slI ([x12] : List Int)) (yx (rep := I) (xs := [x12]) qj rfl (by decide) (bm (e_ (I x12)) (bm0)) rfl rfl) ?_
 obtain ⟨x30, hx30, ho24⟩ := bs ho24
 refine PL.appG (rep := I) (ys := ([x12] : List Int)) rfl rfl rfl (by decide) qj (e_ q14) o1004 (e_ (slI ([x12] : List Int))) (fun _ => rfl) (lf1 (fun _ => rfl) (fun _ => rfl)) hx30 fun q31 H o1004 fz32 => ?_
 refine Q1 _ (jf (e_ q31)) ?_
 refine PL.nil ?_
 have ho24 := pz ho24
 subst ho24
 exact ⟨x30, q31, rfl, f0, f1, (e_ q31), f6, f7, o1004⟩
 refine PC.condFb f29 hb29 ?_
 refine PC.skip ?_
 have ho24 := pz ho24
 subst ho24
 exact ⟨x13, q14, rfl, f0, f1, f5, f6, f7, o1004⟩
 intro F H hI
 obtain ⟨x25, q26, ho, f0, f1, f5, f6, f7, o1004⟩ := hI
 have ho := ho.symm
 subst ho
 try dsimp only at hs18
 refine PC.region ?_
 refine Q1 _ (jb f7) ?_
 refine Q1 _ (jh rfl (e_ (I x12)) (e_ (I 1)) j3) ?_
 refine Q1 _ (jf (e_ (I (w64 (x12 + 1))))) ?_
 refine PL.nil ?_
 have hs18 := pz hs18
 subst hs18
 exact ⟨m19, Nat.lt_succ_self _, ((w64 (x12 + 1)), x25), q26, ho15, f0, f1, f5, f6, (e_ (I (w64 (x12 + 1)))), o1004⟩
 refine PC.condFb f14 hb22 ?_
 refine PC.exit ?_
 have hs18 := pz hs18
 subst hs18
 try dsimp only at ho15
 subst ho15
 try dsimp only at h0
 refine hK7 _ _ ?_
 refine A1 5 f5 fun F f5 => ?_
 refine SR fun K34 hK34 => ?_
 refine Q1 _ (jb f5) ?_
 refine Q1 _ (jf (e_ q14)) ?_
 refine PL.nil (hK34 _ _ ?_)
 refine A1 4 (e_ q14) fun F f4 => ?_
 refine PC.ret ?_
 have h0 := pz h0
 subst h0
 exact za (.inr rfl) (j9 Try.results45 f4) o1004 (fun _ => rfl)
theorem zeg {nn : Nat} {a0 : (List jo)} {a1 : Int} {r : (List Int)} (h0 : Q9 a0 a1 nn = some r) : PCall Try.prog 45 [ja a0, I a1] (· = slI r) := (zen h0).forget
def Qn (a0 : (List Int)) (a1 : Int) : G (List Int) :=
  G.bind (G.loop (σ := (Int × (List Int))) (α := (List Int)) (fun (x10, x11) => G.cond (decide (x10 < (a0.length : Int))) (G.bind (G.lift (idx a0 x10)) fun x22 => G.bind (G.lift (app 8 x11 ([(w64 (x22 + a1))] : List Int))) fun x23 => G.pure (.inl ((w64 (x10 + 1)), x23))) (G.pure (.inr x11))) (0, [])) fun x27 => G.pure x27
theorem zfj {nn : Nat} {a0 : (List Int)} {a1 : Int} {r : (List Int)} (h0 : Qn a0 a1 nn = some r) : PCall Try.prog 44 [slI a0, I a1] (· = PV.fr 3 1 (r.map I)) := by
 unfold Qn at h0
 refine PCall.intro' Try.func44 rfl Try.ntmps44 (by simp) fun W => ?_
 refine A2 0 (e_ (slI a0)) 1 (e_ (I a1)) fun F f0 f1 => ?_
 generalize PHeap.empty = H
 refine SR fun K1 hK1 => ?_
 refine Q1 (PV.u (.slice none 0 0)) (jf rfl) ?_
 have o1004 : ownL 3 1 I H 1004 (PV.u (.slice none 0 0)) [] := ownL.nil _ _
 refine PL.nil (hK1 _ _ ?_)
 refine A2 0 f0 1 f1 fun F f0 f1 => ?_
 refine SR fun K2 hK2 => ?_
 refine PL.litO (rep := I) (xs := []) 1004 rfl rfl rfl (by decide) qj rfl (by decide) (bm0) rfl rfl fun q3 H o1004 fz4 => ?_
 refine Q1 _ (jf (e_ q3)) ?_
 refine PL.nil (hK2 _ _ ?_)
 refine A3 0 f0 1 f1 5 (e_ q3) fun F f0 f1 f5 => ?_
 refine PC.seq fun K5 hK5 => ?_
 refine SR fun K6 hK6 => ?_
 refine Q1 _ (jf (e_ (I 0))) ?_
 refine PL.nil (hK6 _ _ ?_)
 refine A4 0 f0 1 f1 5 f5 6 (e_ (I 0)) fun F f0 f1 f5 f6 => ?_
 refine PC.block ?_
 obtain ⟨o13, ho13, h0⟩ := bs h0
 obtain ⟨B14, hB14, ho13⟩ := G.loop_some ho13
 refine PC.loop (fun m17 F H => ∃ s30 : (Int × (List Int)), ∃ q12, qw B14 m17 s30 = some o13 ∧ F 0 = (slI a0) ∧ F 1 = (I a1) ∧ F 5 = q12 ∧ F 6 = (I s30.1) ∧ ownL 3 1 I H 1004 q12 s30.2) (m := nn) ⟨(0, []), q3, ho13, f0, f1, f5, f6, o1004⟩ fun m17 F H hI => ?_
 obtain ⟨⟨x10, x11⟩, q12, ho13, f0, f1, f5, f6, o1004⟩ := hI
 obtain ⟨m17, rfl, st15, hs16, ho13⟩ := jw ho13
 rw [hB14] at hs16
 try dsimp only at hs16
 refine PC.seq fun K18 hK18 => ?_
 refine SR fun K19 hK19 => ?_
 refine Q1 _ (jb f6) ?_
 refine Q1 _ (jb f0) ?_
 refine Q1 (I (a0.length : Int)) (qg (rep := I) (xs := a0) ql (e_ (slI a0))) ?_
 refine Q1 _ (jh rfl (e_ (I x10)) (e_ (I (a0.length : Int))) jv) ?_
 refine PL.nil (hK19 _ _ ?_)
 refine A5 0 f0 1 f1 5 f5 6 f6 11 (e_ (B (decide (x10 < (a0.length : Int))))) fun F f0 f1 f5 f6 f11 => ?_
 rcases cz hs16 with ⟨hb20, hs16⟩ | ⟨hb20, hs16⟩
 refine PC.condTb f11 hb20 ?_
 refine PC.skip ?_
 refine hK18 _ _ ?_
 refine A4 0 f0 1 f1 5 f5 6 f6 fun F f0 f1 f5 f6 => ?_
 refine PC.seq fun K21 hK21 => ?_
 refine PC.block ?_
 refine PC.region ?_
 refine Q1 _ (jb f5) ?_
 refine Q1 _ (jb f0) ?_
 refine Q1 _ (jb f6) ?_
 obtain ⟨x22, hx22, hs16⟩ := bs hs16
 refine Q1 (PV.rp (I x22).cells) (j1 (rep := I) (xs := a0) vk (e_ (slI a0)) (e_ (I x10)) hx22) ?_
 refine Q1 (I x22) (qr qz (e_ (PV.rp (I x22).cells))) ?_
 refine Q1 _ (jb f1) ?_
 refine Q1 _ (jh rfl (e_ (I x22)) (e_ (I a1)) j3) ?_
 refine Q3 (slI ([(w64 (x22 + a1))] : List Int)) (yx (rep := I) (xs := [(w64 (x22 + a1))]) qj rfl (by decide) (bm (e_ (I (w64 (x22 + a1)))) (bm0)) rfl rfl) ?_
 obtain ⟨x23, hx23, hs16⟩ := bs hs16
 refine PL.appG (rep := I) (ys := ([(w64 (x22 + a1))] : List Int)) rfl rfl rfl (by decide) qj (e_ q12) o1004 (e_ (slI ([(w64 (x22 + a1))] : List Int))) (fun _ => rfl) (lf1 (fun _ => rfl) (fun _ => rfl)) hx23 fun q24 H o1004 fz25 => ?_
 refine Q1 _ (jf (e_ q24)) ?_
 refine PL.nil (hK21 _ _ ?_)
 refine A4 0 f0 1 f1 5 (e_ q24) 6 f6 fun F f0 f1 f5 f6 => ?_
 refine PC.region ?_
 refine Q1 _ (jb f6) ?_
 refine Q1 _ (jh rfl (e_ (I x10)) (e_ (I 1)) j3) ?_
 refine Q1 _ (jf (e_ (I (w64 (x10 + 1))))) ?_
 refine PL.nil ?_
 have hs16 := pz hs16
 subst hs16
 exact ⟨m17, Nat.lt_succ_self _, ((w64 (x10 + 1)), x23), q24, ho13, f0, f1, f5, (e_ (I (w64 (x10 + 1)))), o1004⟩
 refine PC.condFb f11 hb20 ?_
 refine PC.exit ?_
 have hs16 := pz hs16
 subst hs16
 try dsimp only at ho13
 subst ho13
 try dsimp only at h0
 refine hK5 _ _ ?_
 refine A1 5 f5 fun F f5 => ?_
 refine SR fun K26 hK26 => ?_
 refine Q1 _ (jb f5) ?_
 refine Q1 _ (jf (e_ q12)) ?_
 refine PL.nil (hK26 _ _ ?_)
 refine A1 4 (e_ q12) fun F f4 => ?_
 refine PC.ret ?_
 have h0 := pz h0
 subst h0
 exact za (.inr rfl) (j9 Try.results44 f4) o1004 (fun _ => rfl)
theorem zba {nn : Nat} {a0 : (List Int)} {a1 : Int} {r : (List Int)} (h0 : Qn a0 a1 nn = some r) : PCall Try.prog 44 [slI a0, I a1] (· = slI r) := (zfj h0).forget
def V5 (a0 : (List jo)) : G (List Int) :=
  G.bind (Qi a0) fun x4 => G.cond (decide (¬ x4 = 0)) (G.pure []) (G.bind (zz a0 (w64 ((a0.length : Int) - 1)) false) fun x10 => G.pure x10)
theorem zfq {nn : Nat} {a0 : (List jo)} {r : (List Int)} (h0 : V5 a0 nn = some r) : PCall Try.prog 46 [ja a0] (· = PV.fr 3 1 (r.map I)) := by
 unfold V5 at h0
 refine PCall.intro' Try.func46 rfl Try.ntmps46 (by simp) fun W => ?_
 refine A1 0 (e_ (ja a0)) fun F f0 => ?_
 generalize PHeap.empty = H
 refine SR fun K1 hK1 => ?_
 refine Q1 (PV.u (.slice none 0 0)) (jf rfl) ?_
 have o1002 : ownL 3 1 I H 1002 (PV.u (.slice none 0 0)) [] := ownL.nil _ _
 refine PL.nil (hK1 _ _ ?_)
 refine A1 0 f0 fun F f0 => ?_
 refine PC.seq fun K2 hK2 => ?_
 refine SR fun K3 hK3 => ?_
 refine Q1 _ (jb f0) ?_
 obtain ⟨x4, hx4, h0⟩ := bs h0
 refine Q3 (I x4) (j0 (by kernel_rfl) (am (e_ (ja a0)) (am0)) (js (jt _) (j2)) (Yh hx4)) ?_
 refine Q1 _ (jh rfl (e_ (I x4)) (e_ (I 0)) yc) ?_
 refine PL.nil (hK3 _ _ ?_)
 refine A2 0 f0 5 (e_ (B (decide (¬ x4 = 0)))) fun F f0 f5 => ?_
 rcases cz h0 with ⟨hb5, h0⟩ | ⟨hb5, h0⟩
 refine PC.condTb f5 hb5 ?_
 refine SR fun K6 hK6 => ?_
 refine PL.litO (rep := I) (xs := []) 1002 rfl rfl rfl (by decide) qj rfl (by decide) (bm0) rfl rfl fun q7 H o1002 fz8 => ?_
 refine Q1 _ (jf (e_ q7)) ?_
 refine PL.nil (hK6 _ _ ?_)
 refine A1 2 (e_ q7) fun F f2 => ?_
 refine PC.ret ?_
 have h0 := pz h0
 subst h0
 exact za (.inr rfl) (j9 Try.results46 f2) o1002 (fun _ => rfl)
 refine PC.condFb f5 hb5 ?_
 refine PC.skip ?_
 refine hK2 _ _ ?_
 refine A1 0 f0 fun F f0 => ?_
 refine SR fun K9 hK9 => ?_
 refine Q1 _ (jb f0) ?_
 refine Q1 _ (jb f0) ?_
 refine Q1 (I (a0.length : Int)) (qg (rep := jr) (xs := a0) Jj (e_ (ja a0))) ?_
 refine Q1 _ (jh rfl (e_ (I (a0.length : Int))) (e_ (I 1)) Jb) ?_
 obtain ⟨x10, hx10, h0⟩ := bs h0
 refine PL.callG (rep := I) (enc := (Value.int .i64)) 1002 rfl rfl rfl (by decide) (by kernel_rfl) (am (e_ (ja a0)) (am (e_ (I (w64 ((a0.length : Int) - 1)))) (am (e_ (B false)) (am0)))) (Yr (Qb _) (Yr (.u _) (Yr (.u _) (zkn)))) (Y0 hx10) (fun _ => rfl) fun q11 H o1002 fz12 => ?_
 refine Q1 _ (jf (e_ q11)) ?_
 refine PL.nil (hK9 _ _ ?_)
 refine A1 2 (e_ q11) fun F f2 => ?_
 refine PC.ret ?_
 have h0 := pz h0
 subst h0
 exact za (.inr rfl) (j9 Try.results46 f2) o1002 (fun _ => rfl)
theorem zfd {nn : Nat} {a0 : (List jo)} {r : (List Int)} (h0 : V5 a0 nn = some r) : PCall Try.prog 46 [ja a0] (· = slI r) := (zfq h0).forget
def zal (a0 : (List q6)) : G jy :=
  G.bind (G.loop (σ := (Int × (List (Arr 4 Int)) × (List Int) × (List Bool) × (List (List Int)) × (List Int))) (α := ((List (Arr 4 Int)) × (List Int) × (List Bool) × (List (List Int)) × (List Int))) (fun (x25, x26, x28, x30, x32, x34) => G.cond (decide (x25 < (a0.length : Int))) (G.bind (G.lift (idx a0 x25)) fun x47 => G.bind (Yn x47.Zp) fun x48 => G.bind (G.lift (idx a0 x25)) fun x50 => G.bind (Yp x50.Zp) fun x51 => G.bind (G.loop (σ := (Int × (List (Arr 4 Int)) × (List Int) × (List Bool) × (List (List Int)))) (α := ((List (Arr 4 Int)) × (List Int) × (List Bool) × (List (List Int)))) (fun (x70, x71, x73, x75, x77) => G.cond (decide (x70 < (x48.length : Int))) (G.bind (G.lift (idx x48 x70)) fun x89 => G.bind (G.lift (app 32 x71 ([x89] : List (Arr 4 Int)))) fun x90 => G.bind (G.lift (app 8 x73 ([x25] : List Int))) fun x95 => G.bind (Zo x51 x70) fun x100 => G.bind (G.lift (app 1 x75 ([x100] : List Bool))) fun x101 => G.bind (G.lift (idx a0 x25)) fun x105 => G.bind (Q9 x105.Zp x70) fun x106 => G.bind (Qn x106 (x26.length : Int)) fun x107 => G.bind (G.lift (app 24 x77 ([x107] : List (List Int)))) fun x108 => G.pure (.inl ((w64 (x70 + 1)), x90, x95, x101, x108))) (G.pure (.inr (x71, x73, x75, x77)))) (0, x26, x28, x30, x32)) fun (x119, x121, x123, x125) => G.bind (G.lift (idx a0 x25)) fun x127 => G.bind (V5 x127.Zp) fun x128 => G.bind (Qn x128 (x26.length : Int)) fun x129 => G.bind (G.lift (app 8 x34 x129)) fun x130 => G.pure (.inl ((w64 (x25 + 1)), x119, x121, x123, x125, x130))) (G.pure (.inr (x26, x28, x30, x32, x34)))) (0, [], [], [], [], [])) fun (x142, x144, x146, x148, x150) => G.pure (⟨((⟨x142, x144, x146, x148, x150⟩ : jy).jm), ((⟨x142, x144, x146, x148, x150⟩ : jy).yd), ((⟨x142, x144, x146, x148, x150⟩ : jy).qv), ((⟨x142, x144, x146, x148, x150⟩ : jy).qp), ((⟨x142, x144, x146, x148, x150⟩ : jy).Qc)⟩ : jy)
theorem zgb {nn : Nat} {a0 : (List q6)} {r : jy} (h0 : zal a0 nn = some r) : PCall Try.prog 27 [vg a0] (· = jn r) := by
 unfold zal at h0
 refine PCall.intro' Try.func27 rfl Try.ntmps27 (by simp) fun W => ?_
 refine A1 0 (e_ (vg a0)) fun F f0 => ?_
 generalize PHeap.empty = H
 refine SR fun K1 hK1 => ?_
 refine PL.allocA 202 (cs := [(PV.u (.slice none 0 0)), (PV.u (.slice none 0 0)), (PV.u (.slice none 0 0)), (PV.u (.slice none 0 0)), (PV.u (.slice none 0 0))]) rfl rfl rfl (by decide) zjs (by kernel_rfl) (by kernel_rfl) fun v202 H b202 fz2 => ?_
 refine PL.recell (cs' := [(jg []), (slI []), (slB []), (qk []), (slI [])]) b202 (WeakL.cons (Weak.nil _) (WeakL.cons (Weak.nil _) (WeakL.cons (Weak.nil _) (WeakL.cons (Weak.nil _) (WeakL.cons (Weak.nil _) (WeakL.nil)))))) fun H b202 fz3 => ?_
 refine PL.nil (hK1 _ _ ?_)
 refine A2 0 f0 2 (e_ (PV.pp 202 0 v202)) fun F f0 f2 => ?_
 refine SR fun K4 hK4 => ?_
 refine Q1 (PV.agg [(PV.u (.slice none 0 0)), (PV.u (.slice none 0 0)), (PV.u (.slice none 0 0)), (PV.u (.slice none 0 0)), (PV.u (.slice none 0 0))]) (Jg (bm0) (by kernel_rfl)) ?_
 refine PL.allocA 203 (cs := [(PV.u (.slice none 0 0)), (PV.u (.slice none 0 0)), (PV.u (.slice none 0 0)), (PV.u (.slice none 0 0)), (PV.u (.slice none 0 0))]) rfl rfl rfl (by decide) zjs (by kernel_rfl) (by kernel_rfl) fun v203 H b203 fz5 => ?_
 have b202 := (fz5 202 (by decide)).trans b202
 have o1038 : ownL 82 4 (arV (n := 4) (iK .u64)) H 1038 (PV.u (.slice none 0 0)) [] := ownL.nil _ _
 have o1047 : ownL 3 1 I H 1047 (PV.u (.slice none 0 0)) [] := ownL.nil _ _
 have o1053 : ownL 4 1 B H 1053 (PV.u (.slice none 0 0)) [] := ownL.nil _ _
 have o1061 : ownL 24 1 slI H 1061 (PV.u (.slice none 0 0)) [] := ownL.nil _ _
 have o1075 : ownL 3 1 I H 1075 (PV.u (.slice none 0 0)) [] := ownL.nil _ _
 refine PL.storeA (ag := true) (cs' := [(PV.u (.slice none 0 0)), (PV.u (.slice none 0 0)), (PV.u (.slice none 0 0)), (PV.u (.slice none 0 0)), (PV.u (.slice none 0 0))]) (ps := [(PV.u (.slice none 0 0)), (PV.u (.slice none 0 0)), (PV.u (.slice none 0 0)), (PV.u (.slice none 0 0)), (PV.u (.slice none 0 0))]) rfl rfl (fun _ h => by cases h) (e_ (PV.pp 203 0 v203)) b203 Qv (e_ (PV.agg [(PV.u (.slice none 0 0)), (PV.u (.slice none 0 0)), (PV.u (.slice none 0 0)), (PV.u (.slice none 0 0)), (PV.u (.slice none 0 0))])) rfl rfl rfl (by decide) rfl fun H b203 fz6 => ?_
 have b202 := (fz6 202 (by decide)).trans b202
 have o1038 := o1038.mono (fz6 1038 (by decide))
 have o1047 := o1047.mono (fz6 1047 (by decide))
 have o1053 := o1053.mono (fz6 1053 (by decide))
 have o1061 := o1061.mono (fz6 1061 (by decide))
 have o1075 := o1075.mono (fz6 1075 (by decide))
 have o1038 : ownL 82 4 (arV (n := 4) (iK .u64)) H 1038 (PV.u (.slice none 0 0)) [] := ownL.nil _ _
 have o1047 : ownL 3 1 I H 1047 (PV.u (.slice none 0 0)) [] := ownL.nil _ _
 have o1053 : ownL 4 1 B H 1053 (PV.u (.slice none 0 0)) [] := ownL.nil _ _
 have o1061 : ownL 24 1 slI H 1061 (PV.u (.slice none 0 0)) [] := ownL.nil _ _
 have o1075 : ownL 3 1 I H 1075 (PV.u (.slice none 0 0)) [] := ownL.nil _ _
 refine PL.nil (hK4 _ _ ?_)
 refine A3 0 f0 2 f2 3 (e_ (PV.pp 203 0 v203)) fun F f0 f2 f3 => ?_
 refine PC.seq fun K7 hK7 => ?_
 refine SR fun K8 hK8 => ?_
 refine Q1 _ (jf (e_ (I 0))) ?_
 refine PL.nil (hK8 _ _ ?_)
 refine A4 0 f0 2 f2 3 f3 4 (e_ (I 0)) fun F f0 f2 f3 f4 => ?_
 refine PC.block ?_
 obtain ⟨o36, ho36, h0⟩ := bs h0
 obtain ⟨B37, hB37, ho36⟩ := G.loop_some ho36
 refine PC.loop (fun m40 F H => ∃ s159 : (Int × (List (Arr 4 Int)) × (List Int) × (List Bool) × (List (List Int)) × (List Int)), ∃ q27, ∃ q29, ∃ q31, ∃ q33, ∃ q35, qw B37 m40 s159 = some o36 ∧ F 0 = (vg a0) ∧ F 2 = (PV.pp 202 0 v202) ∧ F 3 = (PV.pp 203 0 v203) ∧ F 4 = (I s159.1) ∧ H 202 = ⟨v202, some (.box 64 [(jg []), (slI []), (slB []), (qk []), (slI [])])⟩ ∧ H 203 = ⟨v203, some (.box 64 [q27, q29, q31, q33, q35])⟩ ∧ ownL 82 4 (arV (n := 4) (iK .u64)) H 1038 q27 s159.2.1 ∧ ownL 3 1 I H 1047 q29 s159.2.2.1 ∧ ownL 4 1 B H 1053 q31 s159.2.2.2.1 ∧ ownL 24 1 slI H 1061 q33 s159.2.2.2.2.1 ∧ ownL 3 1 I H 1075 q35 s159.2.2.2.2.2) (m := nn) ⟨(0, [], [], [], [], []), (PV.u (.slice none 0 0)), (PV.u (.slice none 0 0)), (PV.u (.slice none 0 0)), (PV.u (.slice none 0 0)), (PV.u (.slice none 0 0)), ho36, f0, f2, f3, f4, b202, b203, o1038, o1047, o1053, o1061, o1075⟩ fun m40 F H hI => ?_
 obtain ⟨⟨x25, x26, x28, x30, x32, x34⟩, q27, q29, q31, q33, q35, ho36, f0, f2, f3, f4, b202, b203, o1038, o1047, o1053, o1061, o1075⟩ := hI
 obtain ⟨m40, rfl, st38, hs39, ho36⟩ := jw ho36
 rw [hB37] at hs39
 try dsimp only at hs39
 refine PC.seq fun K41 hK41 => ?_
 refine SR fun K42 hK42 => ?_
 refine Q1 _ (jb f4) ?_
 refine Q1 _ (jb f0) ?_
 refine Q1 (I (a0.length : Int)) (qg (rep := qd) (xs := a0) zla (e_ (vg a0))) ?_
 refine Q1 _ (jh rfl (e_ (I x25)) (e_ (I (a0.length : Int))) jv) ?_
 refine PL.nil (hK42 _ _ ?_)
 refine A5 0 f0 2 f2 3 f3 4 f4 13 (e_ (B (decide (x25 < (a0.length : Int))))) fun F f0 f2 f3 f4 f13 => ?_
 rcases cz hs39 with ⟨hb43, hs39⟩ | ⟨hb43, hs39⟩
 refine PC.condTb f13 hb43 ?_
 refine PC.skip ?_
 refine hK41 _ _ ?_
 refine A4 0 f0 2 f2 3 f3 4 f4 fun F f0 f2 f3 f4 => ?_
 refine PC.seq fun K44 hK44 => ?_
 refine PC.block ?_
 refine SR fun K45 hK45 => ?_
 refine Q1 (PV.pp 203 0 v203) (yu Jd y4 (by decide) f3 b203) ?_
 refine Q1 q27 (vm y4 (e_ (PV.pp 203 0 v203)) b203 rfl) ?_
 refine Q1 (I (x26.length : Int)) (Vu zd o1038 (e_ q27)) ?_
 refine Q1 _ (jf (e_ (I (x26.length : Int)))) ?_
 refine PL.nil (hK45 _ _ ?_)
 refine A5 0 f0 2 f2 3 f3 4 f4 5 (e_ (I (x26.length : Int))) fun F f0 f2 f3 f4 f5 => ?_
 refine SR fun K46 hK46 => ?_
 refine Q1 _ (jb f0) ?_
 refine Q1 _ (jb f4) ?_
 obtain ⟨x47, hx47, hs39⟩ := bs hs39
 refine Q1 (PV.rp (qd x47).cells) (j1 (rep := qd) (xs := a0) zi8 (e_ (vg a0)) (e_ (I x25)) hx47) ?_
 refine Q1 (PV.rp ((qd x47).cells.drop 1)) (j8 zdg zaz (by decide) (e_ (PV.rp (qd x47).cells))) ?_
 refine Q1 (ja x47.Zp) (jx zaz (e_ (PV.rp ((qd x47).cells.drop 1))) (Qu x47)) ?_
 obtain ⟨x48, hx48, hs39⟩ := bs hs39
 refine Q3 (jg x48) (j0 (by kernel_rfl) (am (e_ (ja x47.Zp)) (am0)) (js (jt _) (j2)) (zb9 hx48)) ?_
 refine Q1 _ (jf (e_ (jg x48))) ?_
 refine PL.nil (hK46 _ _ ?_)
 refine A6 0 f0 2 f2 3 f3 4 f4 5 f5 6 (e_ (jg x48)) fun F f0 f2 f3 f4 f5 f6 => ?_
 refine SR fun K49 hK49 => ?_
 refine Q1 _ (jb f0) ?_
 refine Q1 _ (jb f4) ?_
 obtain ⟨x50, hx50, hs39⟩ := bs hs39
 refine Q1 (PV.rp (qd x50).cells) (j1 (rep := qd) (xs := a0) zi8 (e_ (vg a0)) (e_ (I x25)) hx50) ?_
 refine Q1 (PV.rp ((qd x50).cells.drop 1)) (j8 zdg zaz (by decide) (e_ (PV.rp (qd x50).cells))) ?_
 refine Q1 (ja x50.Zp) (jx zaz (e_ (PV.rp ((qd x50).cells.drop 1))) (Qu x50)) ?_
 obtain ⟨x51, hx51, hs39⟩ := bs hs39
 refine Q3 (slI x51) (j0 (by kernel_rfl) (am (e_ (ja x50.Zp)) (am0)) (js (jt _) (j2)) (zhh hx51)) ?_
 refine Q1 _ (jf (e_ (slI x51))) ?_
 refine PL.nil (hK49 _ _ ?_)
 refine A7 0 f0 2 f2 3 f3 4 f4 5 f5 6 f6 7 (e_ (slI x51)) fun F f0 f2 f3 f4 f5 f6 f7 => ?_
 refine PC.seq fun K52 hK52 => ?_
 refine SR fun K53 hK53 => ?_
 refine Q1 _ (jf (e_ (I 0))) ?_
 refine PL.nil (hK53 _ _ ?_)
 refine A8 0 f0 2 f2 3 f3 4 f4 5 f5 6 f6 7 f7 8 (e_ (I 0)) fun F f0 f2 f3 f4 f5 f6 f7 f8 => ?_
 refine PC.block ?_
 obtain ⟨o79, ho79, hs39⟩ := bs hs39
 obtain ⟨B80, hB80, ho79⟩ := G.loop_some ho79
 refine PC.loop (fun m83 F H => ∃ s134 : (Int × (List (Arr 4 Int)) × (List Int) × (List Bool) × (List (List Int))), ∃ q72, ∃ q74, ∃ q76, ∃ q78, qw B80 m83 s134 = some o79 ∧ F 0 = (vg a0) ∧ F 2 = (PV.pp 202 0 v202) ∧ F 3 = (PV.pp 203 0 v203) ∧ F 4 = (I x25) ∧ F 5 = (I (x26.length : Int)) ∧ F 6 = (jg x48) ∧ F 7 = (slI x51) ∧ F 8 = (I s134.1) ∧ H 202 = ⟨v202, some (.box 64 [(jg []), (slI []), (slB []), (qk []), (slI [])])⟩ ∧ H 203 = ⟨v203, some (.box 64 [q72, q74, q76, q78, q35])⟩ ∧ ownL 82 4 (arV (n := 4) (iK .u64)) H 1038 q72 s134.2.1 ∧ ownL 3 1 I H 1047 q74 s134.2.2.1 ∧ ownL 4 1 B H 1053 q76 s134.2.2.2.1 ∧ ownL 24 1 slI H 1061 q78 s134.2.2.2.2 ∧ ownL 3 1 I H 1075 q35 x34) (m := nn) ⟨(0, x26, x28, x30, x32), q27, q29, q31, q33, ho79, f0, f2, f3, f4, f5, f6, f7, f8, b202, b203, o1038, o1047, o1053, o1061, o1075⟩ fun m83 F H hI => ?_
 obtain ⟨⟨x70, x71, x73, x75, x77⟩, q72, q74, q76, q78, ho79, f0, f2, f3, f4, f5, f6, f7, f8, b202, b203, o1038, o1047, o1053, o1061, o1075⟩ := hI
 obtain ⟨m83, rfl, st81, hs82, ho79⟩ := jw ho79
 rw [hB80] at hs82
 try dsimp only at hs82
 refine PC.seq fun K84 hK84 => ?_
 refine SR fun K85 hK85 => ?_
 refine Q1 _ (jb f8) ?_
 refine Q1 _ (jb f6) ?_
 refine Q1 (I (x48.length : Int)) (qg (rep := (arV (n := 4) (iK .u64))) (xs := x48) zd (e_ (jg x48))) ?_
 refine Q1 _ (jh rfl (e_ (I x70)) (e_ (I (x48.length : Int))) jv) ?_
 refine PL.nil (hK85 _ _ ?_)
 refine A9 0 f0 2 f2 3 f3 4 f4 5 f5 6 f6 7 f7 8 f8 34 (e_ (B (decide (x70 < (x48.length : Int))))) fun F f0 f2 f3 f4 f5 f6 f7 f8 f34 => ?_
 rcases cz hs82 with ⟨hb86, hs82⟩ | ⟨hb86, hs82⟩
 refine PC.condTb f34 hb86 ?_
 refine PC.skip ?_
 refine hK84 _ _ ?_
 refine A8 0 f0 2 f2 3 f3 4 f4 5 f5 6 f6 7 f7 8 f8 fun F f0 f2 f3 f4 f5 f6 f7 f8 => ?_
 refine PC.seq fun K87 hK87 => ?_
 refine PC.block ?_
 refine PC.seq fun K88 hK88 => ?_
 refine PC.regionT 7 mixed (by kernel_rfl) ?_
 refine Q2 (PV.pp 203 0 v203) (yu Jd y4 (by decide) f3 b203) ?_
 refine Q2 q72 (vm y4 (e_ (PV.pp 203 0 v203)) b203 rfl) ?_
 refine Q2 _ (jb f6) ?_
 refine Q2 _ (jb f8) ?_
 obtain ⟨x89, hx89, hs82⟩ := bs hs82
 refine Q2 (PV.rp ((arV (n := 4) (iK .u64)) x89).cells) (j1 (rep := (arV (n := 4) (iK .u64))) (xs := x48) zi0 (e_ (jg x48)) (e_ (I x70)) hx89) ?_
 refine Q2 ((arV (n := 4) (iK .u64)) x89) (vw qy (e_ (PV.rp ((arV (n := 4) (iK .u64)) x89).cells)) (jj _ _ (fun _ => rfl))) ?_
 refine Q4 (jg ([x89] : List (Arr 4 Int))) (yx (rep := (arV (n := 4) (iK .u64))) (xs := [x89]) zbs rfl (by decide) (bm (e_ ((arV (n := 4) (iK .u64)) x89)) (bm0)) (Vp (rep := (arV (n := 4) (iK .u64))) (xs := [x89]) rfl rfl (fun _ => (jj _ _ (fun _ => rfl))) (fun _ => (v8 _ _ _ (fun _ => rfl)))) rfl) ?_
 refine QF.nil ?_
 obtain ⟨x90, hx90, hs82⟩ := bs hs82
 refine PL.appG (rep := (arV (n := 4) (iK .u64))) (ys := ([x89] : List (Arr 4 Int))) rfl rfl rfl (by decide) zbs (e_ q72) o1038 (e_ (jg ([x89] : List (Arr 4 Int)))) (fun _ => (jj _ _ (fun _ => rfl))) (lfa (fun _ => zet _ _ _ (fun _ => rfl))) hx90 fun q91 H o1038 fz92 => ?_
 have b202 := (fz92 202 (by decide)).trans b202
 have b203 := (fz92 203 (by decide)).trans b203
 have o1047 := o1047.mono (fz92 1047 (by decide))
 have o1053 := o1053.mono (fz92 1053 (by decide))
 have o1061 := o1061.mono (fz92 1061 (by decide))
 have o1075 := o1075.mono (fz92 1075 (by decide))
 refine Q1 (PV.pp 203 0 v203) (yu Jd y4 (by decide) f3 b203) ?_
 refine PL.storeA (ag := false) (cs' := [q91, q74, q76, q78, q35]) (ps := [q91]) rfl rfl (fun _ h => by cases h) (e_ (PV.pp 203 0 v203)) b203 y4 (e_ q91) (Zw o1038) (Jt o1038) rfl (Nat.le_of_ble_eq_true rfl) rfl fun H b203 fz93 => ?_
 have b202 := (fz93 202 (by decide)).trans b202
 have o1038 := o1038.mono (fz93 1038 (by decide))
 have o1047 := o1047.mono (fz93 1047 (by decide))
 have o1053 := o1053.mono (fz93 1053 (by decide))
 have o1061 := o1061.mono (fz93 1061 (by decide))
 have o1075 := o1075.mono (fz93 1075 (by decide))
 refine PL.nil (hK88 _ _ ?_)
 refine A8 0 f0 2 f2 3 f3 4 f4 5 f5 6 f6 7 f7 8 f8 fun F f0 f2 f3 f4 f5 f6 f7 f8 => ?_
 refine SR fun K94 hK94 => ?_
 refine Q1 (PV.pp 203 1 v203) (yu zac qh (by decide) f3 b203) ?_
 refine Q1 q74 (vm qh (e_ (PV.pp 203 1 v203)) b203 rfl) ?_
 refine Q1 _ (jb f4) ?_
 refine Q3 (slI ([x25] : List Int)) (yx (rep := I) (xs := [x25]) qj rfl (by decide) (bm (e_ (I x25)) (bm0)) rfl rfl) ?_
 obtain ⟨x95, hx95, hs82⟩ := bs hs82
 refine PL.appG (rep := I) (ys := ([x25] : List Int)) rfl rfl rfl (by decide) qj (e_ q74) o1047 (e_ (slI ([x25] : List Int))) (fun _ => rfl) (lf1 (fun _ => rfl) (fun _ => rfl)) hx95 fun q96 H o1047 fz97 => ?_
 have b202 := (fz97 202 (by decide)).trans b202
 have b203 := (fz97 203 (by decide)).trans b203
 have o1038 := o1038.mono (fz97 1038 (by decide))
 have o1053 := o1053.mono (fz97 1053 (by decide))
 have o1061 := o1061.mono (fz97 1061 (by decide))
 have o1075 := o1075.mono (fz97 1075 (by decide))
 refine Q1 (PV.pp 203 1 v203) (yu zac qh (by decide) f3 b203) ?_
 refine PL.storeA (ag := false) (cs' := [q91, q96, q76, q78, q35]) (ps := [q96]) rfl rfl (fun _ h => by cases h) (e_ (PV.pp 203 1 v203)) b203 qh (e_ q96) (Zw o1047) (Jt o1047) rfl (Nat.le_of_ble_eq_true rfl) rfl fun H b203 fz98 => ?_
 have b202 := (fz98 202 (by decide)).trans b202
 have o1038 := o1038.mono (fz98 1038 (by decide))
 have o1047 := o1047.mono (fz98 1047 (by decide))
 have o1053 := o1053.mono (fz98 1053 (by decide))
 have o1061 := o1061.mono (fz98 1061 (by decide))
 have o1075 := o1075.mono (fz98 1075 (by decide))
 refine PL.nil (hK94 _ _ ?_)
 refine A8 0 f0 2 f2 3 f3 4 f4 5 f5 6 f6 7 f7 8 f8 fun F f0 f2 f3 f4 f5 f6 f7 f8 => ?_
 refine PC.seq fun K99 hK99 => ?_
 refine PC.regionT 6 mixed (by kernel_rfl) ?_
 refine Q2 (PV.pp 203 2 v203) (yu zdv zca (by decide) f3 b203) ?_
 refine Q2 q76 (vm zca (e_ (PV.pp 203 2 v203)) b203 rfl) ?_
 refine Q2 _ (jb f7) ?_
 refine Q2 _ (jb f8) ?_
 obtain ⟨x100, hx100, hs82⟩ := bs hs82
 refine Q4 (B x100) (j0 (by kernel_rfl) (am (e_ (slI x51)) (am (e_ (I x70)) (am0))) (js (ye _) (js (.u _) (j2))) (zcy hx100)) ?_
 refine Q4 (slB ([x100] : List Bool)) (yx (rep := B) (xs := [x100]) zd3 rfl (by decide) (bm (e_ (B x100)) (bm0)) rfl rfl) ?_
 refine QF.nil ?_
 obtain ⟨x101, hx101, hs82⟩ := bs hs82
 refine PL.appG (rep := B) (ys := ([x100] : List Bool)) rfl rfl rfl (by decide) zd3 (e_ q76) o1053 (e_ (slB ([x100] : List Bool))) (fun _ => rfl) (lf1 (fun _ => rfl) (fun _ => rfl)) hx101 fun q102 H o1053 fz103 => ?_
 have b202 := (fz103 202 (by decide)).trans b202
 have b203 := (fz103 203 (by decide)).trans b203
 have o1038 := o1038.mono (fz103 1038 (by decide))
 have o1047 := o1047.mono (fz103 1047 (by decide))
 have o1061 := o1061.mono (fz103 1061 (by decide))
 have o1075 := o1075.mono (fz103 1075 (by decide))
 refine Q1 (PV.pp 203 2 v203) (yu zdv zca (by decide) f3 b203) ?_
 refine PL.storeA (ag := false) (cs' := [q91, q96, q102, q78, q35]) (ps := [q102]) rfl rfl (fun _ h => by cases h) (e_ (PV.pp 203 2 v203)) b203 zca (e_ q102) (Zw o1053) (Jt o1053) rfl (Nat.le_of_ble_eq_true rfl) rfl fun H b203 fz104 => ?_
 have b202 := (fz104 202 (by decide)).trans b202
 have o1038 := o1038.mono (fz104 1038 (by decide))
 have o1047 := o1047.mono (fz104 1047 (by decide))
 have o1053 := o1053.mono (fz104 1053 (by decide))
 have o1061 := o1061.mono (fz104 1061 (by decide))
 have o1075 := o1075.mono (fz104 1075 (by decide))
 refine PL.nil (hK99 _ _ ?_)
 refine A8 0 f0 2 f2 3 f3 4 f4 5 f5 6 f6 7 f7 8 f8 fun F f0 f2 f3 f4 f5 f6 f7 f8 => ?_
 refine PC.regionT 12 mixed (by kernel_rfl) ?_
 refine Q2 (PV.pp 203 3 v203) (yu zbi qi (by decide) f3 b203) ?_
 refine Q2 q78 (vm qi (e_ (PV.pp 203 3 v203)) b203 rfl) ?_
 refine Q2 _ (jb f0) ?_
 refine Q2 _ (jb f4) ?_
 obtain ⟨x105, hx105, hs82⟩ := bs hs82
 refine Q2 (PV.rp (qd x105).cells) (j1 (rep := qd) (xs := a0) zi8 (e_ (vg a0)) (e_ (I x25)) hx105) ?_
 refine Q2 (PV.rp ((qd x105).cells.drop 1)) (j8 zdg zaz (by decide) (e_ (PV.rp (qd x105).cells))) ?_
 refine Q2 (ja x105.Zp) (jx zaz (e_ (PV.rp ((qd x105).cells.drop 1))) (Qu x105)) ?_
 refine Q2 _ (jb f8) ?_
 obtain ⟨x106, hx106, hs82⟩ := bs hs82
 refine Q4 (slI x106) (j0 (by kernel_rfl) (am (e_ (ja x105.Zp)) (am (e_ (I x70)) (am0))) (js (jt _) (js (.u _) (j2))) (zeg hx106)) ?_
 refine Q2 _ (jb f5) ?_
 obtain ⟨x107, hx107, hs82⟩ := bs hs82
 refine Q4 (slI x107) (j0 (by kernel_rfl) (am (e_ (slI x106)) (am (e_ (I (x26.length : Int))) (am0))) (js (ye _) (js (.u _) (j2))) (zba hx107)) ?_
 refine Q4 (qk ([x107] : List (List Int))) (yx (rep := slI) (xs := [x107]) Qh rfl (by decide) (bm (e_ (slI x107)) (bm0)) rfl rfl) ?_
 refine QF.nil ?_
 obtain ⟨x108, hx108, hs82⟩ := bs hs82
 refine PL.appG (rep := slI) (ys := ([x107] : List (List Int))) rfl rfl rfl (by decide) Qh (e_ q78) o1061 (e_ (qk ([x107] : List (List Int)))) (fun _ => rfl) (lf1 (fun _ => rfl) (fun _ => rfl)) hx108 fun q109 H o1061 fz110 => ?_
 have b202 := (fz110 202 (by decide)).trans b202
 have b203 := (fz110 203 (by decide)).trans b203
 have o1038 := o1038.mono (fz110 1038 (by decide))
 have o1047 := o1047.mono (fz110 1047 (by decide))
 have o1053 := o1053.mono (fz110 1053 (by decide))
 have o1075 := o1075.mono (fz110 1075 (by decide))
 refine Q1 (PV.pp 203 3 v203) (yu zbi qi (by decide) f3 b203) ?_
 refine PL.storeA (ag := false) (cs' := [q91, q96, q102, q109, q35]) (ps := [q109]) rfl rfl (fun _ h => by cases h) (e_ (PV.pp 203 3 v203)) b203 qi (e_ q109) (Zw o1061) (Jt o1061) rfl (Nat.le_of_ble_eq_true rfl) rfl fun H b203 fz111 => ?_
 have b202 := (fz111 202 (by decide)).trans b202
 have o1038 := o1038.mono (fz111 1038 (by decide))
 have o1047 := o1047.mono (fz111 1047 (by decide))
 have o1053 := o1053.mono (fz111 1053 (by decide))
 have o1061 := o1061.mono (fz111 1061 (by decide))
 have o1075 := o1075.mono (fz111 1075 (by decide))
 refine PL.nil (hK87 _ _ ?_)
 refine A8 0 f0 2 f2 3 f3 4 f4 5 f5 6 f6 7 f7 8 f8 fun F f0 f2 f3 f4 f5 f6 f7 f8 => ?_
 refine PC.region ?_
 refine Q1 _ (jb f8) ?_
 refine Q1 _ (jh rfl (e_ (I x70)) (e_ (I 1)) j3) ?_
 refine Q1 _ (jf (e_ (I (w64 (x70 + 1))))) ?_
 refine PL.nil ?_
 have hs82 := pz hs82
 subst hs82
 exact ⟨m83, Nat.lt_succ_self _, ((w64 (x70 + 1)), x90, x95, x101, x108), q91, q96, q102, q109, ho79, f0, f2, f3, f4, f5, f6, f7, (e_ (I (w64 (x70 + 1)))), b202, b203, o1038, o1047, o1053, o1061, o1075⟩
 refine PC.condFb f34 hb86 ?_
 refine PC.exit ?_
 have hs82 := pz hs82
 subst hs82
 try dsimp only at ho79
 subst ho79
 try dsimp only at hs39
 refine hK52 _ _ ?_
 refine A5 0 f0 2 f2 3 f3 4 f4 5 f5 fun F f0 f2 f3 f4 f5 => ?_
 refine PC.regionT 10 mixed (by kernel_rfl) ?_
 refine Q2 (PV.pp 203 4 v203) (yu zd5 qh (by decide) f3 b203) ?_
 refine Q2 q35 (vm qh (e_ (PV.pp 203 4 v203)) b203 rfl) ?_
 refine Q2 _ (jb f0) ?_
 refine Q2 _ (jb f4) ?_
 obtain ⟨x112, hx112, hs39⟩ := bs hs39
 refine Q2 (PV.rp (qd x112).cells) (j1 (rep := qd) (xs := a0) zi8 (e_ (vg a0)) (e_ (I x25)) hx112) ?_
 refine Q2 (PV.rp ((qd x112).cells.drop 1)) (j8 zdg zaz (by decide) (e_ (PV.rp (qd x112).cells))) ?_
 refine Q2 (ja x112.Zp) (jx zaz (e_ (PV.rp ((qd x112).cells.drop 1))) (Qu x112)) ?_
 obtain ⟨x113, hx113, hs39⟩ := bs hs39
 refine Q4 (slI x113) (j0 (by kernel_rfl) (am (e_ (ja x112.Zp)) (am0)) (js (jt _) (j2)) (zfd hx113)) ?_
 refine Q2 _ (jb f5) ?_
 obtain ⟨x114, hx114, hs39⟩ := bs hs39
 refine Q4 (slI x114) (j0 (by kernel_rfl) (am (e_ (slI x113)) (am (e_ (I (x26.length : Int))) (am0))) (js (ye _) (js (.u _) (j2))) (zba hx114)) ?_
 refine QF.nil ?_
 obtain ⟨x115, hx115, hs39⟩ := bs hs39
 refine PL.appG (rep := I) (ys := x114) rfl rfl rfl (by decide) qj (e_ q35) o1075 (e_ (slI x114)) (fun _ => rfl) (lf1 (fun _ => rfl) (fun _ => rfl)) hx115 fun q116 H o1075 fz117 => ?_
 have b202 := (fz117 202 (by decide)).trans b202
 have b203 := (fz117 203 (by decide)).trans b203
 have o1038 := o1038.mono (fz117 1038 (by decide))
 have o1047 := o1047.mono (fz117 1047 (by decide))
 have o1053 := o1053.mono (fz117 1053 (by decide))
 have o1061 := o1061.mono (fz117 1061 (by decide))
 refine Q1 (PV.pp 203 4 v203) (yu zd5 qh (by decide) f3 b203) ?_
 refine PL.storeA (ag := false) (cs' := [q72, q74, q76, q78, q116]) (ps := [q116]) rfl rfl (fun _ h => by cases h) (e_ (PV.pp 203 4 v203)) b203 qh (e_ q116) (Zw o1075) (Jt o1075) rfl (Nat.le_of_ble_eq_true rfl) rfl fun H b203 fz118 => ?_
 have b202 := (fz118 202 (by decide)).trans b202
 have o1038 := o1038.mono (fz118 1038 (by decide))
 have o1047 := o1047.mono (fz118 1047 (by decide))
 have o1053 := o1053.mono (fz118 1053 (by decide))
 have o1061 := o1061.mono (fz118 1061 (by decide))
 have o1075 := o1075.mono (fz118 1075 (by decide))
 refine PL.nil (hK44 _ _ ?_)
 refine A4 0 f0 2 f2 3 f3 4 f4 fun F f0 f2 f3 f4 => ?_
 refine PC.region ?_
 refine Q1 _ (jb f4) ?_
 refine Q1 _ (jh rfl (e_ (I x25)) (e_ (I 1)) j3) ?_
 refine Q1 _ (jf (e_ (I (w64 (x25 + 1))))) ?_
 refine PL.nil ?_
 have hs39 := pz hs39
 subst hs39
 exact ⟨m40, Nat.lt_succ_self _, ((w64 (x25 + 1)), x71, x73, x75, x77, x115), q72, q74, q76, q78, q116, ho36, f0, f2, f3, (e_ (I (w64 (x25 + 1)))), b202, b203, o1038, o1047, o1053, o1061, o1075⟩
 refine PC.condFb f13 hb43 ?_
 refine PC.exit ?_
 have hs39 := pz hs39
 subst hs39
 try dsimp only at ho36
 subst ho36
 try dsimp only at h0
 refine hK7 _ _ ?_
 refine A2 2 f2 3 f3 fun F f2 f3 => ?_
 refine PC.seq fun K135 hK135 => ?_
 refine PC.freezeC (rep := (arV (n := 4) (iK .u64))) (cs' := [(jg x26), q29, q31, q33, q35]) (i := 0) b203 rfl o1038 (fun _ => (jj _ _ (fun _ => rfl))) (by decide) rfl fun H b203 fz136 => ?_
 have b202 := (fz136 202 (by decide) (by decide)).trans b202
 have o1047 := o1047.mono (fz136 1047 (by decide) (by decide))
 have o1053 := o1053.mono (fz136 1053 (by decide) (by decide))
 have o1061 := o1061.mono (fz136 1061 (by decide) (by decide))
 have o1075 := o1075.mono (fz136 1075 (by decide) (by decide))
 refine PC.freezeC (rep := I) (cs' := [(jg x26), (slI x28), q31, q33, q35]) (i := 1) b203 rfl o1047 (fun _ => rfl) (by decide) rfl fun H b203 fz137 => ?_
 have b202 := (fz137 202 (by decide) (by decide)).trans b202
 have o1053 := o1053.mono (fz137 1053 (by decide) (by decide))
 have o1061 := o1061.mono (fz137 1061 (by decide) (by decide))
 have o1075 := o1075.mono (fz137 1075 (by decide) (by decide))
 refine PC.freezeC (rep := B) (cs' := [(jg x26), (slI x28), (slB x30), q33, q35]) (i := 2) b203 rfl o1053 (fun _ => rfl) (by decide) rfl fun H b203 fz138 => ?_
 have b202 := (fz138 202 (by decide) (by decide)).trans b202
 have o1061 := o1061.mono (fz138 1061 (by decide) (by decide))
 have o1075 := o1075.mono (fz138 1075 (by decide) (by decide))
 refine PC.freezeC (rep := slI) (cs' := [(jg x26), (slI x28), (slB x30), (qk x32), q35]) (i := 3) b203 rfl o1061 (fun _ => rfl) (by decide) rfl fun H b203 fz139 => ?_
 have b202 := (fz139 202 (by decide) (by decide)).trans b202
 have o1075 := o1075.mono (fz139 1075 (by decide) (by decide))
 refine PC.freezeC (rep := I) (cs' := [(jg x26), (slI x28), (slB x30), (qk x32), (slI x34)]) (i := 4) b203 rfl o1075 (fun _ => rfl) (by decide) rfl fun H b203 fz140 => ?_
 have b202 := (fz140 202 (by decide) (by decide)).trans b202
 refine PC.region ?_
 refine Q1 (jn (⟨x26, x28, x30, x32, x34⟩ : jy)) (vm Qv f3 b203 (yo (yb (⟨x26, x28, x30, x32, x34⟩ : jy)))) ?_
 refine PL.storeA (ag := true) (cs' := [(jg ((⟨x26, x28, x30, x32, x34⟩ : jy).jm)), (slI ((⟨x26, x28, x30, x32, x34⟩ : jy).yd)), (slB ((⟨x26, x28, x30, x32, x34⟩ : jy).qv)), (qk ((⟨x26, x28, x30, x32, x34⟩ : jy).qp)), (slI ((⟨x26, x28, x30, x32, x34⟩ : jy).Qc))]) (ps := [(jg ((⟨x26, x28, x30, x32, x34⟩ : jy).jm)), (slI ((⟨x26, x28, x30, x32, x34⟩ : jy).yd)), (slB ((⟨x26, x28, x30, x32, x34⟩ : jy).qv)), (qk ((⟨x26, x28, x30, x32, x34⟩ : jy).qp)), (slI ((⟨x26, x28, x30, x32, x34⟩ : jy).Qc))]) rfl rfl (fun _ h => by cases h) f2 b202 Qv (e_ (jn (⟨x26, x28, x30, x32, x34⟩ : jy))) (zw _ _) rfl rfl (by decide) rfl fun H b202 fz141 => ?_
 have b203 := (fz141 203 (by decide)).trans b203
 refine PL.nil (hK135 _ _ ?_)
 refine A1 2 f2 fun F f2 => ?_
 refine PC.ret ?_
 have h0 := pz h0
 subst h0
 exact fin (p0 := (jn (⟨((⟨x26, x28, x30, x32, x34⟩ : jy).jm), ((⟨x26, x28, x30, x32, x34⟩ : jy).yd), ((⟨x26, x28, x30, x32, x34⟩ : jy).qv), ((⟨x26, x28, x30, x32, x34⟩ : jy).qp), ((⟨x26, x28, x30, x32, x34⟩ : jy).Qc)⟩ : jy))) (.inr rfl) (Zu Try.results27 (zf Qv f2 b202 (yo (yb (⟨((⟨x26, x28, x30, x32, x34⟩ : jy).jm), ((⟨x26, x28, x30, x32, x34⟩ : jy).yd), ((⟨x26, x28, x30, x32, x34⟩ : jy).qv), ((⟨x26, x28, x30, x32, x34⟩ : jy).qp), ((⟨x26, x28, x30, x32, x34⟩ : jy).Qc)⟩ : jy))))) (yl _)
end Go.Proofs.Ytpohfkgjghiofaa
