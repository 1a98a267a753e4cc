/-
  The package spot over pure values: set.
-/
import Derived.Test.YtficeeaaaijgcaaSr
namespace Go.Proofs.Ytficeeaaaijgcaa
open Go Go.RowKit L
set_option linter.unusedVariables false
set_option linter.unusedSimpArgs false

set_option maxRecDepth 20000 in
set_option maxHeartbeats 1000000 in
theorem set_in (x vx ids vs idf vf n B0 : Nat) (H : PHeap) (p2 p3 p4 p5 : PV) (sets : List Rx) (fc : List PV) (s0 s1 s2 s3 : Int)
    (hx : H x = ⟨vx, some (.box 85 [rowV n ids vs, rowV n idf vf, p2, p3, p4, p5])⟩) (hrs : RowAt H 28 4 n ids vs (setCs sets)) (hrf : RowAt H 30 1 n idf vf fc) (hxB : x < B0) (hsB : ids < B0) (hfB : idf < B0) (h1 : x ≠ ids) (h2 : x ≠ idf) (h3 : ids ≠ idf) (hbig : n ≤ 1000000) :
    PIn Try.prog 90 [.pp x 0 vx, .agg [W64 s0, W64 s1, W64 s2, W64 s3]] H (fun q H' => q = .agg [slI [(n : Int)], slI [(n : Int)], B false, I 1] ∧ ∃ vs vf, H' x = ⟨vx, some (.box 85 [.ps ids vs, .ps idf vf, p2, p3, p4, p5])⟩ ∧
      H' ids = ⟨vs, some (.row 28 4 (n + 1) (setCs sets ++ [W64 s0, W64 s1, W64 s2, W64 s3]))⟩ ∧ H' idf = ⟨vf, some (.row 30 1 (n + 1) (fc ++ [.u (.slice none 0 0)]))⟩ ∧ ∀ j, j < B0 → j ≠ x → j ≠ ids → j ≠ idf → H' j = H j) := by
  refine PIn.intro Try.func90 rfl Try.ntmps90 (by simp) (by kernel_rfl) fun W => ?_
  refine PC.seq fun K hK => ?_
  refine PC.region ?_
  refine PL.boxA B0 (d := 3) rfl rfl rfl (by simp) (v := .agg [W64 s0, W64 s1, W64 s2, W64 s3]) (by simp [go_sem]) (by simp [okC, leafOk, W64, Value.oneCell']) rfl fun v1 H1 b1 o1 => ?_
  refine PL.allocA (B0 + 1) (d := 4) rfl rfl rfl (by simp) zeroC_83 rfl rfl fun v2 H2 b2 o2 => ?_
  have ho : ∀ j, j < B0 → H2 j = H j := fun j hj => by rw [o2 j (by omega), o1 j (by omega)]
  have hx2 := (ho x hxB).trans hx
  have hrs2 := hrs.mono (ho ids hsB)
  have hrf2 := hrf.mono (ho idf hfB)
  have b12 := (o2 B0 (by omega)).trans b1
  refine PL.done hK ?_; clear hK
  refine PC.seq fun K hK => ?_
  refine PC.region ?_
  repeat (refine PL.k rfl fun KK hKK => ?_; simp [go_sem, stepK, hx2, hrs2.len isSlice_24]; refine hKK _ ?_; clear hKK KK)
  refine PL.done hK ?_; clear hK
  refine PC.seq fun K hK => ?_
  refine PC.regionMT 2 7 mixed (by kernel_rfl) (by simp [dstOk]) ?_
  simp only [List.take_succ_cons, List.take_zero, List.drop_succ_cons, List.drop_zero]
  simp only [movesF, moveOf, evP, go_sem]
  repeat (refine QF.k rfl fun KK hKK => ?_; simp [go_sem, stepK, hx2, b12]; refine hKK _ ?_; clear hKK KK)
  refine QF.buildSliceA (d := 17) rfl rfl rfl (by simp) selem_24 rfl (by omega) (ips := [(0, .agg [W64 s0, W64 s1, W64 s2, W64 s3])]) (by simp [go_sem]) (by simp [litOk, okC, leafOk, W64, Value.oneCell', PV.cells]) rfl ?_
  refine QF.nil ?_
  refine PL.appendA (d := 18) (id := ids) (ver := vs) (m := n) (m2 := 1) (cs := setCs sets) (cs2 := [W64 s0, W64 s1, W64 s2, W64 s3]) rfl rfl rfl (by simp) selem_24 (by simp [go_sem]) hrs2 (px := .sl 4 [.agg [W64 s0, W64 s1, W64 s2, W64 s3]]) (by simp [go_sem]) rfl (by simp [leafOk, W64, Value.oneCell']) (by unfold maxLen; omega) (by omega) fun vs1 H3 b3 o3 => ?_
  have hx3 := (o3 x h1).trans hx2
  have hrf3 := hrf2.mono (o3 idf (Ne.symm h3))
  repeat (refine PL.k rfl fun KK hKK => ?_; simp [go_sem, stepK, hx3]; refine hKK _ ?_; clear hKK KK)
  refine PL.storeA (id := x) rfl rfl (by simp [dstOk]) (by simp [go_sem]; rfl) hx3 asz_24 (v := .ps ids vs1) (by simp [go_sem]) (by simp [okC, leafOk, liveRow, b3]) rfl rfl (by simp) (cs' := [.ps ids vs1, rowV n idf vf, p2, p3, p4, p5]) rfl fun H4 b4 o4 => ?_
  have b34 := (o4 ids (Ne.symm h1)).trans b3
  have hrf4 := hrf3.mono (o4 idf (Ne.symm h2))
  refine PL.done hK ?_; clear hK
  refine PC.seq fun K hK => ?_
  refine PC.region ?_
  repeat (refine PL.k rfl fun KK hKK => ?_; simp [go_sem, stepK, b4]; refine hKK _ ?_; clear hKK KK)
  refine PL.buildSliceR (d := 26) rfl rfl rfl (by simp) selem_44 rfl (by omega) (ips := [(0, .u (.slice none 0 0))]) (by simp [go_sem]) (by simp [litOk, okC, leafOk, Value.oneCell', PV.cells]) (ps := [.u (.slice none 0 0)]) rfl ?_
  refine PL.appendA (d := 27) (id := idf) (ver := vf) (m := n) (m2 := 1) (cs := fc) (cs2 := [.u (.slice none 0 0)]) rfl rfl rfl (by simp) selem_44 (by simp [go_sem]) hrf4 (px := .sl 1 [.u (.slice none 0 0)]) (by simp [go_sem]) rfl (by simp [leafOk, Value.oneCell']) (by unfold maxLen; omega) (by omega) fun vf1 H5 b5 o5 => ?_
  have hx5 := (o5 x h2).trans b4
  have b35 := (o5 ids h3).trans b34
  repeat (refine PL.k rfl fun KK hKK => ?_; simp [go_sem, stepK, hx5]; refine hKK _ ?_; clear hKK KK)
  refine PL.storeA (id := x) rfl rfl (by simp [dstOk]) (by simp [go_sem]; rfl) hx5 asz_44 (v := .ps idf vf1) (by simp [go_sem]) (by simp [okC, leafOk, liveRow, b5]) rfl rfl (by simp) (cs' := [.ps ids vs1, .ps idf vf1, p2, p3, p4, p5]) rfl fun H6 b6 o6 => ?_
  have b36 := (o6 ids (Ne.symm h1)).trans b35
  have b56 := (o6 idf (Ne.symm h2)).trans b5
  refine PL.done hK ?_; clear hK
  refine PC.seq fun K hK => ?_
  refine PC.region ?_
  repeat (refine PL.k rfl fun KK hKK => ?_; simp [go_sem, stepK]; refine hKK _ ?_; clear hKK KK)
  refine PL.buildSliceR (d := 31) rfl rfl rfl (by simp) selem_30 rfl (by omega) (ips := [(0, I n)]) (by simp [go_sem]) (by simp [litOk, okC, leafOk, I, Value.oneCell', PV.cells]) (ps := [I n]) rfl ?_
  repeat (refine PL.k rfl fun KK hKK => ?_; simp [go_sem, stepK]; refine hKK _ ?_; clear hKK KK)
  refine PL.buildSliceR (d := 33) rfl rfl rfl (by simp) selem_30 rfl (by omega) (ips := [(0, I n)]) (by simp [go_sem]) (by simp [litOk, okC, leafOk, I, Value.oneCell', PV.cells]) (ps := [I n]) rfl ?_
  repeat (refine PL.k rfl fun KK hKK => ?_; simp [go_sem, stepK]; refine hKK _ ?_; clear hKK KK)
  have b26 : H6 (B0 + 1) = ⟨v2, some (.box 83 [.u (.slice none 0 0), .u (.slice none 0 0), B false, I 0])⟩ := by
    rw [o6 _ (by omega), o5 _ (by omega), o4 _ (by omega), o3 _ (by omega)]; exact b2
  refine PL.storeA (id := B0 + 1) rfl rfl (by simp [dstOk]) (by simp [go_sem]; rfl) b26 asz_83 (v := .agg [slI [(n : Int)], slI [(n : Int)], B false, I 1]) (by simp [go_sem, slI]) (by simp [okC, leafOk, slI, I, B, Value.oneCell']) rfl rfl (by simp) (cs' := [slI [(n : Int)], slI [(n : Int)], B false, I 1]) rfl fun H7 b7 o7 => ?_
  refine PL.done hK ?_; clear hK
  refine PC.ret ?_
  refine ⟨.inr rfl, .agg [slI [(n : Int)], slI [(n : Int)], B false, I 1], ?_, rfl, vs1, vf1, (o7 _ (by omega)).trans b6, (o7 _ (by omega)).trans b36, (o7 _ (by omega)).trans b56, fun j hj h1 h2 h3 => ?_⟩
  · simp [resP, resP1, Try.results90, go_sem, b7, slI]
  · rw [o7 _ (by omega), o6 _ h1, o5 _ h3, o4 _ h1, o3 _ h2, ho _ hj]
end Go.Proofs.Ytficeeaaaijgcaa
