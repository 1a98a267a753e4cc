/-
  The package spot over pure values: cat.
-/
import Derived.Test.YtficeeaaaijgcaaSs
namespace Go.Proofs.Ytficeeaaaijgcaa
open Go Go.RowKit L
set_option linter.unusedVariables false
set_option linter.unusedSimpArgs false

set_option maxRecDepth 20000 in
set_option maxHeartbeats 2000000 in
theorem cat_in (x vx idf vf m0 B0 N : Nat) (H : PHeap) (sp p2 p3 p4 p5 : PV) (fc : List PV) (fol : List (List Int)) (pa pb : Pt) (a1 a2 b1 b2 : PV)
    (hx : H x = ⟨vx, some (.box 85 [sp, rowV m0 idf vf, p2, p3, p4, p5])⟩) (hf : RowAt H 30 1 m0 idf vf fc) (hm0 : fol.length = m0) (hne : x ≠ idf) (hfc : FolAt fc fol)
    (ha1 : isL a1 pa.first) (ha2 : isL a2 pa.last) (hb1 : isL b1 pb.first) (hb2 : isL b2 pb.last)
    (hN : N ≤ 1000) (hNf : fol.length = N) (hsm : SmF N fol) (hpa : PtOk N pa) (hpb : PtOk N pb) (hsum : pa.n + pb.n ≤ N) (hxB : x < B0) (hfB : idf < B0) :
    PIn Try.prog 91 [.pp x 0 vx, .agg [a1, a2, B pa.free, I pa.n], .agg [b1, b2, B pb.free, I pb.n]] H (fun q H' => ∃ f' l', q = .agg [f', l', B (pa.free && pb.free), I (pa.n + pb.n)] ∧ isL f' (pickU pa.free pa.first pb.first pa.first) ∧ isL l' (pickU pb.free pa.last pb.last pb.last) ∧
      (∃ fc', RowAt H' 30 1 m0 idf vf fc' ∧ FolAt fc' (pa.last.foldl (updF pb.first) fol)) ∧ ∀ j, j < B0 → j ≠ idf → H' j = H j) := by
  have hla : ∀ (p : Pt), PtOk N p → p.first.length ≤ 1000 ∧ p.last.length ≤ 1000 := fun p hp => by
    have h1 := rising_le _ hp.1.1 N hp.1.2
    have h2 := rising_le _ hp.2.1.1 N hp.2.1.2
    omega
  have la := hla pa hpa
  have lb := hla pb hpb
  have na := hpa.2.2
  have nb := hpb.2.2
  refine PIn.intro Try.func91 rfl Try.ntmps91 (by simp) (by kernel_rfl) fun W => ?_
  refine PC.seq fun K hK => ?_
  refine PC.region ?_
  refine PL.boxA B0 (d := 4) rfl rfl rfl (by simp) (v := .agg [a1, a2, B pa.free, I pa.n]) (by simp [go_sem]) (by simp [okC, ha1.leaf, ha2.leaf, leafB, leafI]) rfl fun v1 H1 c1 o1 => ?_
  refine PL.boxA (B0 + 1) (d := 5) rfl rfl rfl (by simp) (v := .agg [b1, b2, B pb.free, I pb.n]) (by simp [go_sem]) (by simp [okC, hb1.leaf, hb2.leaf, leafB, leafI]) rfl fun v2 H2 c2 o2 => ?_
  refine PL.allocA (B0 + 2) (d := 6) rfl rfl rfl (by simp) zeroC_83 rfl rfl fun v3 H3 c3 o3 => ?_
  have ho : ∀ j, j < B0 → H3 j = H j := fun j hj => by rw [o3 j (by omega), o2 j (by omega), o1 j (by omega)]
  have hA3 : H3 B0 = ⟨v1, some (.box 83 [a1, a2, B pa.free, I pa.n])⟩ := by rw [o3 _ (by omega), o2 _ (by omega)]; exact c1
  have hB3 : H3 (B0 + 1) = ⟨v2, some (.box 83 [b1, b2, B pb.free, I pb.n])⟩ := by rw [o3 _ (by omega)]; exact c2
  refine PL.done hK ?_; clear hK
  refine PC.seq fun K hK => ?_
  refine PC.region ?_
  repeat (refine PL.k rfl fun KK hKK => ?_; simp [go_sem, stepK, hA3, hB3]; refine hKK _ ?_; clear hKK KK)
  refine PL.inl rfl rfl (behind_in x vx idf vf m0 H3 sp p2 p3 p4 p5 a2 b1 fc fol pa.last pb.first N ((ho x hxB).trans hx) (hf.mono (ho idf hfB)) hm0 hne hfc ha2 hb1 hN hsm hpb.1.2 lb.1 (by rw [hNf]; exact hpa.2.1.2) (by omega)) (by simp [go_sem]) (by simp [target, go_sem]) ?_
  rintro q H4 ⟨rfl, o4, fc4, hf4, hfc4⟩
  have hA4 := (o4 B0 (by omega)).trans hA3
  have hB4 := (o4 (B0 + 1) (by omega)).trans hB3
  have hR4 := (o4 (B0 + 2) (by omega)).trans c3
  refine PL.done hK ?_; clear hK
  refine PC.seqM (fun F H' => F 4 = .pp B0 0 v1 ∧ F 5 = .pp (B0 + 1) 0 v2 ∧ F 6 = .pp (B0 + 2) 0 v3 ∧ ∃ v4, F 7 = .pp (B0 + 3) 0 v4 ∧ H' (B0 + 3) = ⟨v4, some (.box 83 [a1, b2, B (pa.free && pb.free), I (pa.n + pb.n)])⟩ ∧ ∀ j, j ≠ B0 + 3 → H' j = H4 j) ?_ ?_
  · have hA : ∀ (t : Nat) (x y : Operand), binP Try.prog .add t x y (I pa.n) (I pb.n) = some (I (pa.n + pb.n)) := fun t x y => binP_add (by omega) (by omega)
    refine PC.region ?_
    repeat (refine PL.k rfl fun KK hKK => ?_; simp [go_sem, stepK, hA4, hB4]; refine hKK _ ?_; clear hKK KK)
    cases ha : pa.free
    · rw [ha] at hA4
      repeat (refine PL.g rfl rfl fun KK hKK => ?_; simp (disch := omega) [go_sem, L.stepG, hA4, hB4]; refine hKK _ ?_; clear hKK KK)
      repeat (refine PL.k rfl fun KK hKK => ?_; simp [go_sem, stepK, hA4, hB4, hA, ha1.cells, hb2.cells, ha1.okC, hb2.okC, ha1.leaf, hb2.leaf]; refine hKK _ ?_; clear hKK KK)
      refine PL.allocA (B0 + 3) (d := 7) rfl rfl rfl (by simp) zeroC_83 rfl rfl fun v4 H5 c5 o5 => ?_
      refine PL.storeA (id := B0 + 3) rfl rfl (by simp [dstOk]) (by simp [go_sem]; rfl) c5 asz_83 (v := .agg [a1, b2, B false, I (pa.n + pb.n)]) (by simp [go_sem]) (by simp [okC, ha1.leaf, hb2.leaf, leafB, leafI]) rfl rfl (by simp) rfl fun H6 c6 o6 => ?_
      refine PL.nil ⟨?_, ?_, ?_, v4, ?_, c6, fun j hj => by rw [o6 j hj, o5 j hj]⟩ <;> simp [go_sem]
    · rw [ha] at hA4
      repeat (refine PL.g rfl rfl fun KK hKK => ?_; simp (disch := omega) [go_sem, L.stepG, hA4, hB4]; refine hKK _ ?_; clear hKK KK)
      repeat (refine PL.k rfl fun KK hKK => ?_; simp [go_sem, stepK, hA4, hB4, hA, ha1.cells, hb2.cells, ha1.okC, hb2.okC, ha1.leaf, hb2.leaf]; refine hKK _ ?_; clear hKK KK)
      refine PL.allocA (B0 + 3) (d := 7) rfl rfl rfl (by simp) zeroC_83 rfl rfl fun v4 H5 c5 o5 => ?_
      refine PL.storeA (id := B0 + 3) rfl rfl (by simp [dstOk]) (by simp [go_sem]; rfl) c5 asz_83 (v := .agg [a1, b2, B pb.free, I (pa.n + pb.n)]) (by simp [go_sem]) (by simp [okC, ha1.leaf, hb2.leaf, leafB, leafI]) rfl rfl (by simp) rfl fun H6 c6 o6 => ?_
      refine PL.nil ⟨?_, ?_, ?_, v4, ?_, c6, fun j hj => by rw [o6 j hj, o5 j hj]⟩ <;> simp [go_sem]
  rintro F H5 ⟨f4, f5, f6, v4, f7, c5, o5⟩
  have hA5 := (o5 B0 (by omega)).trans hA4
  have hB5 := (o5 (B0 + 1) (by omega)).trans hB4
  have hR5 := (o5 (B0 + 2) (by omega)).trans hR4
  refine PC.seqM (fun F H' => F 4 = .pp B0 0 v1 ∧ F 5 = .pp (B0 + 1) 0 v2 ∧ F 6 = .pp (B0 + 2) 0 v3 ∧ F 7 = .pp (B0 + 3) 0 v4 ∧ (∃ f', H' (B0 + 3) = ⟨v4, some (.box 83 [f', b2, B (pa.free && pb.free), I (pa.n + pb.n)])⟩ ∧ isL f' (pickU pa.free pa.first pb.first pa.first)) ∧ ∀ j, j ≠ B0 + 3 → H' j = H5 j) ?_ ?_
  · refine PC.seq fun K hK => ?_
    refine PC.region ?_
    repeat (refine PL.k rfl fun KK hKK => ?_; simp [go_sem, stepK, hA5, f4]; refine hKK _ ?_; clear hKK KK)
    refine PL.done hK ?_; clear hK
    cases ha : pa.free
    · refine PC.condF (by simp [go_sem, ha]) ?_
      exact PC.skip ⟨by simp [go_sem, f4], by simp [go_sem, f5], by simp [go_sem, f6], by simp [go_sem, f7], ⟨a1, by rw [ha] at c5; exact c5, by simpa [pickU] using ha1⟩, fun _ _ => rfl⟩
    · refine PC.condT (by simp [go_sem, ha]) ?_
      refine PC.region ?_
      repeat (refine PL.k rfl fun KK hKK => ?_; simp [go_sem, stepK, hA5, hB5, f4, f5]; refine hKK _ ?_; clear hKK KK)
      refine PL.callB (qs := [slI pa.first, slI pb.first]) rfl rfl (by kernel_rfl) (union_ok _ _ (by omega)) (by simp [go_sem]) ?_ ?_ ?_
      · simp [go_sem, ha1.noP, hb1.noP]
      · simp [go_sem, ha1.view, hb1.view]
      repeat (refine PL.k rfl fun KK hKK => ?_; simp [go_sem, stepK, c5, f7]; refine hKK _ ?_; clear hKK KK)
      refine PL.storeA (id := B0 + 3) rfl rfl (by simp [dstOk]) (by simp [go_sem]; rfl) c5 asz_30 (v := slI (riseL (pa.first ++ pb.first))) (by simp [go_sem]) rfl rfl rfl (by simp) rfl fun H6 c6 o6 => ?_
      exact PL.nil ⟨by simp [go_sem, f4], by simp [go_sem, f5], by simp [go_sem, f6], by simp [go_sem, f7], ⟨slI (riseL (pa.first ++ pb.first)), by rw [ha] at c6; exact c6, by simpa [pickU] using isL_sl _⟩, o6⟩
  rintro F H6 ⟨f4, f5, f6, f7, ⟨f', c6, hf'⟩, o6⟩
  have hA6 := (o6 B0 (by omega)).trans hA5
  have hB6 := (o6 (B0 + 1) (by omega)).trans hB5
  have hR6 := (o6 (B0 + 2) (by omega)).trans hR5
  refine PC.seqM (fun F H' => F 6 = .pp (B0 + 2) 0 v3 ∧ F 7 = .pp (B0 + 3) 0 v4 ∧ (∃ l', H' (B0 + 3) = ⟨v4, some (.box 83 [f', l', B (pa.free && pb.free), I (pa.n + pb.n)])⟩ ∧ isL l' (pickU pb.free pa.last pb.last pb.last)) ∧ ∀ j, j ≠ B0 + 3 → H' j = H6 j) ?_ ?_
  · refine PC.seq fun K hK => ?_
    refine PC.region ?_
    repeat (refine PL.k rfl fun KK hKK => ?_; simp [go_sem, stepK, hB6, f5]; refine hKK _ ?_; clear hKK KK)
    refine PL.done hK ?_; clear hK
    cases hb : pb.free
    · refine PC.condF (by simp [go_sem, hb]) ?_
      exact PC.skip ⟨by simp [go_sem, f6], by simp [go_sem, f7], ⟨b2, by rw [hb] at c6; exact c6, by simpa [pickU] using hb2⟩, fun _ _ => rfl⟩
    · refine PC.condT (by simp [go_sem, hb]) ?_
      refine PC.region ?_
      repeat (refine PL.k rfl fun KK hKK => ?_; simp [go_sem, stepK, hA6, hB6, f4, f5]; refine hKK _ ?_; clear hKK KK)
      refine PL.callB (qs := [slI pa.last, slI pb.last]) rfl rfl (by kernel_rfl) (union_ok _ _ (by omega)) (by simp [go_sem]) ?_ ?_ ?_
      · simp [go_sem, ha2.noP, hb2.noP]
      · simp [go_sem, ha2.view, hb2.view]
      repeat (refine PL.k rfl fun KK hKK => ?_; simp [go_sem, stepK, c6, f7]; refine hKK _ ?_; clear hKK KK)
      refine PL.storeA (id := B0 + 3) rfl rfl (by simp [dstOk]) (by simp [go_sem]; rfl) c6 asz_30 (v := slI (riseL (pa.last ++ pb.last))) (by simp [go_sem]) rfl rfl rfl (by simp) rfl fun H7 c7 o7 => ?_
      exact PL.nil ⟨by simp [go_sem, f6], by simp [go_sem, f7], ⟨slI (riseL (pa.last ++ pb.last)), by rw [hb] at c7; exact c7, by simpa [pickU] using isL_sl _⟩, o7⟩
  rintro F H7 ⟨f6, f7, ⟨l', c7, hl'⟩, o7⟩
  have hR7 := (o7 (B0 + 2) (by omega)).trans hR6
  refine PC.seq fun K hK => ?_
  refine PC.region ?_
  repeat (refine PL.k rfl fun KK hKK => ?_; simp [go_sem, stepK, c7, f7]; refine hKK _ ?_; clear hKK KK)
  refine PL.storeA (id := B0 + 2) rfl rfl (by simp [dstOk]) (by simp [go_sem, f6]; rfl) hR7 asz_83 (v := .agg [f', l', B (pa.free && pb.free), I (pa.n + pb.n)]) (by simp [go_sem]) (by simp [okC, hf'.leaf, hl'.leaf, leafB, leafI]) rfl rfl (by simp) (cs' := [f', l', B (pa.free && pb.free), I (pa.n + pb.n)]) rfl fun H8 c8 o8 => ?_
  refine PL.done hK ?_; clear hK
  refine PC.ret ?_
  refine ⟨.inr rfl, .agg [f', l', B (pa.free && pb.free), I (pa.n + pb.n)], ?_, f', l', rfl, hf', hl', ⟨fc4, hf4.mono ?_, hfc4⟩, fun j hj h1 => ?_⟩
  · simp [resP, resP1, Try.results91, go_sem, c8, f6]
  · rw [o8 _ (by omega), o7 _ (by omega), o6 _ (by omega), o5 _ (by omega)]
  · rw [o8 _ (by omega), o7 _ (by omega), o6 _ (by omega), o5 _ (by omega), o4 _ h1, ho _ hj]
end Go.Proofs.Ytficeeaaaijgcaa
