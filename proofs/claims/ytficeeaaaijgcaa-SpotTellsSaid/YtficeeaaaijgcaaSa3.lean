/-
  The law SpotTells over pure values: true, whatever the steps.
-/
import Derived.Test.YtficeeaaaijgcaaSa2
namespace Go.Proofs.Ytficeeaaaijgcaa
open Go Go.RowKit L
set_option linter.unusedVariables false
set_option linter.unusedSimpArgs false

theorem sets_same (l : List Rx) : setsL l = spSets l := by
  by_cases hl : checkL l = 0
  · obtain ⟨e, he⟩ := wfx_of l hl
    rw [(sp_of he).1, setsL_of he]
  · unfold setsL spSets; rw [if_neg hl, if_neg hl]

theorem sp_len (l : List Rx) : (spSets l).length ≤ 1000 ∧ (spFirst l).length ≤ 1000 ∧ (spLast l).length ≤ 1000 ∧ ∀ i, (spFollow l i).length ≤ 1000 := by
  by_cases hl : checkL l = 0
  · obtain ⟨e, he⟩ := wfx_of l hl
    have h := sp_of he
    have hn : nset e ≤ 512 := by have := nset_le e; have h2 := he.1; obtain ⟨h3, h4⟩ := he; rw [← h4] at this; omega
    have h1 := firstT_len e 0
    have h2 := lastT_len e 0
    rw [h.1, h.2.1, h.2.2.1, setsT_len]
    refine ⟨by omega, by omega, by omega, fun i => ?_⟩
    rw [h.2.2.2.2]
    unfold folR
    split
    · have := folL_len e i (nset e); omega
    · simp
  · unfold spSets spFirst spLast spFollow
    rw [if_neg hl, if_neg hl, if_neg hl]
    refine ⟨by simp, by simp, by simp, fun i => by rw [if_neg (fun h => hl h.1)]; simp⟩

theorem PQ.neqSet {W : Env} {F : PFrame} {H : PHeap} {o : Oper} {x y : Operand} {tt : TypeId} (a b : Rx) (ho : o.op = .binOp .neq 28 x y tt) (hx : evP F x = encS a) (hy : evP F y = encS b) : PQ Try.prog W o F H (B (!setEq a.s0 a.s1 a.s2 a.s3 b.s0 b.s1 b.s2 b.s3)) :=
  PQ.of_run fun V ac w hr hh => ⟨.bool (!setEq a.s0 a.s1 a.s2 a.s3 b.s0 b.s1 b.s2 b.s3), by
    have h1 := (hh x (by rw [ho]; simp [Op.operands])).val2 (u := .agg #[.int .u64 a.s0, .int .u64 a.s1, .int .u64 a.s2, .int .u64 a.s3]) (by rw [hx]; rfl)
    have h2 := (hh y (by rw [ho]; simp [Op.operands])).val2 (u := .agg #[.int .u64 b.s0, .int .u64 b.s1, .int .u64 b.s2, .int .u64 b.s3]) (by rw [hy]; rfl)
    have hg := run_eqGuard_agg (P := Try.prog) w .neq 28 x y #[.int .u64 a.s0, .int .u64 a.s1, .int .u64 a.s2, .int .u64 a.s3] #[.int .u64 b.s0, .int .u64 b.s1, .int .u64 b.s2, .int .u64 b.s3] (by kernel_rfl)
    have he : (Op.equal 28 (.agg #[.int .u64 a.s0, .int .u64 a.s1, .int .u64 a.s2, .int .u64 a.s3]) (.agg #[.int .u64 b.s0, .int .u64 b.s1, .int .u64 b.s2, .int .u64 b.s3])).run Try.prog w = _ := run_eqSet' w a.s0 a.s1 a.s2 a.s3 b.s0 b.s1 b.s2 b.s3
    simp only [execOp, ho, h1, h2]
    simp [Sem.run_bind, hg, binOp, he], .u _⟩

set_option maxRecDepth 20000 in
set_option maxHeartbeats 1000000 in
theorem SpotTells_ok (l : List Rx) (i : Int) : PCall Try.prog 3 [slX l, I i] (· = B true) := by
  have nX := slX_noP l
  have c2 := refSets_ok l
  rw [sets_same] at c2
  have hlens := sp_len l
  refine PCall.intro' Try.func3 rfl Try.ntmps3 (by simp) fun W => ?_
  refine PC.seq fun K hK => ?_
  refine PC.region ?_
  repeat (refine PL.k rfl fun KK hKK => ?_; simp [go_sem, stepK]; refine hKK _ ?_; clear hKK KK)
  refine PL.done hK ?_; clear hK
  refine PC.seq fun K hK => ?_
  refine PC.seq fun K2 hK2 => ?_
  refine PC.region ?_
  have hlenX : ∀ H, lenP Try.prog H 22 (slX l) = some (I l.length) := fun H => by simp [slX, go_sem]
  repeat (refine PL.k rfl fun KK hKK => ?_; simp [go_sem, stepK, hlenX]; refine hKK _ ?_; clear hKK KK)
  refine PL.done hK2 ?_; clear hK2
  by_cases hb : (60 : Int) < l.length
  · refine PC.condT (by simp [go_sem, hb]) ?_
    refine PC.seq fun K hK => ?_
    refine PC.region ?_
    refine PL.call (qs := []) rfl rfl (by kernel_rfl) knows10_ok (by simp [go_sem]) (by simp [go_sem]) (by simp [go_sem]) ?_
    repeat (refine PL.k rfl fun KK hKK => ?_; simp [go_sem, stepK]; refine hKK _ ?_; clear hKK KK)
    refine PL.done hK ?_; clear hK
    refine PC.ret ?_
    refine fin (.inr rfl) ?_ (.u _)
    simp [resP, resP1, Try.results3, go_sem]
  · refine PC.condF (by simp [go_sem, (show (l.length : Int) ≤ 60 by omega)]) ?_
    refine PC.skip (hK _ _ ?_); clear hK
    refine PC.seq fun K hK => ?_
    refine PC.region ?_
    repeat (refine PL.k rfl fun KK hKK => ?_; simp [go_sem, stepK]; refine hKK _ ?_; clear hKK KK)
    refine PL.callB (qs := [slX l]) rfl rfl (by kernel_rfl) (Sets_ok l) (by simp [go_sem]) ?_ ?_ ?_
    · simp [go_sem, nX]
    · simp [go_sem, nX]
    repeat (refine PL.k rfl fun KK hKK => ?_; simp [go_sem, stepK]; refine hKK _ ?_; clear hKK KK)
    refine PL.callB (qs := [slX l]) rfl rfl (by kernel_rfl) c2 (by simp [go_sem]) ?_ ?_ ?_
    · simp [go_sem, nX]
    · simp [go_sem, nX]
    repeat (refine PL.k rfl fun KK hKK => ?_; simp [go_sem, stepK]; refine hKK _ ?_; clear hKK KK)
    refine PL.done hK ?_; clear hK
    obtain ⟨A, hA⟩ : ∃ A, spSets l = A := ⟨_, rfl⟩
    rw [hA]
    rw [hA] at hlens
    have hlenS : ∀ H, lenP Try.prog H 24 (slS A) = some (I A.length) := fun H => by simp [slS, go_sem]
    refine PC.seq fun K hK => ?_
    refine PC.seq fun K2 hK2 => ?_
    refine PC.region ?_
    repeat (refine PL.k rfl fun KK hKK => ?_; simp [go_sem, stepK, hlenS]; refine hKK _ ?_; clear hKK KK)
    refine PL.done hK2 ?_; clear hK2
    refine PC.condF (by simp [go_sem]) ?_
    refine PC.skip (hK _ _ ?_); clear hK
    refine PC.seq fun K hK => ?_
    refine PC.seq fun K2 hK2 => ?_
    refine PC.region ?_
    repeat (refine PL.k rfl fun KK hKK => ?_; simp [go_sem, stepK]; refine hKK _ ?_; clear hKK KK)
    refine PL.done hK2 ?_; clear hK2
    refine PC.block ?_
    refine PC.loop (fun m F H' => ∃ k : Nat, k ≤ A.length ∧ m = A.length - k ∧ F 0 = slX l ∧ F 1 = I i ∧ F 5 = slS A ∧ F 6 = slS A ∧ F 7 = I k) (m := A.length) ⟨0, by simp [go_sem]⟩ fun m F H' hI => ?_
    obtain ⟨k, hk, hm, f0, f1, f5, f6, f7⟩ := hI
    by_cases hlt : k < A.length
    · have hAd : ∀ (t : Nat) (x y : Operand), binP Try.prog .add t x y (I (k : Int)) (I 1) = some (I ((k : Int) + 1)) := fun t x y => binP_add (by omega) (by omega)
      refine PC.seq fun K2 hK2 => ?_
      refine PC.seq fun K3 hK3 => ?_
      refine PC.region ?_
      repeat (refine PL.k rfl fun KK hKK => ?_; simp [go_sem, stepK, f5, f7, hlenS]; refine hKK _ ?_; clear hKK KK)
      refine PL.done hK3 ?_; clear hK3
      refine PC.condT (by simp [go_sem, hlt]) ?_
      refine PC.skip (hK2 _ _ ?_); clear hK2
      refine PC.seq fun K2 hK2 => ?_
      refine PC.block ?_
      refine PC.seq fun K3 hK3 => ?_
      refine PC.regionQ mixed (by kernel_rfl) ?_
      have f5' : F 5 = .sl 4 (A.map encS) := f5
      have f6' : F 6 = .sl 4 (A.map encS) := f6
      repeat (refine QF.k rfl fun KK hKK => ?_; simp [go_sem, stepK, f5', f6', f7, hlt]; refine hKK _ ?_; clear hKK KK)
      refine QF.call rfl (by simp [dstOk]) (PQ.neqSet A[k] A[k] rfl (by simp [go_sem]; rfl) (by simp [go_sem]; rfl)) ?_
      refine QF.done hK3 ?_; clear hK3
      refine PC.condF (by simp [go_sem, setEq]) ?_
      refine PC.skip (hK2 _ _ ?_); clear hK2
      refine PC.region ?_
      repeat (refine PL.k rfl fun KK hKK => ?_; simp [go_sem, stepK, f7, hAd]; refine hKK _ ?_; clear hKK KK)
      refine PL.nil ⟨A.length - (k + 1), by omega, k + 1, by omega, by omega, ?_, ?_, ?_, ?_, ?_⟩
      · simp [go_sem, f0]
      · simp [go_sem, f1]
      · simp [go_sem, f5]
      · simp [go_sem, f6]
      · simp [go_sem]
    · have hka : k = A.length := by omega
      subst hka
      refine PC.seq fun K2 hK2 => ?_
      refine PC.seq fun K3 hK3 => ?_
      refine PC.region ?_
      repeat (refine PL.k rfl fun KK hKK => ?_; simp [go_sem, stepK, f5, f7, hlenS]; refine hKK _ ?_; clear hKK KK)
      refine PL.done hK3 ?_; clear hK3
      refine PC.condF (by simp [go_sem]) ?_
      refine PC.exit (hK _ _ ?_); clear hK
      refine PC.seq fun K hK => ?_
      refine PC.region ?_
      repeat (refine PL.k rfl fun KK hKK => ?_; simp [go_sem, stepK, f0]; refine hKK _ ?_; clear hKK KK)
      refine PL.callB (qs := [slX l]) rfl rfl (by kernel_rfl) (First_ok l) (by simp [go_sem]) ?_ ?_ ?_
      · simp [go_sem, nX]
      · simp [go_sem, nX]
      repeat (refine PL.k rfl fun KK hKK => ?_; simp [go_sem, stepK, f0]; refine hKK _ ?_; clear hKK KK)
      refine PL.callB (qs := [slX l]) rfl rfl (by kernel_rfl) (refFirst_ok l) (by simp [go_sem]) ?_ ?_ ?_
      · simp [go_sem, nX]
      · simp [go_sem, nX]
      refine PL.callB (qs := [slI (spFirst l), slI (spFirst l)]) rfl rfl (by kernel_rfl) (sameInts_ok _ _ (by omega) (by omega)) (by simp [go_sem]) ?_ ?_ ?_
      · simp [go_sem, noP_slI]
      · simp [go_sem, noP_slI]
      repeat (refine PL.k rfl fun KK hKK => ?_; simp [go_sem, stepK, f0]; refine hKK _ ?_; clear hKK KK)
      (refine PL.g rfl rfl fun KK hKK => ?_; simp (disch := omega) [go_sem, L.stepG, f0]; refine hKK _ ?_; clear hKK KK)
      refine PL.callBg (qs := [slX l]) rfl rfl rfl (by simp [go_sem]) (by kernel_rfl) (Last_ok l) (by simp [go_sem]) ?_ ?_ ?_
      · simp [go_sem, nX, noP_slI]
      · simp [go_sem, nX, noP_slI]
      (refine PL.g rfl rfl fun KK hKK => ?_; simp (disch := omega) [go_sem, L.stepG, f0]; refine hKK _ ?_; clear hKK KK)
      refine PL.callBg (qs := [slX l]) rfl rfl rfl (by simp [go_sem]) (by kernel_rfl) (refLast_ok l) (by simp [go_sem]) ?_ ?_ ?_
      · simp [go_sem, nX, noP_slI]
      · simp [go_sem, nX, noP_slI]
      refine PL.callBg (qs := [slI (spLast l), slI (spLast l)]) rfl rfl rfl (by simp [go_sem]) (by kernel_rfl) (sameInts_ok _ _ (by omega) (by omega)) (by simp [go_sem]) ?_ ?_ ?_
      · simp [go_sem, nX, noP_slI]
      · simp [go_sem, nX, noP_slI]
      repeat (refine PL.k rfl fun KK hKK => ?_; simp [go_sem, stepK, f0]; refine hKK _ ?_; clear hKK KK)
      have hF := hlens.2.2.2 i
      (refine PL.g rfl rfl fun KK hKK => ?_; simp (disch := omega) [go_sem, L.stepG, f0]; refine hKK _ ?_; clear hKK KK)
      (refine PL.g rfl rfl fun KK hKK => ?_; simp (disch := omega) [go_sem, L.stepG, f1]; refine hKK _ ?_; clear hKK KK)
      refine PL.callBg (qs := [slX l, I i]) rfl rfl rfl (by simp [go_sem]) (by kernel_rfl) (Follow_ok l i) (by simp [go_sem]) ?_ ?_ ?_
      · simp [go_sem, nX, noP_slI]
      · simp [go_sem, nX, noP_slI]
      (refine PL.g rfl rfl fun KK hKK => ?_; simp (disch := omega) [go_sem, L.stepG, f0]; refine hKK _ ?_; clear hKK KK)
      (refine PL.g rfl rfl fun KK hKK => ?_; simp (disch := omega) [go_sem, L.stepG, f1]; refine hKK _ ?_; clear hKK KK)
      refine PL.callBg (qs := [slX l, I i]) rfl rfl rfl (by simp [go_sem]) (by kernel_rfl) (refFollow_ok l i) (by simp [go_sem]) ?_ ?_ ?_
      · simp [go_sem, nX, noP_slI]
      · simp [go_sem, nX, noP_slI]
      refine PL.callBg (qs := [slI (spFollow l i), slI (spFollow l i)]) rfl rfl rfl (by simp [go_sem]) (by kernel_rfl) (sameInts_ok _ _ (by omega) (by omega)) (by simp [go_sem]) ?_ ?_ ?_
      · simp [go_sem, nX, noP_slI]
      · simp [go_sem, nX, noP_slI]
      repeat (refine PL.k rfl fun KK hKK => ?_; simp [go_sem, stepK, f0]; refine hKK _ ?_; clear hKK KK)
      (refine PL.g rfl rfl fun KK hKK => ?_; simp (disch := omega) [go_sem, L.stepG, f0]; refine hKK _ ?_; clear hKK KK)
      refine PL.callBg (qs := [slX l]) rfl rfl rfl (by simp [go_sem]) (by kernel_rfl) (Free_ok l) (by simp [go_sem]) ?_ ?_ ?_
      · simp [go_sem, nX, noP_slI]
      · simp [go_sem, nX, noP_slI]
      (refine PL.g rfl rfl fun KK hKK => ?_; simp (disch := omega) [go_sem, L.stepG, f0]; refine hKK _ ?_; clear hKK KK)
      refine PL.callBg (qs := [slX l]) rfl rfl rfl (by simp [go_sem]) (by kernel_rfl) (refFree_ok l) (by simp [go_sem]) ?_ ?_ ?_
      · simp [go_sem, nX, noP_slI]
      · simp [go_sem, nX, noP_slI]
      (refine PL.g rfl rfl fun KK hKK => ?_; simp (disch := omega) [go_sem, L.stepG, f0]; refine hKK _ ?_; clear hKK KK)
      repeat (refine PL.k rfl fun KK hKK => ?_; simp [go_sem, stepK, f0]; refine hKK _ ?_; clear hKK KK)
      refine PL.callBg (qs := []) rfl rfl rfl (by simp [go_sem]) (by kernel_rfl) knows10_ok (by simp [go_sem]) ?_ ?_ ?_
      · simp [go_sem, nX, noP_slI]
      · simp [go_sem, nX, noP_slI]
      repeat (refine PL.k rfl fun KK hKK => ?_; simp [go_sem, stepK, f0]; refine hKK _ ?_; clear hKK KK)
      refine PL.done hK ?_; clear hK
      refine PC.ret ?_
      refine fin (.inr rfl) ?_ (.u _)
      simp [resP, resP1, Try.results3, go_sem]
end Go.Proofs.Ytficeeaaaijgcaa
