/-
  Chapter 10's reference over pure values, whatever the steps.
-/
import Derived.Test.YtficeeaaaijgcaaSz
namespace Go.Proofs.Ytficeeaaaijgcaa
open Go Go.RowKit L
set_option linter.unusedVariables false
set_option linter.unusedSimpArgs false

set_option maxRecDepth 20000 in
theorem refFirst_ok (l : List Rx) : PCall Try.prog 17 [slX l] (· = slI (spFirst l)) := by
  by_cases hl : checkL l = 0
  · obtain ⟨e, he⟩ := wfx_of l hl
    have h := sp_of he
    first | rw [h.2.1] | skip
    first | rw [h.2.2.1] | skip
    exact refFirst_good l e he
  · rw [show spFirst l = [] by unfold spFirst; rw [if_neg hl]]
    refine PCall.intro' Try.func17 rfl Try.ntmps17 (by simp) fun W => ?_
    refine PC.seq fun K hK => ?_
    refine PC.region ?_
    repeat (refine PL.k rfl fun KK hKK => ?_; simp [go_sem, stepK]; refine hKK _ ?_; clear hKK KK)
    refine PL.done hK ?_; clear hK
    refine PC.seq fun K hK => ?_
    refine PC.seq fun K2 hK2 => ?_
    refine PC.region ?_
    repeat (refine PL.k rfl fun KK hKK => ?_; simp [go_sem, stepK]; refine hKK _ ?_; clear hKK KK)
    refine PL.call (qs := [slX l]) rfl rfl (by kernel_rfl) (ref7Check_ok l) (by simp [go_sem]) (by simp [go_sem]) ?_ ?_
    · simp [go_sem, slX_noP, View.noP]
    repeat (refine PL.k rfl fun KK hKK => ?_; simp [go_sem, stepK, hl]; refine hKK _ ?_; clear hKK KK)
    refine PL.done hK2 ?_; clear hK2
    refine PC.condT (by simp [go_sem, hl]) ?_
    refine PC.seq fun K hK => ?_
    refine PC.region ?_
    refine PL.buildSliceR (d := 6) rfl rfl rfl (by simp) selem_30 rfl (by omega) (ips := []) (by simp [go_sem]) (by simp [litOk]) (ps := []) rfl ?_
    repeat (refine PL.k rfl fun KK hKK => ?_; simp [go_sem, stepK]; refine hKK _ ?_; clear hKK KK)
    refine PL.done hK ?_; clear hK
    refine PC.ret ?_
    refine fin (.inr rfl) ?_ (noP_slI _)
    simp [resP, resP1, Try.results17, go_sem, slI]

set_option maxRecDepth 20000 in
theorem refLast_ok (l : List Rx) : PCall Try.prog 19 [slX l] (· = slI (spLast l)) := by
  by_cases hl : checkL l = 0
  · obtain ⟨e, he⟩ := wfx_of l hl
    have h := sp_of he
    first | rw [h.2.1] | skip
    first | rw [h.2.2.1] | skip
    exact refLast_good l e he
  · rw [show spLast l = [] by unfold spLast; rw [if_neg hl]]
    refine PCall.intro' Try.func19 rfl Try.ntmps19 (by simp) fun W => ?_
    refine PC.seq fun K hK => ?_
    refine PC.region ?_
    repeat (refine PL.k rfl fun KK hKK => ?_; simp [go_sem, stepK]; refine hKK _ ?_; clear hKK KK)
    refine PL.done hK ?_; clear hK
    refine PC.seq fun K hK => ?_
    refine PC.seq fun K2 hK2 => ?_
    refine PC.region ?_
    repeat (refine PL.k rfl fun KK hKK => ?_; simp [go_sem, stepK]; refine hKK _ ?_; clear hKK KK)
    refine PL.call (qs := [slX l]) rfl rfl (by kernel_rfl) (ref7Check_ok l) (by simp [go_sem]) (by simp [go_sem]) ?_ ?_
    · simp [go_sem, slX_noP, View.noP]
    repeat (refine PL.k rfl fun KK hKK => ?_; simp [go_sem, stepK, hl]; refine hKK _ ?_; clear hKK KK)
    refine PL.done hK2 ?_; clear hK2
    refine PC.condT (by simp [go_sem, hl]) ?_
    refine PC.seq fun K hK => ?_
    refine PC.region ?_
    refine PL.buildSliceR (d := 6) rfl rfl rfl (by simp) selem_30 rfl (by omega) (ips := []) (by simp [go_sem]) (by simp [litOk]) (ps := []) rfl ?_
    repeat (refine PL.k rfl fun KK hKK => ?_; simp [go_sem, stepK]; refine hKK _ ?_; clear hKK KK)
    refine PL.done hK ?_; clear hK
    refine PC.ret ?_
    refine fin (.inr rfl) ?_ (noP_slI _)
    simp [resP, resP1, Try.results19, go_sem, slI]

set_option maxRecDepth 20000 in
theorem refFree_ok (l : List Rx) : PCall Try.prog 23 [slX l] (· = B (spFree l)) := by
  by_cases hl : checkL l = 0
  · obtain ⟨e, he⟩ := wfx_of l hl
    rw [(sp_of he).2.2.2.1]
    exact refFree_good l e he
  · rw [show spFree l = false by unfold spFree; rw [if_neg hl]]
    refine PCall.intro' Try.func23 rfl Try.ntmps23 (by simp) fun W => ?_
    refine PC.seq fun K hK => ?_
    refine PC.region ?_
    repeat (refine PL.k rfl fun KK hKK => ?_; simp [go_sem, stepK]; refine hKK _ ?_; clear hKK KK)
    refine PL.done hK ?_; clear hK
    refine PC.seq fun K hK => ?_
    refine PC.region ?_
    repeat (refine PL.k rfl fun KK hKK => ?_; simp [go_sem, stepK]; refine hKK _ ?_; clear hKK KK)
    refine PL.call (qs := [slX l]) rfl rfl (by kernel_rfl) (ref7Check_ok l) (by simp [go_sem]) (by simp [go_sem]) ?_ ?_
    · simp [go_sem, slX_noP, View.noP]
    repeat (refine PL.k rfl fun KK hKK => ?_; simp [go_sem, stepK, hl]; refine hKK _ ?_; clear hKK KK)
    repeat (refine PL.g rfl rfl fun KK hKK => ?_; simp (disch := omega) [go_sem, L.stepG, hl]; refine hKK _ ?_; clear hKK KK)
    repeat (refine PL.k rfl fun KK hKK => ?_; simp [go_sem, stepK, hl]; refine hKK _ ?_; clear hKK KK)
    refine PL.done hK ?_; clear hK
    refine PC.ret ?_
    refine fin (.inr rfl) ?_ (.u _)
    simp [resP, resP1, Try.results23, go_sem]

set_option maxRecDepth 20000 in
theorem refFollow_ok (l : List Rx) (i : Int) : PCall Try.prog 21 [slX l, I i] (· = slI (spFollow l i)) := by
  by_cases hl : checkL l = 0
  · obtain ⟨e, he⟩ := wfx_of l hl
    rw [(sp_of he).2.2.2.2 i]
    exact refFollow_good l e i he
  · rw [show spFollow l i = [] by unfold spFollow; rw [if_neg (fun h => hl h.1)]]
    have hS : setsL l = [] := by unfold setsL; rw [if_neg hl]
    have hS2 := refSets_ok l
    rw [hS] at hS2
    refine PCall.intro' Try.func21 rfl Try.ntmps21 (by simp) fun W => ?_
    refine PC.seq fun K hK => ?_
    refine PC.region ?_
    repeat (refine PL.k rfl fun KK hKK => ?_; simp [go_sem, stepK]; refine hKK _ ?_; clear hKK KK)
    refine PL.done hK ?_; clear hK
    refine PC.seq fun K hK => ?_
    refine PC.region ?_
    refine PL.buildSliceR (d := 8) rfl rfl rfl (by simp) selem_30 rfl (by omega) (ips := []) (by simp [go_sem]) (by simp [litOk]) (ps := []) rfl ?_
    repeat (refine PL.k rfl fun KK hKK => ?_; simp [go_sem, stepK]; refine hKK _ ?_; clear hKK KK)
    refine PL.done hK ?_; clear hK
    refine PC.seq fun K hK => ?_
    refine PC.region ?_
    repeat (refine PL.k rfl fun KK hKK => ?_; simp [go_sem, stepK]; refine hKK _ ?_; clear hKK KK)
    refine PL.callB (qs := [slX l]) rfl rfl (by kernel_rfl) hS2 (by simp [go_sem]) ?_ ?_ ?_
    · simp [go_sem, slX_noP]
    · simp [go_sem, slX_noP, View.noP]
    repeat (refine PL.k rfl fun KK hKK => ?_; simp [go_sem, stepK, slS]; refine hKK _ ?_; clear hKK KK)
    refine PL.done hK ?_; clear hK
    refine PC.seq fun K hK => ?_
    refine PC.seq fun K2 hK2 => ?_
    refine PC.region ?_
    repeat (refine PL.k rfl fun KK hKK => ?_; simp [go_sem, stepK]; refine hKK _ ?_; clear hKK KK)
    refine PL.done hK2 ?_; clear hK2
    refine PC.block ?_
    refine PC.loop (fun m F' H' => F' 5 = .sl 1 [] ∧ F' 6 = I 0 ∧ F' 7 = I 0) (m := 0) ⟨by simp [go_sem], by simp [go_sem, slS], by simp [go_sem]⟩ fun m F' H' hI => ?_
    obtain ⟨f5, f6, f7⟩ := hI
    refine PC.seq fun K2 hK2 => ?_
    refine PC.seq fun K3 hK3 => ?_
    refine PC.region ?_
    repeat (refine PL.k rfl fun KK hKK => ?_; simp [go_sem, stepK, f6, f7]; refine hKK _ ?_; clear hKK KK)
    refine PL.done hK3 ?_; clear hK3
    refine PC.condF (by simp [go_sem]) ?_
    refine PC.exit ?_
    refine hK _ _ ?_
    refine PC.seq fun K hK => ?_
    refine PC.region ?_
    repeat (refine PL.k rfl fun KK hKK => ?_; simp [go_sem, stepK, f5]; refine hKK _ ?_; clear hKK KK)
    refine PL.done hK ?_; clear hK
    refine PC.ret ?_
    refine fin (.inr rfl) ?_ (noP_slI _)
    simp [resP, resP1, Try.results21, go_sem, slI]
end Go.Proofs.Ytficeeaaaijgcaa
