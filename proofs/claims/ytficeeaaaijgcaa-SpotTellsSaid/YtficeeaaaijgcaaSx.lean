/-
  The package spot over pure values: Free, Follow.
-/
import Derived.Test.YtficeeaaaijgcaaSw
namespace Go.Proofs.Ytficeeaaaijgcaa
open Go Go.RowKit L
set_option linter.unusedVariables false
set_option linter.unusedSimpArgs false

set_option maxRecDepth 20000 in
theorem Free_ok (l : List Rx) : PCall Try.prog 22 [slX l] (· = B (spFree l)) := by
  refine PCall.intro' Try.func22 rfl Try.ntmps22 (by simp) fun W => ?_
  refine PC.seq fun K hK => ?_
  refine PC.region ?_
  repeat (refine PL.k rfl fun KK hKK => ?_; simp [go_sem, stepK]; refine hKK _ ?_; clear hKK KK)
  refine PL.done hK ?_; clear hK
  refine PC.seq fun K hK => ?_
  refine PC.region ?_
  repeat (refine PL.k rfl fun KK hKK => ?_; simp [go_sem, stepK]; refine hKK _ ?_; clear hKK KK)
  by_cases hl : checkL l = 0
  · refine PL.inl rfl rfl (over_in l _ hl) (by simp [go_sem]) (by simp [target, go_sem]) ?_
    rintro q H' ⟨vx, vs, vf, fc, a, b, p, rfl, hst, h0, h1, h2, h3, ha, hb⟩
    have ht : spFree l = p.free := by unfold spFree topS; rw [if_pos hl, hst]; rfl
    repeat (refine PL.k rfl fun KK hKK => ?_; simp [go_sem, stepK]; refine hKK _ ?_; clear hKK KK)
    refine PL.done hK ?_; clear hK
    refine PC.seq fun K hK => ?_
    refine PC.region ?_
    repeat (refine PL.k rfl fun KK hKK => ?_; simp [go_sem, stepK, h0]; refine hKK _ ?_; clear hKK KK)
    repeat (refine PL.g rfl rfl fun KK hKK => ?_; simp (disch := omega) [go_sem, L.stepG, h0]; refine hKK _ ?_; clear hKK KK)
    repeat (refine PL.k rfl fun KK hKK => ?_; simp [go_sem, stepK, h0]; refine hKK _ ?_; clear hKK KK)
    refine PL.done hK ?_; clear hK
    refine PC.ret ?_
    refine fin (.inr rfl) ?_ (.u _)
    simp [resP, resP1, Try.results22, go_sem, ht]
  · refine PL.inl rfl rfl (over_bad l _ hl) (by simp [go_sem]) (by simp [target, go_sem]) ?_
    rintro q H' rfl
    have ht : spFree l = false := by unfold spFree; rw [if_neg hl]
    repeat (refine PL.k rfl fun KK hKK => ?_; simp [go_sem, stepK]; refine hKK _ ?_; clear hKK KK)
    refine PL.done hK ?_; clear hK
    refine PC.seq fun K hK => ?_
    refine PC.region ?_
    repeat (refine PL.k rfl fun KK hKK => ?_; simp [go_sem, stepK]; refine hKK _ ?_; clear hKK KK)
    repeat (refine PL.g rfl rfl fun KK hKK => ?_; simp (disch := omega) [go_sem, L.stepG]; refine hKK _ ?_; clear hKK KK)
    repeat (refine PL.k rfl fun KK hKK => ?_; simp [go_sem, stepK]; refine hKK _ ?_; clear hKK KK)
    refine PL.done hK ?_; clear hK
    refine PC.ret ?_
    refine fin (.inr rfl) ?_ (.u _)
    simp [resP, resP1, Try.results22, go_sem, ht]

theorem top_n {l : List Rx} {p : Pt} (hst : (runS l).st = [p]) : p.n ≤ (runS l).sets.length ∧ (runS l).fol.length = (runS l).sets.length := by
  have := (runS_ok l l.length (Nat.le_refl _)).1
  rw [List.take_of_length_le (Nat.le_refl _)] at this
  refine ⟨?_, this.len⟩
  have h := this.sum
  rw [hst] at h
  simpa [sumN] using h

set_option maxRecDepth 20000 in
set_option maxHeartbeats 1000000 in
theorem Follow_ok (l : List Rx) (i : Int) : PCall Try.prog 20 [slX l, I i] (· = slI (spFollow l i)) := by
  refine PCall.intro' Try.func20 rfl Try.ntmps20 (by simp) fun W => ?_
  refine PC.seq fun K hK => ?_
  refine PC.region ?_
  repeat (refine PL.k rfl fun KK hKK => ?_; simp [go_sem, stepK]; refine hKK _ ?_; clear hKK KK)
  refine PL.done hK ?_; clear hK
  refine PC.seq fun K hK => ?_
  refine PC.seq fun K2 hK2 => ?_
  refine PC.region ?_
  repeat (refine PL.k rfl fun KK hKK => ?_; simp [go_sem, stepK]; refine hKK _ ?_; clear hKK KK)
  have bad : spFollow l i = [] → ∀ (F : PFrame) (H : PHeap), K F H := fun he F H => by
    refine hK _ _ ?_
    refine PC.seq fun K hK => ?_
    refine PC.region ?_
    repeat (refine PL.k rfl fun KK hKK => ?_; simp [go_sem, stepK]; refine hKK _ ?_; clear hKK KK)
    refine PL.done hK ?_; clear hK
    refine PC.ret ?_
    refine ⟨.inr rfl, .u (.slice none 0 0), slI (spFollow l i), ?_, ?_, ?_, rfl⟩
    · simp [resP, resP1, Try.results20, go_sem]
    · rw [he]; exact View.nil _ _ _
    · exact noP_slI _
  by_cases hl : checkL l = 0
  · refine PL.inl rfl rfl (over_in l _ hl) (by simp [go_sem]) (by simp [target, go_sem]) ?_
    rintro q H' ⟨vx, vs, vf, fc, a, b, p, rfl, hst, h0, h1, h2, h3, ha, hb⟩
    have ht : topS l = p := by unfold topS; rw [hst]; rfl
    have hn := top_n hst
    repeat (refine PL.k rfl fun KK hKK => ?_; simp [go_sem, stepK]; refine hKK _ ?_; clear hKK KK)
    refine PL.done hK2 ?_; clear hK2
    refine PC.seq fun K2 hK2 => ?_
    refine PC.region ?_
    repeat (refine PL.k rfl fun KK hKK => ?_; simp [go_sem, stepK, h0]; refine hKK _ ?_; clear hKK KK)
    by_cases hi0 : 0 ≤ i
    · repeat (refine PL.g rfl rfl fun KK hKK => ?_; simp (disch := omega) [go_sem, L.stepG, h0, hi0]; refine hKK _ ?_; clear hKK KK)
      repeat (refine PL.k rfl fun KK hKK => ?_; simp [go_sem, stepK, h0, hi0]; refine hKK _ ?_; clear hKK KK)
      repeat (refine PL.g rfl rfl fun KK hKK => ?_; simp (disch := omega) [go_sem, L.stepG, h0, hi0]; refine hKK _ ?_; clear hKK KK)
      repeat (refine PL.k rfl fun KK hKK => ?_; simp [go_sem, stepK, h0, hi0]; refine hKK _ ?_; clear hKK KK)
      refine PL.done hK2 ?_; clear hK2
      by_cases hin : i < p.n
      · refine PC.condT (by simp [go_sem, hin]) ?_
        obtain ⟨u, rfl⟩ : ∃ u : Nat, i = (u : Int) := ⟨i.toNat, by omega⟩
        have hu : u < (runS l).sets.length := by omega
        have hfl : fc.length = (runS l).sets.length := by rw [h3.1]; exact hn.2
        have hfu : u < fc.length := by omega
        have hrow := h2.2 (by omega)
        rw [rowV_pos (m := (runS l).sets.length) (by omega) 4] at h0
        obtain ⟨lu, hlu⟩ : ∃ lu, (runS l).fol[u]? = some lu := ⟨_, List.getElem?_eq_getElem (by rw [hn.2]; exact hu)⟩
        have hisl := h3.2 u _ lu (List.getElem?_eq_getElem hfu) hlu
        have hcell : fc[u]? = some fc[u] := List.getElem?_eq_getElem hfu
        refine PC.seq fun K hK => ?_
        refine PC.region ?_
        repeat (refine PL.k rfl fun KK hKK => ?_; simp [go_sem, stepK, h0, hrow, hu, hfu, hcell]; refine hKK _ ?_; clear hKK KK)
        refine PL.done hK ?_; clear hK
        refine PC.ret ?_
        have he : spFollow l u = lu := by unfold spFollow; rw [if_pos ⟨hl, hi0, by rw [ht]; exact hin⟩]; simp [hlu]
        refine ⟨.inr rfl, fc[u], slI (spFollow l u), ?_, ?_, noP_slI _, rfl⟩
        · simp [resP, resP1, Try.results20, go_sem]
        · rw [he]; exact hisl.view _
      · refine PC.condF (by simp [go_sem, hin]) ?_
        exact PC.skip (bad (by unfold spFollow; rw [if_neg (fun h => hin (by rw [← ht]; exact h.2.2))]) _ _)
    · repeat (refine PL.g rfl rfl fun KK hKK => ?_; simp (disch := omega) [go_sem, L.stepG, h0, hi0]; refine hKK _ ?_; clear hKK KK)
      repeat (refine PL.k rfl fun KK hKK => ?_; simp [go_sem, stepK, h0, hi0]; refine hKK _ ?_; clear hKK KK)
      repeat (refine PL.g rfl rfl fun KK hKK => ?_; simp (disch := omega) [go_sem, L.stepG, h0, hi0]; refine hKK _ ?_; clear hKK KK)
      repeat (refine PL.k rfl fun KK hKK => ?_; simp [go_sem, stepK, h0, hi0]; refine hKK _ ?_; clear hKK KK)
      refine PL.done hK2 ?_; clear hK2
      refine PC.condF (by simp [go_sem]) ?_
      exact PC.skip (bad (by unfold spFollow; rw [if_neg (fun h => hi0 h.2.1)]) _ _)
  · refine PL.inl rfl rfl (over_bad l _ hl) (by simp [go_sem]) (by simp [target, go_sem]) ?_
    rintro q H' rfl
    repeat (refine PL.k rfl fun KK hKK => ?_; simp [go_sem, stepK]; refine hKK _ ?_; clear hKK KK)
    refine PL.done hK2 ?_; clear hK2
    refine PC.seq fun K2 hK2 => ?_
    refine PC.region ?_
    repeat (refine PL.k rfl fun KK hKK => ?_; simp [go_sem, stepK]; refine hKK _ ?_; clear hKK KK)
    repeat (refine PL.g rfl rfl fun KK hKK => ?_; simp (disch := omega) [go_sem, L.stepG]; refine hKK _ ?_; clear hKK KK)
    repeat (refine PL.k rfl fun KK hKK => ?_; simp [go_sem, stepK]; refine hKK _ ?_; clear hKK KK)
    repeat (refine PL.g rfl rfl fun KK hKK => ?_; simp (disch := omega) [go_sem, L.stepG]; refine hKK _ ?_; clear hKK KK)
    repeat (refine PL.k rfl fun KK hKK => ?_; simp [go_sem, stepK]; refine hKK _ ?_; clear hKK KK)
    refine PL.done hK2 ?_; clear hK2
    refine PC.condF (by simp [go_sem]) ?_
    exact PC.skip (bad (by unfold spFollow; rw [if_neg (fun h => hl h.1)]) _ _)
end Go.Proofs.Ytficeeaaaijgcaa
