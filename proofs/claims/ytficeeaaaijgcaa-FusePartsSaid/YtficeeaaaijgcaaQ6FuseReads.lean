/-
  Texts of this proof, put together: Fi, Fj, Fk, Fl, Fm, Fn, Fo, Fp, Fq, Fr, Fs.
-/

import Derived.Test.YtficeeaaaijgcaaQ5FuseReads

/-
  Where a word leads in a net, and the token that is read: the package fuse and chapter 12's reference.
-/
namespace Go.Proofs.Ytficeeaaaijgcaa
open Go Go.RowKit L
set_option linter.unusedVariables false
set_option linter.unusedSimpArgs false

def runK (n : Net) (w : ByteArray) : Nat → List Int
  | 0 => []
  | k + 1 => if k = 0 then startN n (byteAt w 0) else stepN n (runK n w k) (byteAt w k)
theorem withL_len (sets : List Rx) (l : List Int) (b : Nat) : (withL sets l b).length ≤ sets.length := withK_len sets l b _
theorem startN_len (n : Net) (b : Nat) : (startN n b).length ≤ n.sets.length := by unfold startN; split; exact withL_len _ _ _; simp
theorem stepN_len (n : Net) (l : List Int) (b : Nat) : (stepN n l b).length ≤ n.sets.length := by unfold stepN; split; exact withL_len _ _ _; simp
theorem runK_len (n : Net) (w : ByteArray) (k : Nat) : (runK n w k).length ≤ n.sets.length := by
  cases k with
  | zero => simp [runK]
  | succ k => rw [runK]; split; exact startN_len _ _; exact stepN_len _ _ _
theorem stepN_nil (n : Net) (b : Nat) : stepN n [] b = [] := by
  unfold stepN
  split
  · simp [stepW, allR, withL]
  · rfl
theorem startN_len2 (n : Net) (b : Nat) (hs : NetR n → n.sets.length ≤ 1000) : (startN n b).length ≤ 1000 := by
  unfold startN
  split
  · rename_i h; have := withL_len n.sets n.first b; have := hs ((rightN_iff n).1 h); omega
  · simp
theorem stepN_len2 (n : Net) (l : List Int) (b : Nat) (hs : NetR n → n.sets.length ≤ 1000) : (stepN n l b).length ≤ 1000 := by
  unfold stepN
  split
  · rename_i h; have := withL_len n.sets (allR n l) b; have := hs ((rightN_iff n).1 h); unfold stepW; omega
  · simp
theorem runK_len2 (n : Net) (w : ByteArray) (k : Nat) (hs : NetR n → n.sets.length ≤ 1000) : (runK n w k).length ≤ 1000 := by
  cases k with
  | zero => simp [runK]
  | succ k => rw [runK]; split; exact startN_len2 _ _ hs; exact stepN_len2 _ _ _ hs
theorem runK_nil (n : Net) (w : ByteArray) (k : Nat) (hk : 1 ≤ k) (h : runK n w k = []) : ∀ j, k ≤ j → runK n w j = [] := by
  intro j
  induction j with
  | zero => intro hj; omega
  | succ j ih =>
    intro hj
    by_cases e : j + 1 = k
    · rw [e]; exact h
    · rw [runK, if_neg (by omega), ih (by omega), stepN_nil]

set_option maxRecDepth 20000 in
set_option maxHeartbeats 4000000 in
theorem refRun_ok (n : Net) (w : ByteArray) (hw : w.size ≤ 1000) (hn : Nb n) (hs : NetR n → n.sets.length ≤ 1000) : PCall Try.prog 55 [netV n, S w] (· = slI (runK n w w.size)) := by
  refine PCall.intro' Try.func55 rfl Try.ntmps55 (by simp) fun W => ?_
  refine PC.seq fun K hK => ?_
  refine PC.region ?_
  refine PL.boxA 1 (d := 2) rfl rfl rfl (by simp) (v := netV n) (by simp [go_sem]) (by simp [go_sem, okC]) rfl fun v H1 b1 o1 => ?_
  have b1 := netBox b1
  repeat (first | (refine PC.seq fun K hK => ?_) | (refine PC.block ?_) | (refine PC.region ?_) | (refine PL.k rfl fun KK hKK => ?_; simp (disch := omega) [go_sem, stepK, b1]; refine hKK _ ?_; clear hKK KK) | (refine PL.k rfl fun KK hKK => ?_; simp [go_sem, stepK, b1]; refine hKK _ ?_; clear hKK KK) | (refine PL.g rfl rfl fun KK hKK => ?_; simp (disch := omega) [go_sem, L.stepG, b1]; refine hKK _ ?_; clear hKK KK) | (refine PL.g rfl rfl fun KK hKK => ?_; simp [go_sem, L.stepG, b1]; refine hKK _ ?_; clear hKK KK) | (refine PL.done hK ?_; clear hK) | (refine PC.skip (hK _ _ ?_); clear hK) | (refine PC.condT ?_ ?_; focus (simp [go_sem, b1]; done)) | (refine PC.condF ?_ ?_; focus (simp [go_sem, b1]; done)) | (refine PC.exit ?_; first | (refine hK _ _ ?_; clear hK) | (clear hK; refine hK _ _ ?_; clear hK) | (clear hK; clear hK; refine hK _ _ ?_; clear hK)))
  refine PL.buildSliceR (d := 7) rfl rfl rfl (by simp) selem_30 rfl (by omega) (ips := []) (by simp [go_sem]) (by simp [litOk]) (ps := []) rfl ?_
  repeat (first | (refine PC.seq fun K hK => ?_) | (refine PC.block ?_) | (refine PC.region ?_) | (refine PL.k rfl fun KK hKK => ?_; simp (disch := omega) [go_sem, stepK]; refine hKK _ ?_; clear hKK KK) | (refine PL.k rfl fun KK hKK => ?_; simp [go_sem, stepK]; refine hKK _ ?_; clear hKK KK) | (refine PL.g rfl rfl fun KK hKK => ?_; simp (disch := omega) [go_sem, L.stepG]; refine hKK _ ?_; clear hKK KK) | (refine PL.g rfl rfl fun KK hKK => ?_; simp [go_sem, L.stepG]; refine hKK _ ?_; clear hKK KK) | (refine PL.done hK ?_; clear hK) | (refine PC.skip (hK _ _ ?_); clear hK) | (refine PC.condT ?_ ?_; focus (simp [go_sem]; done)) | (refine PC.condF ?_ ?_; focus (simp [go_sem]; done)) | (refine PC.exit ?_; first | (refine hK _ _ ?_; clear hK) | (clear hK; refine hK _ _ ?_; clear hK) | (clear hK; clear hK; refine hK _ _ ?_; clear hK)))
  refine PC.loop (fun m F H' => ∃ k : Nat, k ≤ w.size ∧ m = w.size - k ∧ F 1 = S w ∧ F 2 = .pp 1 0 v ∧ F 5 = slI (runK n w k) ∧ F 6 = I k ∧ H' = H1) (m := w.size) ⟨0, by omega, by omega, by simp [go_sem], by simp [go_sem], by simp [go_sem, runK, slI], by simp [go_sem], rfl⟩ fun m F H' hI => ?_
  obtain ⟨k, hk, hm, f1, f2, f5, f6, rfl⟩ := hI
  by_cases hlt : k < w.size
  · have hlt' : (k : Int) < w.size := by omega
    by_cases hk0 : k = 0
    · subst hk0
      have hby := byte_get hlt
      repeat (first | (refine PC.seq fun K hK => ?_) | (refine PC.block ?_) | (refine PC.region ?_) | (refine PL.k rfl fun KK hKK => ?_; simp (disch := omega) [go_sem, stepK, f1, f6, hlt, hlt']; refine hKK _ ?_; clear hKK KK) | (refine PL.k rfl fun KK hKK => ?_; simp [go_sem, stepK, f1, f6, hlt, hlt']; refine hKK _ ?_; clear hKK KK) | (refine PL.g rfl rfl fun KK hKK => ?_; simp (disch := omega) [go_sem, L.stepG, f1, f6, hlt, hlt']; refine hKK _ ?_; clear hKK KK) | (refine PL.g rfl rfl fun KK hKK => ?_; simp [go_sem, L.stepG, f1, f6, hlt, hlt']; refine hKK _ ?_; clear hKK KK) | (refine PL.done hK ?_; clear hK) | (refine PC.skip (hK _ _ ?_); clear hK) | (refine PC.condT ?_ ?_; focus (simp [go_sem, f1, f6, hlt, hlt']; done)) | (refine PC.condF ?_ ?_; focus (simp [go_sem, f1, f6, hlt, hlt']; done)) | (refine PC.exit ?_; first | (refine hK _ _ ?_; clear hK) | (clear hK; refine hK _ _ ?_; clear hK) | (clear hK; clear hK; refine hK _ _ ?_; clear hK)))
      refine PC.regionQ mixed (by kernel_rfl) ?_
      repeat (first | (refine QF.k rfl fun KK hKK => ?_; simp (disch := omega) [go_sem, stepK, f1, f2, b1, hlt, hby]; refine hKK _ ?_; clear hKK KK) | (refine QF.k rfl fun KK hKK => ?_; simp [go_sem, stepK, f1, f2, b1, hlt, hby]; refine hKK _ ?_; clear hKK KK) | (refine QF.g rfl rfl fun KK hKK => ?_; simp (disch := omega) [go_sem, L.stepG, f1, f2, b1, hlt, hby]; refine hKK _ ?_; clear hKK KK) | (refine QF.g rfl rfl fun KK hKK => ?_; simp [go_sem, L.stepG, f1, f2, b1, hlt, hby]; refine hKK _ ?_; clear hKK KK))
      refine QF.callB rfl rfl (by kernel_rfl) (refStart_ok n (byteAt w 0) (byteAt_lt _ _) hn hs) (by simp [go_sem]) (by simp [go_sem]) (by simp [go_sem]) ?_
      repeat (first | (refine QF.k rfl fun KK hKK => ?_; simp (disch := omega) [go_sem, stepK]; refine hKK _ ?_; clear hKK KK) | (refine QF.k rfl fun KK hKK => ?_; simp [go_sem, stepK]; refine hKK _ ?_; clear hKK KK) | (refine QF.g rfl rfl fun KK hKK => ?_; simp (disch := omega) [go_sem, L.stepG]; refine hKK _ ?_; clear hKK KK) | (refine QF.g rfl rfl fun KK hKK => ?_; simp [go_sem, L.stepG]; refine hKK _ ?_; clear hKK KK))
      refine QF.done hK ?_; clear hK
      repeat (first | (refine PC.seq fun K hK => ?_) | (refine PC.block ?_) | (refine PC.region ?_) | (refine PL.k rfl fun KK hKK => ?_; simp (disch := omega) [go_sem, stepK, f6]; refine hKK _ ?_; clear hKK KK) | (refine PL.k rfl fun KK hKK => ?_; simp [go_sem, stepK, f6]; refine hKK _ ?_; clear hKK KK) | (refine PL.g rfl rfl fun KK hKK => ?_; simp (disch := omega) [go_sem, L.stepG, f6]; refine hKK _ ?_; clear hKK KK) | (refine PL.g rfl rfl fun KK hKK => ?_; simp [go_sem, L.stepG, f6]; refine hKK _ ?_; clear hKK KK) | (refine PL.done hK ?_; clear hK) | (refine PC.skip (hK _ _ ?_); clear hK) | (refine PC.condT ?_ ?_; focus (simp [go_sem, f6]; done)) | (refine PC.condF ?_ ?_; focus (simp [go_sem, f6]; done)) | (refine PC.exit ?_; first | (refine hK _ _ ?_; clear hK) | (clear hK; refine hK _ _ ?_; clear hK) | (clear hK; clear hK; refine hK _ _ ?_; clear hK)))
      refine PL.nil ⟨w.size - 1, by omega, 1, by omega, by omega, by simp [go_sem, f1], by simp [go_sem, f2], by simp [go_sem, runK], by simp [go_sem], rfl⟩
    · have hk0' : ¬ (k : Int) = 0 := by omega
      have hby := byte_get hlt
      have hl := runK_len2 n w k hs
      repeat (first | (refine PC.seq fun K hK => ?_) | (refine PC.block ?_) | (refine PC.region ?_) | (refine PL.k rfl fun KK hKK => ?_; simp (disch := omega) [go_sem, stepK, f1, f6, hlt, hlt', hk0, hk0']; refine hKK _ ?_; clear hKK KK) | (refine PL.k rfl fun KK hKK => ?_; simp [go_sem, stepK, f1, f6, hlt, hlt', hk0, hk0']; refine hKK _ ?_; clear hKK KK) | (refine PL.g rfl rfl fun KK hKK => ?_; simp (disch := omega) [go_sem, L.stepG, f1, f6, hlt, hlt', hk0, hk0']; refine hKK _ ?_; clear hKK KK) | (refine PL.g rfl rfl fun KK hKK => ?_; simp [go_sem, L.stepG, f1, f6, hlt, hlt', hk0, hk0']; refine hKK _ ?_; clear hKK KK) | (refine PL.done hK ?_; clear hK) | (refine PC.skip (hK _ _ ?_); clear hK) | (refine PC.condT ?_ ?_; focus (simp [go_sem, f1, f6, hlt, hlt', hk0, hk0']; done)) | (refine PC.condF ?_ ?_; focus (simp [go_sem, f1, f6, hlt, hlt', hk0, hk0']; done)) | (refine PC.exit ?_; first | (refine hK _ _ ?_; clear hK) | (clear hK; refine hK _ _ ?_; clear hK) | (clear hK; clear hK; refine hK _ _ ?_; clear hK)))
      refine PC.regionQ mixed (by kernel_rfl) ?_
      repeat (first | (refine QF.k rfl fun KK hKK => ?_; simp (disch := omega) [go_sem, stepK, f1, f2, f5, f6, b1, hlt, hby]; refine hKK _ ?_; clear hKK KK) | (refine QF.k rfl fun KK hKK => ?_; simp [go_sem, stepK, f1, f2, f5, f6, b1, hlt, hby]; refine hKK _ ?_; clear hKK KK) | (refine QF.g rfl rfl fun KK hKK => ?_; simp (disch := omega) [go_sem, L.stepG, f1, f2, f5, f6, b1, hlt, hby]; refine hKK _ ?_; clear hKK KK) | (refine QF.g rfl rfl fun KK hKK => ?_; simp [go_sem, L.stepG, f1, f2, f5, f6, b1, hlt, hby]; refine hKK _ ?_; clear hKK KK))
      refine QF.callB rfl rfl (by kernel_rfl) (refStep_ok n (runK n w k) (byteAt w k) (byteAt_lt _ _) (by omega) hn hs) (by simp [go_sem]) (by simp [go_sem]) (by simp [go_sem]) ?_
      repeat (first | (refine QF.k rfl fun KK hKK => ?_; simp (disch := omega) [go_sem, stepK]; refine hKK _ ?_; clear hKK KK) | (refine QF.k rfl fun KK hKK => ?_; simp [go_sem, stepK]; refine hKK _ ?_; clear hKK KK) | (refine QF.g rfl rfl fun KK hKK => ?_; simp (disch := omega) [go_sem, L.stepG]; refine hKK _ ?_; clear hKK KK) | (refine QF.g rfl rfl fun KK hKK => ?_; simp [go_sem, L.stepG]; refine hKK _ ?_; clear hKK KK))
      refine QF.done hK ?_; clear hK
      repeat (first | (refine PC.seq fun K hK => ?_) | (refine PC.block ?_) | (refine PC.region ?_) | (refine PL.k rfl fun KK hKK => ?_; simp (disch := omega) [go_sem, stepK, f6]; refine hKK _ ?_; clear hKK KK) | (refine PL.k rfl fun KK hKK => ?_; simp [go_sem, stepK, f6]; refine hKK _ ?_; clear hKK KK) | (refine PL.g rfl rfl fun KK hKK => ?_; simp (disch := omega) [go_sem, L.stepG, f6]; refine hKK _ ?_; clear hKK KK) | (refine PL.g rfl rfl fun KK hKK => ?_; simp [go_sem, L.stepG, f6]; refine hKK _ ?_; clear hKK KK) | (refine PL.done hK ?_; clear hK) | (refine PC.skip (hK _ _ ?_); clear hK) | (refine PC.condT ?_ ?_; focus (simp [go_sem, f6]; done)) | (refine PC.condF ?_ ?_; focus (simp [go_sem, f6]; done)) | (refine PC.exit ?_; first | (refine hK _ _ ?_; clear hK) | (clear hK; refine hK _ _ ?_; clear hK) | (clear hK; clear hK; refine hK _ _ ?_; clear hK)))
      refine PL.nil ⟨w.size - (k + 1), by omega, k + 1, by omega, by omega, by simp [go_sem, f1], by simp [go_sem, f2], by simp [go_sem, runK, hk0], by simp [go_sem], rfl⟩
  · have hlt' : ¬ (k : Int) < w.size := by omega
    have hke : k = w.size := by omega
    repeat (first | (refine PC.seq fun K hK => ?_) | (refine PC.block ?_) | (refine PC.region ?_) | (refine PL.k rfl fun KK hKK => ?_; simp (disch := omega) [go_sem, stepK, f1, f5, f6, hlt, hlt']; refine hKK _ ?_; clear hKK KK) | (refine PL.k rfl fun KK hKK => ?_; simp [go_sem, stepK, f1, f5, f6, hlt, hlt']; refine hKK _ ?_; clear hKK KK) | (refine PL.g rfl rfl fun KK hKK => ?_; simp (disch := omega) [go_sem, L.stepG, f1, f5, f6, hlt, hlt']; refine hKK _ ?_; clear hKK KK) | (refine PL.g rfl rfl fun KK hKK => ?_; simp [go_sem, L.stepG, f1, f5, f6, hlt, hlt']; refine hKK _ ?_; clear hKK KK) | (refine PL.done hK ?_; clear hK) | (refine PC.skip (hK _ _ ?_); clear hK) | (refine PC.condT ?_ ?_; focus (simp [go_sem, f1, f5, f6, hlt, hlt']; done)) | (refine PC.condF ?_ ?_; focus (simp [go_sem, f1, f5, f6, hlt, hlt']; done)) | (refine PC.exit ?_; first | (refine hK _ _ ?_; clear hK) | (clear hK; refine hK _ _ ?_; clear hK) | (clear hK; clear hK; refine hK _ _ ?_; clear hK)))
    (refine PC.ret ?_; refine fin (.inr rfl) (by simp [resP, resP1, Try.results55, go_sem, hke]) (by simp [go_sem, hke]))

theorem toList_len (w : ByteArray) : ∀ (m i : Nat) (r : List UInt8), m = w.size - i → (ByteArray.toList.loop w i r).length = r.length + m := by
  intro m
  induction m with
  | zero =>
    intro i r h
    rw [ByteArray.toList.loop, if_neg (by omega)]
    simp
  | succ m ih =>
    intro i r h
    rw [ByteArray.toList.loop, if_pos (by omega), ih (i + 1) _ (by omega)]
    simp
    omega
theorem str_ne {w : ByteArray} (h : ¬ w.size = 0) : ¬ w.toList = [] := fun e => by
  have := toList_len w w.size 0 [] (by omega)
  rw [show ByteArray.toList.loop w 0 [] = w.toList from rfl, e] at this
  simp at this
  omega

set_option maxRecDepth 20000 in
set_option maxHeartbeats 4000000 in
theorem fuseRun_ok (n : Net) (w : ByteArray) (hw : w.size ≤ 1000) (hn : Nb n) (hs : NetR n → n.sets.length ≤ 1000) (hnn : ∀ x ∈ n.sets, x.nn) : PCall Try.prog 46 [netV n, S w] (· = slI (runK n w w.size)) := by
  refine PCall.intro' Try.func46 rfl Try.ntmps46 (by simp) fun W => ?_
  refine PC.seq fun K hK => ?_
  refine PC.region ?_
  refine PL.boxA 1 (d := 2) rfl rfl rfl (by simp) (v := netV n) (by simp [go_sem]) (by simp [go_sem, okC]) rfl fun v H1 b1 o1 => ?_
  have b1 := netBox b1
  by_cases h0 : w.size = 0
  · have hsn : w = ByteArray.empty := by simpa using h0
    subst hsn
    repeat (first | (refine PC.seq fun K hK => ?_) | (refine PC.block ?_) | (refine PC.region ?_) | (refine PL.k rfl fun KK hKK => ?_; simp (disch := omega) [go_sem, stepK, b1]; refine hKK _ ?_; clear hKK KK) | (refine PL.k rfl fun KK hKK => ?_; simp [go_sem, stepK, b1]; refine hKK _ ?_; clear hKK KK) | (refine PL.g rfl rfl fun KK hKK => ?_; simp (disch := omega) [go_sem, L.stepG, b1]; refine hKK _ ?_; clear hKK KK) | (refine PL.g rfl rfl fun KK hKK => ?_; simp [go_sem, L.stepG, b1]; refine hKK _ ?_; clear hKK KK) | (refine PL.done hK ?_; clear hK) | (refine PC.skip (hK _ _ ?_); clear hK) | (refine PC.condT ?_ ?_; focus (simp [go_sem, b1]; done)) | (refine PC.condF ?_ ?_; focus (simp [go_sem, b1]; done)) | (refine PC.exit ?_; first | (refine hK _ _ ?_; clear hK) | (clear hK; refine hK _ _ ?_; clear hK) | (clear hK; clear hK; refine hK _ _ ?_; clear hK)))
    (refine PC.ret ?_; refine ⟨.inr rfl, .u (.slice none 0 0), slI [], by simp [resP, resP1, Try.results46, go_sem], View.nil _ _ _, noP_slI _, by simp [runK]⟩)
  have hpos : 0 < w.size := by omega
  have hby0 := byte_get hpos
  have hsn := str_ne h0
  repeat (first | (refine PC.seq fun K hK => ?_) | (refine PC.block ?_) | (refine PC.region ?_) | (refine PL.k rfl fun KK hKK => ?_; simp (disch := omega) [go_sem, stepK, b1, hsn]; refine hKK _ ?_; clear hKK KK) | (refine PL.k rfl fun KK hKK => ?_; simp [go_sem, stepK, b1, hsn]; refine hKK _ ?_; clear hKK KK) | (refine PL.g rfl rfl fun KK hKK => ?_; simp (disch := omega) [go_sem, L.stepG, b1, hsn]; refine hKK _ ?_; clear hKK KK) | (refine PL.g rfl rfl fun KK hKK => ?_; simp [go_sem, L.stepG, b1, hsn]; refine hKK _ ?_; clear hKK KK) | (refine PL.done hK ?_; clear hK) | (refine PC.skip (hK _ _ ?_); clear hK) | (refine PC.condT ?_ ?_; focus (simp [go_sem, b1, hsn]; done)) | (refine PC.condF ?_ ?_; focus (simp [go_sem, b1, hsn]; done)) | (refine PC.exit ?_; first | (refine hK _ _ ?_; clear hK) | (clear hK; refine hK _ _ ?_; clear hK) | (clear hK; clear hK; refine hK _ _ ?_; clear hK)))
  refine PL.callBg rfl rfl rfl (by simp [go_sem, hsn]) (by kernel_rfl) (fuseRight_ok n hn) (by simp [go_sem]) (by simp [go_sem]) (by simp [go_sem]) ?_
  cases hr : rightN n
  · have hall : runK n w w.size = [] := by
      refine runK_nil n w 1 (by omega) ?_ _ (by omega)
      simp [runK, startN, hr]
    repeat (first | (refine PC.seq fun K hK => ?_) | (refine PC.block ?_) | (refine PC.region ?_) | (refine PL.k rfl fun KK hKK => ?_; simp (disch := omega) [go_sem, stepK, hr, hsn]; refine hKK _ ?_; clear hKK KK) | (refine PL.k rfl fun KK hKK => ?_; simp [go_sem, stepK, hr, hsn]; refine hKK _ ?_; clear hKK KK) | (refine PL.g rfl rfl fun KK hKK => ?_; simp (disch := omega) [go_sem, L.stepG, hr, hsn]; refine hKK _ ?_; clear hKK KK) | (refine PL.g rfl rfl fun KK hKK => ?_; simp [go_sem, L.stepG, hr, hsn]; refine hKK _ ?_; clear hKK KK) | (refine PL.done hK ?_; clear hK) | (refine PC.skip (hK _ _ ?_); clear hK) | (refine PC.condT ?_ ?_; focus (simp [go_sem, hr, hsn]; done)) | (refine PC.condF ?_ ?_; focus (simp [go_sem, hr, hsn]; done)) | (refine PC.exit ?_; first | (refine hK _ _ ?_; clear hK) | (clear hK; refine hK _ _ ?_; clear hK) | (clear hK; clear hK; refine hK _ _ ?_; clear hK)))
    (refine PC.ret ?_; refine ⟨.inr rfl, .u (.slice none 0 0), slI [], by simp [resP, resP1, Try.results46, go_sem], View.nil _ _ _, noP_slI _, by simp [hall]⟩)
  have hR := (rightN_iff n).1 hr
  have hh := having_ok n n.first (byteAt w 0) (byteAt_lt _ _) (by have := rising_len2 hR.t; have := hs hR; omega) (fun x hx => hR.t.2 x hx) hnn
  rw [start_have hR] at hh
  repeat (first | (refine PC.seq fun K hK => ?_) | (refine PC.block ?_) | (refine PC.region ?_) | (refine PL.k rfl fun KK hKK => ?_; simp (disch := omega) [go_sem, stepK, hr, hsn]; refine hKK _ ?_; clear hKK KK) | (refine PL.k rfl fun KK hKK => ?_; simp [go_sem, stepK, hr, hsn]; refine hKK _ ?_; clear hKK KK) | (refine PL.g rfl rfl fun KK hKK => ?_; simp (disch := omega) [go_sem, L.stepG, hr, hsn]; refine hKK _ ?_; clear hKK KK) | (refine PL.g rfl rfl fun KK hKK => ?_; simp [go_sem, L.stepG, hr, hsn]; refine hKK _ ?_; clear hKK KK) | (refine PL.done hK ?_; clear hK) | (refine PC.skip (hK _ _ ?_); clear hK) | (refine PC.condT ?_ ?_; focus (simp [go_sem, hr, hsn]; done)) | (refine PC.condF ?_ ?_; focus (simp [go_sem, hr, hsn]; done)) | (refine PC.exit ?_; first | (refine hK _ _ ?_; clear hK) | (clear hK; refine hK _ _ ?_; clear hK) | (clear hK; clear hK; refine hK _ _ ?_; clear hK)))
  refine PC.regionQ mixed (by kernel_rfl) ?_
  repeat (first | (refine QF.k rfl fun KK hKK => ?_; simp (disch := omega) [go_sem, stepK, b1, hpos, hby0]; refine hKK _ ?_; clear hKK KK) | (refine QF.k rfl fun KK hKK => ?_; simp [go_sem, stepK, b1, hpos, hby0]; refine hKK _ ?_; clear hKK KK) | (refine QF.g rfl rfl fun KK hKK => ?_; simp (disch := omega) [go_sem, L.stepG, b1, hpos, hby0]; refine hKK _ ?_; clear hKK KK) | (refine QF.g rfl rfl fun KK hKK => ?_; simp [go_sem, L.stepG, b1, hpos, hby0]; refine hKK _ ?_; clear hKK KK))
  refine QF.callB rfl rfl (by kernel_rfl) hh (by simp [go_sem]) (by simp [go_sem]) (by simp [go_sem]) ?_
  repeat (first | (refine QF.k rfl fun KK hKK => ?_; simp (disch := omega) [go_sem, stepK]; refine hKK _ ?_; clear hKK KK) | (refine QF.k rfl fun KK hKK => ?_; simp [go_sem, stepK]; refine hKK _ ?_; clear hKK KK) | (refine QF.g rfl rfl fun KK hKK => ?_; simp (disch := omega) [go_sem, L.stepG]; refine hKK _ ?_; clear hKK KK) | (refine QF.g rfl rfl fun KK hKK => ?_; simp [go_sem, L.stepG]; refine hKK _ ?_; clear hKK KK))
  refine QF.done hK ?_; clear hK
  repeat (first | (refine PC.seq fun K hK => ?_) | (refine PC.block ?_) | (refine PC.region ?_) | (refine PL.k rfl fun KK hKK => ?_; simp (disch := omega) [go_sem, stepK]; refine hKK _ ?_; clear hKK KK) | (refine PL.k rfl fun KK hKK => ?_; simp [go_sem, stepK]; refine hKK _ ?_; clear hKK KK) | (refine PL.g rfl rfl fun KK hKK => ?_; simp (disch := omega) [go_sem, L.stepG]; refine hKK _ ?_; clear hKK KK) | (refine PL.g rfl rfl fun KK hKK => ?_; simp [go_sem, L.stepG]; refine hKK _ ?_; clear hKK KK) | (refine PL.done hK ?_; clear hK) | (refine PC.skip (hK _ _ ?_); clear hK) | (refine PC.condT ?_ ?_; focus (simp [go_sem]; done)) | (refine PC.condF ?_ ?_; focus (simp [go_sem]; done)) | (refine PC.exit ?_; first | (refine hK _ _ ?_; clear hK) | (clear hK; refine hK _ _ ?_; clear hK) | (clear hK; clear hK; refine hK _ _ ?_; clear hK)))
  refine PC.loop (fun m F H' => ∃ k : Nat, 1 ≤ k ∧ k ≤ w.size ∧ m = w.size - k ∧ F 1 = S w ∧ F 2 = .pp 1 0 v ∧ F 5 = slI (runK n w k) ∧ F 6 = I k ∧ H' = H1) (m := w.size - 1) ⟨1, by omega, by omega, by omega, by simp [go_sem], by simp [go_sem], by simp [go_sem, runK, startN, hr], by simp [go_sem], rfl⟩ fun m F H' hI => ?_
  obtain ⟨k, hk1, hk, hm, f1, f2, f5, f6, rfl⟩ := hI
  have hl := runK_len2 n w k hs
  by_cases hlt : k < w.size
  · have hlt' : (k : Int) < w.size := by omega
    by_cases hne : 0 < (runK n w k).length
    · have hne' : (0 : Int) < (runK n w k).length := by omega
      have hby := byte_get hlt
      have ho := on_ok n (runK n w k) (byteAt w k) (byteAt_lt _ _) (by omega) (hs hR) hR hnn
      have hsucc : runK n w (k + 1) = stepW n (runK n w k) (byteAt w k) := by rw [runK, if_neg (by omega)]; simp [stepN, hr]
      repeat (first | (refine PC.seq fun K hK => ?_) | (refine PC.block ?_) | (refine PC.region ?_) | (refine PL.k rfl fun KK hKK => ?_; simp (disch := omega) [go_sem, stepK, f1, f5, f6, hlt, hlt', hne, hne']; refine hKK _ ?_; clear hKK KK) | (refine PL.k rfl fun KK hKK => ?_; simp [go_sem, stepK, f1, f5, f6, hlt, hlt', hne, hne']; refine hKK _ ?_; clear hKK KK) | (refine PL.g rfl rfl fun KK hKK => ?_; simp (disch := omega) [go_sem, L.stepG, f1, f5, f6, hlt, hlt', hne, hne']; refine hKK _ ?_; clear hKK KK) | (refine PL.g rfl rfl fun KK hKK => ?_; simp [go_sem, L.stepG, f1, f5, f6, hlt, hlt', hne, hne']; refine hKK _ ?_; clear hKK KK) | (refine PL.done hK ?_; clear hK) | (refine PC.skip (hK _ _ ?_); clear hK) | (refine PC.condT ?_ ?_; focus (simp [go_sem, f1, f5, f6, hlt, hlt', hne, hne']; done)) | (refine PC.condF ?_ ?_; focus (simp [go_sem, f1, f5, f6, hlt, hlt', hne, hne']; done)) | (refine PC.exit ?_; first | (refine hK _ _ ?_; clear hK) | (clear hK; refine hK _ _ ?_; clear hK) | (clear hK; clear hK; refine hK _ _ ?_; clear hK)))
      refine PC.regionQ mixed (by kernel_rfl) ?_
      repeat (first | (refine QF.k rfl fun KK hKK => ?_; simp (disch := omega) [go_sem, stepK, f1, f2, f5, f6, b1, hlt, hby]; refine hKK _ ?_; clear hKK KK) | (refine QF.k rfl fun KK hKK => ?_; simp [go_sem, stepK, f1, f2, f5, f6, b1, hlt, hby]; refine hKK _ ?_; clear hKK KK) | (refine QF.g rfl rfl fun KK hKK => ?_; simp (disch := omega) [go_sem, L.stepG, f1, f2, f5, f6, b1, hlt, hby]; refine hKK _ ?_; clear hKK KK) | (refine QF.g rfl rfl fun KK hKK => ?_; simp [go_sem, L.stepG, f1, f2, f5, f6, b1, hlt, hby]; refine hKK _ ?_; clear hKK KK))
      refine QF.callB rfl rfl (by kernel_rfl) ho (by simp [go_sem]) (by simp [go_sem]) (by simp [go_sem]) ?_
      repeat (first | (refine QF.k rfl fun KK hKK => ?_; simp (disch := omega) [go_sem, stepK]; refine hKK _ ?_; clear hKK KK) | (refine QF.k rfl fun KK hKK => ?_; simp [go_sem, stepK]; refine hKK _ ?_; clear hKK KK) | (refine QF.g rfl rfl fun KK hKK => ?_; simp (disch := omega) [go_sem, L.stepG]; refine hKK _ ?_; clear hKK KK) | (refine QF.g rfl rfl fun KK hKK => ?_; simp [go_sem, L.stepG]; refine hKK _ ?_; clear hKK KK))
      refine QF.done hK ?_; clear hK
      repeat (first | (refine PC.seq fun K hK => ?_) | (refine PC.block ?_) | (refine PC.region ?_) | (refine PL.k rfl fun KK hKK => ?_; simp (disch := omega) [go_sem, stepK, f6]; refine hKK _ ?_; clear hKK KK) | (refine PL.k rfl fun KK hKK => ?_; simp [go_sem, stepK, f6]; refine hKK _ ?_; clear hKK KK) | (refine PL.g rfl rfl fun KK hKK => ?_; simp (disch := omega) [go_sem, L.stepG, f6]; refine hKK _ ?_; clear hKK KK) | (refine PL.g rfl rfl fun KK hKK => ?_; simp [go_sem, L.stepG, f6]; refine hKK _ ?_; clear hKK KK) | (refine PL.done hK ?_; clear hK) | (refine PC.skip (hK _ _ ?_); clear hK) | (refine PC.condT ?_ ?_; focus (simp [go_sem, f6]; done)) | (refine PC.condF ?_ ?_; focus (simp [go_sem, f6]; done)) | (refine PC.exit ?_; first | (refine hK _ _ ?_; clear hK) | (clear hK; refine hK _ _ ?_; clear hK) | (clear hK; clear hK; refine hK _ _ ?_; clear hK)))
      refine PL.nil ⟨w.size - (k + 1), by omega, k + 1, by omega, by omega, by omega, by simp [go_sem, f1], by simp [go_sem, f2], by simp [go_sem, hsucc], by simp [go_sem], rfl⟩
    · have hnil : runK n w k = [] := List.eq_nil_of_length_eq_zero (by omega)
      have hall := runK_nil n w k hk1 hnil w.size hk
      rw [hnil] at f5
      repeat (first | (refine PC.seq fun K hK => ?_) | (refine PC.block ?_) | (refine PC.region ?_) | (refine PL.k rfl fun KK hKK => ?_; simp (disch := omega) [go_sem, stepK, f1, f5, f6, hlt, hlt']; refine hKK _ ?_; clear hKK KK) | (refine PL.k rfl fun KK hKK => ?_; simp [go_sem, stepK, f1, f5, f6, hlt, hlt']; refine hKK _ ?_; clear hKK KK) | (refine PL.g rfl rfl fun KK hKK => ?_; simp (disch := omega) [go_sem, L.stepG, f1, f5, f6, hlt, hlt']; refine hKK _ ?_; clear hKK KK) | (refine PL.g rfl rfl fun KK hKK => ?_; simp [go_sem, L.stepG, f1, f5, f6, hlt, hlt']; refine hKK _ ?_; clear hKK KK) | (refine PL.done hK ?_; clear hK) | (refine PC.skip (hK _ _ ?_); clear hK) | (refine PC.condT ?_ ?_; focus (simp [go_sem, f1, f5, f6, hlt, hlt']; done)) | (refine PC.condF ?_ ?_; focus (simp [go_sem, f1, f5, f6, hlt, hlt']; done)) | (refine PC.exit ?_; first | (refine hK _ _ ?_; clear hK) | (clear hK; refine hK _ _ ?_; clear hK) | (clear hK; clear hK; refine hK _ _ ?_; clear hK)))
      (refine PC.ret ?_; refine fin (.inr rfl) (by simp [resP, resP1, Try.results46, go_sem, hall]) (by simp [go_sem, hall]))
  · have hlt' : ¬ (k : Int) < w.size := by omega
    have hke : k = w.size := by omega
    repeat (first | (refine PC.seq fun K hK => ?_) | (refine PC.block ?_) | (refine PC.region ?_) | (refine PL.k rfl fun KK hKK => ?_; simp (disch := omega) [go_sem, stepK, f1, f5, f6, hlt, hlt']; refine hKK _ ?_; clear hKK KK) | (refine PL.k rfl fun KK hKK => ?_; simp [go_sem, stepK, f1, f5, f6, hlt, hlt']; refine hKK _ ?_; clear hKK KK) | (refine PL.g rfl rfl fun KK hKK => ?_; simp (disch := omega) [go_sem, L.stepG, f1, f5, f6, hlt, hlt']; refine hKK _ ?_; clear hKK KK) | (refine PL.g rfl rfl fun KK hKK => ?_; simp [go_sem, L.stepG, f1, f5, f6, hlt, hlt']; refine hKK _ ?_; clear hKK KK) | (refine PL.done hK ?_; clear hK) | (refine PC.skip (hK _ _ ?_); clear hK) | (refine PC.condT ?_ ?_; focus (simp [go_sem, f1, f5, f6, hlt, hlt']; done)) | (refine PC.condF ?_ ?_; focus (simp [go_sem, f1, f5, f6, hlt, hlt']; done)) | (refine PC.exit ?_; first | (refine hK _ _ ?_; clear hK) | (clear hK; refine hK _ _ ?_; clear hK) | (clear hK; clear hK; refine hK _ _ ?_; clear hK)))
    (refine PC.ret ?_; refine fin (.inr rfl) (by simp [resP, resP1, Try.results46, go_sem, hke]) (by simp [go_sem, hke]))
end Go.Proofs.Ytficeeaaaijgcaa

/-
  The token that is read at some spots: the package fuse and chapter 12's reference.
-/
namespace Go.Proofs.Ytficeeaaaijgcaa
open Go Go.RowKit L
set_option linter.unusedVariables false
set_option linter.unusedSimpArgs false

@[go_sem] theorem bltP_min {P : Program} {t : Array TypeId} {ty : TypeId} {k : IntKind} {a b : Int} : bltP P .min t ty [.u (.int k a), .u (.int k b)] = some (.u (.int k (min a b))) := by
  simp [bltP, PV.val2, Builtin.min_, Builtin.min2, val_pure, ofV]
  split <;> omega
@[go_sem] theorem bltP_max {P : Program} {t : Array TypeId} {ty : TypeId} {k : IntKind} {a b : Int} : bltP P .max t ty [.u (.int k a), .u (.int k b)] = some (.u (.int k (max a b))) := by
  simp [bltP, PV.val2, Builtin.max_, Builtin.max2, val_pure, ofV]
  split <;> omega

def okT (n : Net) (i : Int) : Bool := decide (0 ≤ i ∧ i < n.sets.length) && n.last.getD i.toNat false
def ofT (n : Net) (i : Int) : Int := n.of_.getD i.toNat 0
def tokF (n : Net) (t i : Int) : Int := if okT n i = true then (if t < 0 ∨ ofT n i < t then ofT n i else t) else t
def tokK (n : Net) (at_ : List Int) : Int := at_.foldl (tokF n) (-1)
def tokN (n : Net) (at_ : List Int) : Int := if rightN n = true then tokK n at_ else -1
theorem tokK_succ (n : Net) (at_ : List Int) (k : Nat) (h : k < at_.length) : tokK n (at_.take (k + 1)) = tokF n (tokK n (at_.take k)) at_[k] := by
  unfold tokK; rw [List.take_succ_eq_append_getElem h, List.foldl_append]; rfl

set_option maxRecDepth 20000 in
set_option maxHeartbeats 4000000 in
theorem fuseToken_ok (n : Net) (at_ : List Int) (hl : at_.length ≤ 1000000) (hn : Nb n) : PCall Try.prog 47 [netV n, slI at_] (· = I (tokN n at_)) := by
  refine PCall.intro' Try.func47 rfl Try.ntmps47 (by simp) fun W => ?_
  refine PC.seq fun K hK => ?_
  refine PC.region ?_
  refine PL.boxA 1 (d := 2) rfl rfl rfl (by simp) (v := netV n) (by simp [go_sem]) (by simp [go_sem, okC]) rfl fun v H1 b1 o1 => ?_
  have b1 := netBox b1
  repeat (first | (refine PC.seq fun K hK => ?_) | (refine PC.block ?_) | (refine PC.region ?_) | (refine PL.k rfl fun KK hKK => ?_; simp (disch := omega) [go_sem, stepK, b1]; refine hKK _ ?_; clear hKK KK) | (refine PL.k rfl fun KK hKK => ?_; simp [go_sem, stepK, b1]; refine hKK _ ?_; clear hKK KK) | (refine PL.g rfl rfl fun KK hKK => ?_; simp (disch := omega) [go_sem, L.stepG, b1]; refine hKK _ ?_; clear hKK KK) | (refine PL.g rfl rfl fun KK hKK => ?_; simp [go_sem, L.stepG, b1]; refine hKK _ ?_; clear hKK KK) | (refine PL.done hK ?_; clear hK) | (refine PC.skip (hK _ _ ?_); clear hK) | (refine PC.condT ?_ ?_; focus (simp [go_sem, b1]; done)) | (refine PC.condF ?_ ?_; focus (simp [go_sem, b1]; done)) | (refine PC.exit ?_; first | (refine hK _ _ ?_; clear hK) | (clear hK; refine hK _ _ ?_; clear hK) | (clear hK; clear hK; refine hK _ _ ?_; clear hK)))
  refine PL.callB rfl rfl (by kernel_rfl) (fuseRight_ok n hn) (by simp [go_sem]) (by simp [go_sem]) (by simp [go_sem]) ?_
  cases hr : rightN n
  · repeat (first | (refine PC.seq fun K hK => ?_) | (refine PC.block ?_) | (refine PC.region ?_) | (refine PL.k rfl fun KK hKK => ?_; simp (disch := omega) [go_sem, stepK, hr]; refine hKK _ ?_; clear hKK KK) | (refine PL.k rfl fun KK hKK => ?_; simp [go_sem, stepK, hr]; refine hKK _ ?_; clear hKK KK) | (refine PL.g rfl rfl fun KK hKK => ?_; simp (disch := omega) [go_sem, L.stepG, hr]; refine hKK _ ?_; clear hKK KK) | (refine PL.g rfl rfl fun KK hKK => ?_; simp [go_sem, L.stepG, hr]; refine hKK _ ?_; clear hKK KK) | (refine PL.done hK ?_; clear hK) | (refine PC.skip (hK _ _ ?_); clear hK) | (refine PC.condT ?_ ?_; focus (simp [go_sem, hr]; done)) | (refine PC.condF ?_ ?_; focus (simp [go_sem, hr]; done)) | (refine PC.exit ?_; first | (refine hK _ _ ?_; clear hK) | (clear hK; refine hK _ _ ?_; clear hK) | (clear hK; clear hK; refine hK _ _ ?_; clear hK)))
    (refine PC.ret ?_; refine fin (.inr rfl) (by simp [resP, resP1, Try.results47, go_sem, tokN, hr]) (by simp [go_sem, tokN, hr]))
  have hR := (rightN_iff n).1 hr
  repeat (first | (refine PC.seq fun K hK => ?_) | (refine PC.block ?_) | (refine PC.region ?_) | (refine PL.k rfl fun KK hKK => ?_; simp (disch := omega) [go_sem, stepK, hr]; refine hKK _ ?_; clear hKK KK) | (refine PL.k rfl fun KK hKK => ?_; simp [go_sem, stepK, hr]; refine hKK _ ?_; clear hKK KK) | (refine PL.g rfl rfl fun KK hKK => ?_; simp (disch := omega) [go_sem, L.stepG, hr]; refine hKK _ ?_; clear hKK KK) | (refine PL.g rfl rfl fun KK hKK => ?_; simp [go_sem, L.stepG, hr]; refine hKK _ ?_; clear hKK KK) | (refine PL.done hK ?_; clear hK) | (refine PC.skip (hK _ _ ?_); clear hK) | (refine PC.condT ?_ ?_; focus (simp [go_sem, hr]; done)) | (refine PC.condF ?_ ?_; focus (simp [go_sem, hr]; done)) | (refine PC.exit ?_; first | (refine hK _ _ ?_; clear hK) | (clear hK; refine hK _ _ ?_; clear hK) | (clear hK; clear hK; refine hK _ _ ?_; clear hK)))
  refine PC.loop (fun m F H' => ∃ k : Nat, k ≤ at_.length ∧ m = at_.length - k ∧ F 2 = .pp 1 0 v ∧ F 5 = I (tokK n (at_.take k)) ∧ F 12 = slI at_ ∧ F 13 = I at_.length ∧ F 14 = I k ∧ H' = H1) (m := at_.length) ⟨0, by omega, by omega, by simp [go_sem], by simp [go_sem, tokK], by simp [go_sem], by simp [go_sem], by simp [go_sem], rfl⟩ fun m F H' hI => ?_
  obtain ⟨k, hk, hm, f2, f5, f12, f13, f14, rfl⟩ := hI
  by_cases hlt : k < at_.length
  · have hlt' : (k : Int) < at_.length := by omega
    have hsucc := tokK_succ n at_ k hlt
    obtain ⟨x, ex⟩ : ∃ x, at_[k] = x := ⟨_, rfl⟩
    rw [ex] at hsucc
    generalize tokK n (at_.take k) = t at *
    have iO : (n.of_.length : Int) = n.sets.length := by have := hR.o; omega
    by_cases h0 : x < 0
    · have hF : tokF n t x = t := by unfold tokF okT; rw [if_neg]; simp; omega
      rw [hF] at hsucc
      repeat (first | (refine PC.seq fun K hK => ?_) | (refine PC.block ?_) | (refine PC.region ?_) | (refine PL.k rfl fun KK hKK => ?_; simp (disch := omega) [go_sem, stepK, f12, f13, f14, hlt', hlt, ex, h0]; refine hKK _ ?_; clear hKK KK) | (refine PL.k rfl fun KK hKK => ?_; simp [go_sem, stepK, f12, f13, f14, hlt', hlt, ex, h0]; refine hKK _ ?_; clear hKK KK) | (refine PL.g rfl rfl fun KK hKK => ?_; simp (disch := omega) [go_sem, L.stepG, f12, f13, f14, hlt', hlt, ex, h0]; refine hKK _ ?_; clear hKK KK) | (refine PL.g rfl rfl fun KK hKK => ?_; simp [go_sem, L.stepG, f12, f13, f14, hlt', hlt, ex, h0]; refine hKK _ ?_; clear hKK KK) | (refine PL.done hK ?_; clear hK) | (refine PC.skip (hK _ _ ?_); clear hK) | (refine PC.condT ?_ ?_; focus (simp [go_sem, f12, f13, f14, hlt', hlt, ex, h0]; done)) | (refine PC.condF ?_ ?_; focus (simp [go_sem, f12, f13, f14, hlt', hlt, ex, h0]; done)) | (refine PC.exit ?_; first | (refine hK _ _ ?_; clear hK) | (clear hK; refine hK _ _ ?_; clear hK) | (clear hK; clear hK; refine hK _ _ ?_; clear hK)))
      refine PL.nil ⟨at_.length - (k + 1), by omega, k + 1, by omega, by omega, by simp [go_sem, f2], by simp [go_sem, f5, hsucc], by simp [go_sem, f12], by simp [go_sem, f13], by simp [go_sem], rfl⟩
    by_cases h1 : (n.of_.length : Int) ≤ x
    · have hF : tokF n t x = t := by unfold tokF okT; rw [if_neg]; simp; omega
      rw [hF] at hsucc
      repeat (first | (refine PC.seq fun K hK => ?_) | (refine PC.block ?_) | (refine PC.region ?_) | (refine PL.k rfl fun KK hKK => ?_; simp (disch := omega) [go_sem, stepK, f2, f12, f13, f14, hlt', hlt, ex, h0, h1, b1]; refine hKK _ ?_; clear hKK KK) | (refine PL.k rfl fun KK hKK => ?_; simp [go_sem, stepK, f2, f12, f13, f14, hlt', hlt, ex, h0, h1, b1]; refine hKK _ ?_; clear hKK KK) | (refine PL.g rfl rfl fun KK hKK => ?_; simp (disch := omega) [go_sem, L.stepG, f2, f12, f13, f14, hlt', hlt, ex, h0, h1, b1]; refine hKK _ ?_; clear hKK KK) | (refine PL.g rfl rfl fun KK hKK => ?_; simp [go_sem, L.stepG, f2, f12, f13, f14, hlt', hlt, ex, h0, h1, b1]; refine hKK _ ?_; clear hKK KK) | (refine PL.done hK ?_; clear hK) | (refine PC.skip (hK _ _ ?_); clear hK) | (refine PC.condT ?_ ?_; focus (simp [go_sem, f2, f12, f13, f14, hlt', hlt, ex, h0, h1, b1]; done)) | (refine PC.condF ?_ ?_; focus (simp [go_sem, f2, f12, f13, f14, hlt', hlt, ex, h0, h1, b1]; done)) | (refine PC.exit ?_; first | (refine hK _ _ ?_; clear hK) | (clear hK; refine hK _ _ ?_; clear hK) | (clear hK; clear hK; refine hK _ _ ?_; clear hK)))
      refine PL.nil ⟨at_.length - (k + 1), by omega, k + 1, by omega, by omega, by simp [go_sem, f2], by simp [go_sem, f5, hsucc], by simp [go_sem, f12], by simp [go_sem, f13], by simp [go_sem], rfl⟩
    have hx0 : 0 ≤ x := by omega
    have hll : x.toNat < n.last.length := by have := hR.l; omega
    have hol : x.toNat < n.of_.length := by have := hR.o; omega
    obtain ⟨y, ey⟩ : ∃ y, n.last[x.toNat] = y := ⟨_, rfl⟩
    obtain ⟨z, ez⟩ : ∃ z, n.of_[x.toNat] = z := ⟨_, rfl⟩
    have hzp : 0 ≤ z := hR.op z (ez ▸ List.getElem_mem hol)
    have hok : okT n x = y := by unfold okT; simp [List.getD, hll, ey]; omega
    have hoz : ofT n x = z := by unfold ofT; simp [List.getD, hol, ez]
    unfold tokF at hsucc
    rw [hok, hoz] at hsucc
    cases y
    · repeat (first | (refine PC.seq fun K hK => ?_) | (refine PC.block ?_) | (refine PC.region ?_) | (refine PL.k rfl fun KK hKK => ?_; simp (disch := omega) [go_sem, stepK, f2, f12, f13, f14, hlt', hlt, ex, h0, h1, hx0, hll, ey, b1]; refine hKK _ ?_; clear hKK KK) | (refine PL.k rfl fun KK hKK => ?_; simp [go_sem, stepK, f2, f12, f13, f14, hlt', hlt, ex, h0, h1, hx0, hll, ey, b1]; refine hKK _ ?_; clear hKK KK) | (refine PL.g rfl rfl fun KK hKK => ?_; simp (disch := omega) [go_sem, L.stepG, f2, f12, f13, f14, hlt', hlt, ex, h0, h1, hx0, hll, ey, b1]; refine hKK _ ?_; clear hKK KK) | (refine PL.g rfl rfl fun KK hKK => ?_; simp [go_sem, L.stepG, f2, f12, f13, f14, hlt', hlt, ex, h0, h1, hx0, hll, ey, b1]; refine hKK _ ?_; clear hKK KK) | (refine PL.done hK ?_; clear hK) | (refine PC.skip (hK _ _ ?_); clear hK) | (refine PC.condT ?_ ?_; focus (simp [go_sem, f2, f12, f13, f14, hlt', hlt, ex, h0, h1, hx0, hll, ey, b1]; done)) | (refine PC.condF ?_ ?_; focus (simp [go_sem, f2, f12, f13, f14, hlt', hlt, ex, h0, h1, hx0, hll, ey, b1]; done)) | (refine PC.exit ?_; first | (refine hK _ _ ?_; clear hK) | (clear hK; refine hK _ _ ?_; clear hK) | (clear hK; clear hK; refine hK _ _ ?_; clear hK)))
      refine PL.nil ⟨at_.length - (k + 1), by omega, k + 1, by omega, by omega, by simp [go_sem, f2], by simp [go_sem, f5, hsucc], by simp [go_sem, f12], by simp [go_sem, f13], by simp [go_sem], rfl⟩
    · by_cases ht : t < 0
      · have hmin : min z z = z := by omega
        have : t < 0 ∨ z < t := .inl ht
        repeat (first | (refine PC.seq fun K hK => ?_) | (refine PC.block ?_) | (refine PC.region ?_) | (refine PL.k rfl fun KK hKK => ?_; simp (disch := omega) [go_sem, stepK, f2, f5, f12, f13, f14, hlt', hlt, ex, h0, h1, hx0, hll, ey, hol, ez, ht, b1]; refine hKK _ ?_; clear hKK KK) | (refine PL.k rfl fun KK hKK => ?_; simp [go_sem, stepK, f2, f5, f12, f13, f14, hlt', hlt, ex, h0, h1, hx0, hll, ey, hol, ez, ht, b1]; refine hKK _ ?_; clear hKK KK) | (refine PL.g rfl rfl fun KK hKK => ?_; simp (disch := omega) [go_sem, L.stepG, f2, f5, f12, f13, f14, hlt', hlt, ex, h0, h1, hx0, hll, ey, hol, ez, ht, b1]; refine hKK _ ?_; clear hKK KK) | (refine PL.g rfl rfl fun KK hKK => ?_; simp [go_sem, L.stepG, f2, f5, f12, f13, f14, hlt', hlt, ex, h0, h1, hx0, hll, ey, hol, ez, ht, b1]; refine hKK _ ?_; clear hKK KK) | (refine PL.done hK ?_; clear hK) | (refine PC.skip (hK _ _ ?_); clear hK) | (refine PC.condT ?_ ?_; focus (simp [go_sem, f2, f5, f12, f13, f14, hlt', hlt, ex, h0, h1, hx0, hll, ey, hol, ez, ht, b1]; done)) | (refine PC.condF ?_ ?_; focus (simp [go_sem, f2, f5, f12, f13, f14, hlt', hlt, ex, h0, h1, hx0, hll, ey, hol, ez, ht, b1]; done)) | (refine PC.exit ?_; first | (refine hK _ _ ?_; clear hK) | (clear hK; refine hK _ _ ?_; clear hK) | (clear hK; clear hK; refine hK _ _ ?_; clear hK)))
        refine PL.nil ⟨at_.length - (k + 1), by omega, k + 1, by omega, by omega, by simp [go_sem, f2], by simp [go_sem, hsucc, ht], by simp [go_sem, f12], by simp [go_sem, f13], by simp [go_sem], rfl⟩
      · repeat (first | (refine PC.seq fun K hK => ?_) | (refine PC.block ?_) | (refine PC.region ?_) | (refine PL.k rfl fun KK hKK => ?_; simp (disch := omega) [go_sem, stepK, f2, f5, f12, f13, f14, hlt', hlt, ex, h0, h1, hx0, hll, ey, hol, ez, ht, b1]; refine hKK _ ?_; clear hKK KK) | (refine PL.k rfl fun KK hKK => ?_; simp [go_sem, stepK, f2, f5, f12, f13, f14, hlt', hlt, ex, h0, h1, hx0, hll, ey, hol, ez, ht, b1]; refine hKK _ ?_; clear hKK KK) | (refine PL.g rfl rfl fun KK hKK => ?_; simp (disch := omega) [go_sem, L.stepG, f2, f5, f12, f13, f14, hlt', hlt, ex, h0, h1, hx0, hll, ey, hol, ez, ht, b1]; refine hKK _ ?_; clear hKK KK) | (refine PL.g rfl rfl fun KK hKK => ?_; simp [go_sem, L.stepG, f2, f5, f12, f13, f14, hlt', hlt, ex, h0, h1, hx0, hll, ey, hol, ez, ht, b1]; refine hKK _ ?_; clear hKK KK) | (refine PL.done hK ?_; clear hK) | (refine PC.skip (hK _ _ ?_); clear hK) | (refine PC.condT ?_ ?_; focus (simp [go_sem, f2, f5, f12, f13, f14, hlt', hlt, ex, h0, h1, hx0, hll, ey, hol, ez, ht, b1]; done)) | (refine PC.condF ?_ ?_; focus (simp [go_sem, f2, f5, f12, f13, f14, hlt', hlt, ex, h0, h1, hx0, hll, ey, hol, ez, ht, b1]; done)) | (refine PC.exit ?_; first | (refine hK _ _ ?_; clear hK) | (clear hK; refine hK _ _ ?_; clear hK) | (clear hK; clear hK; refine hK _ _ ?_; clear hK)))
        refine PL.nil ⟨at_.length - (k + 1), by omega, k + 1, by omega, by omega, by simp [go_sem, f2], ?_, by simp [go_sem, f12], by simp [go_sem, f13], by simp [go_sem], rfl⟩
        simp [go_sem, hsucc, ht]
        split <;> omega
  · have hlt' : ¬ (k : Int) < at_.length := by omega
    have hke : k = at_.length := by omega
    rw [hke, List.take_length] at f5
    repeat (first | (refine PC.seq fun K hK => ?_) | (refine PC.block ?_) | (refine PC.region ?_) | (refine PL.k rfl fun KK hKK => ?_; simp (disch := omega) [go_sem, stepK, f5, f13, f14, hlt']; refine hKK _ ?_; clear hKK KK) | (refine PL.k rfl fun KK hKK => ?_; simp [go_sem, stepK, f5, f13, f14, hlt']; refine hKK _ ?_; clear hKK KK) | (refine PL.g rfl rfl fun KK hKK => ?_; simp (disch := omega) [go_sem, L.stepG, f5, f13, f14, hlt']; refine hKK _ ?_; clear hKK KK) | (refine PL.g rfl rfl fun KK hKK => ?_; simp [go_sem, L.stepG, f5, f13, f14, hlt']; refine hKK _ ?_; clear hKK KK) | (refine PL.done hK ?_; clear hK) | (refine PC.skip (hK _ _ ?_); clear hK) | (refine PC.condT ?_ ?_; focus (simp [go_sem, f5, f13, f14, hlt']; done)) | (refine PC.condF ?_ ?_; focus (simp [go_sem, f5, f13, f14, hlt']; done)) | (refine PC.exit ?_; first | (refine hK _ _ ?_; clear hK) | (clear hK; refine hK _ _ ?_; clear hK) | (clear hK; clear hK; refine hK _ _ ?_; clear hK)))
    (refine PC.ret ?_; refine fin (.inr rfl) (by simp [resP, resP1, Try.results47, go_sem, tokN, hr]) (by simp [go_sem, tokN, hr]))

set_option maxRecDepth 20000 in
set_option maxHeartbeats 4000000 in
theorem refToken_ok (n : Net) (at_ : List Int) (hl : at_.length ≤ 1000000) (hn : Nb n) : PCall Try.prog 56 [netV n, slI at_] (· = I (tokN n at_)) := by
  refine PCall.intro' Try.func56 rfl Try.ntmps56 (by simp) fun W => ?_
  refine PC.seq fun K hK => ?_
  refine PC.region ?_
  refine PL.boxA 1 (d := 2) rfl rfl rfl (by simp) (v := netV n) (by simp [go_sem]) (by simp [go_sem, okC]) rfl fun v H1 b1 o1 => ?_
  have b1 := netBox b1
  repeat (first | (refine PC.seq fun K hK => ?_) | (refine PC.block ?_) | (refine PC.region ?_) | (refine PL.k rfl fun KK hKK => ?_; simp (disch := omega) [go_sem, stepK, b1]; refine hKK _ ?_; clear hKK KK) | (refine PL.k rfl fun KK hKK => ?_; simp [go_sem, stepK, b1]; refine hKK _ ?_; clear hKK KK) | (refine PL.g rfl rfl fun KK hKK => ?_; simp (disch := omega) [go_sem, L.stepG, b1]; refine hKK _ ?_; clear hKK KK) | (refine PL.g rfl rfl fun KK hKK => ?_; simp [go_sem, L.stepG, b1]; refine hKK _ ?_; clear hKK KK) | (refine PL.done hK ?_; clear hK) | (refine PC.skip (hK _ _ ?_); clear hK) | (refine PC.condT ?_ ?_; focus (simp [go_sem, b1]; done)) | (refine PC.condF ?_ ?_; focus (simp [go_sem, b1]; done)) | (refine PC.exit ?_; first | (refine hK _ _ ?_; clear hK) | (clear hK; refine hK _ _ ?_; clear hK) | (clear hK; clear hK; refine hK _ _ ?_; clear hK)))
  refine PL.callB rfl rfl (by kernel_rfl) (refRight_ok n hn) (by simp [go_sem]) (by simp [go_sem]) (by simp [go_sem]) ?_
  cases hr : rightN n
  · repeat (first | (refine PC.seq fun K hK => ?_) | (refine PC.block ?_) | (refine PC.region ?_) | (refine PL.k rfl fun KK hKK => ?_; simp (disch := omega) [go_sem, stepK, hr]; refine hKK _ ?_; clear hKK KK) | (refine PL.k rfl fun KK hKK => ?_; simp [go_sem, stepK, hr]; refine hKK _ ?_; clear hKK KK) | (refine PL.g rfl rfl fun KK hKK => ?_; simp (disch := omega) [go_sem, L.stepG, hr]; refine hKK _ ?_; clear hKK KK) | (refine PL.g rfl rfl fun KK hKK => ?_; simp [go_sem, L.stepG, hr]; refine hKK _ ?_; clear hKK KK) | (refine PL.done hK ?_; clear hK) | (refine PC.skip (hK _ _ ?_); clear hK) | (refine PC.condT ?_ ?_; focus (simp [go_sem, hr]; done)) | (refine PC.condF ?_ ?_; focus (simp [go_sem, hr]; done)) | (refine PC.exit ?_; first | (refine hK _ _ ?_; clear hK) | (clear hK; refine hK _ _ ?_; clear hK) | (clear hK; clear hK; refine hK _ _ ?_; clear hK)))
    (refine PC.ret ?_; refine fin (.inr rfl) (by simp [resP, resP1, Try.results56, go_sem, tokN, hr]) (by simp [go_sem, tokN, hr]))
  have hR := (rightN_iff n).1 hr
  repeat (first | (refine PC.seq fun K hK => ?_) | (refine PC.block ?_) | (refine PC.region ?_) | (refine PL.k rfl fun KK hKK => ?_; simp (disch := omega) [go_sem, stepK, hr]; refine hKK _ ?_; clear hKK KK) | (refine PL.k rfl fun KK hKK => ?_; simp [go_sem, stepK, hr]; refine hKK _ ?_; clear hKK KK) | (refine PL.g rfl rfl fun KK hKK => ?_; simp (disch := omega) [go_sem, L.stepG, hr]; refine hKK _ ?_; clear hKK KK) | (refine PL.g rfl rfl fun KK hKK => ?_; simp [go_sem, L.stepG, hr]; refine hKK _ ?_; clear hKK KK) | (refine PL.done hK ?_; clear hK) | (refine PC.skip (hK _ _ ?_); clear hK) | (refine PC.condT ?_ ?_; focus (simp [go_sem, hr]; done)) | (refine PC.condF ?_ ?_; focus (simp [go_sem, hr]; done)) | (refine PC.exit ?_; first | (refine hK _ _ ?_; clear hK) | (clear hK; refine hK _ _ ?_; clear hK) | (clear hK; clear hK; refine hK _ _ ?_; clear hK)))
  refine PC.loop (fun m F H' => ∃ k : Nat, k ≤ at_.length ∧ m = at_.length - k ∧ F 1 = slI at_ ∧ F 2 = .pp 1 0 v ∧ F 5 = I (tokK n (at_.take k)) ∧ F 6 = I k ∧ H' = H1) (m := at_.length) ⟨0, by omega, by omega, by simp [go_sem], by simp [go_sem], by simp [go_sem, tokK], by simp [go_sem], rfl⟩ fun m F H' hI => ?_
  obtain ⟨k, hk, hm, f1, f2, f5, f6, rfl⟩ := hI
  by_cases hlt : k < at_.length
  · have hlt' : (k : Int) < at_.length := by omega
    have hsucc := tokK_succ n at_ k hlt
    obtain ⟨x, ex⟩ : ∃ x, at_[k] = x := ⟨_, rfl⟩
    rw [ex] at hsucc
    generalize tokK n (at_.take k) = t at *
    have fin : ∀ F2 : PFrame, F2 1 = slI at_ → F2 2 = .pp 1 0 v → F2 5 = I (tokF n t x) → F2 6 = I ((k : Int) + 1) → ∃ m', m' < m ∧ ∃ k : Nat, k ≤ at_.length ∧ m' = at_.length - k ∧ F2 1 = slI at_ ∧ F2 2 = .pp 1 0 v ∧ F2 5 = I (tokK n (at_.take k)) ∧ F2 6 = I k ∧ H' = H' := fun F2 g1 g2 g5 g6 =>
      ⟨at_.length - (k + 1), by omega, k + 1, by omega, by omega, g1, g2, by rw [hsucc]; exact g5, by rw [g6]; rfl, rfl⟩
    by_cases h0 : x < 0
    · have hF : tokF n t x = t := by unfold tokF okT; rw [if_neg]; simp; omega
      rw [hF] at fin
      have h0' : ¬ 0 ≤ x := by omega
      repeat (first | (refine PC.seq fun K hK => ?_) | (refine PC.block ?_) | (refine PC.region ?_) | (refine PL.k rfl fun KK hKK => ?_; simp (disch := omega) [go_sem, stepK, f1, f6, hlt']; refine hKK _ ?_; clear hKK KK) | (refine PL.k rfl fun KK hKK => ?_; simp [go_sem, stepK, f1, f6, hlt']; refine hKK _ ?_; clear hKK KK) | (refine PL.g rfl rfl fun KK hKK => ?_; simp (disch := omega) [go_sem, L.stepG, f1, f6, hlt']; refine hKK _ ?_; clear hKK KK) | (refine PL.g rfl rfl fun KK hKK => ?_; simp [go_sem, L.stepG, f1, f6, hlt']; refine hKK _ ?_; clear hKK KK) | (refine PL.done hK ?_; clear hK) | (refine PC.skip (hK _ _ ?_); clear hK) | (refine PC.condT ?_ ?_; focus (simp [go_sem, f1, f6, hlt']; done)) | (refine PC.condF ?_ ?_; focus (simp [go_sem, f1, f6, hlt']; done)) | (refine PC.exit ?_; first | (refine hK _ _ ?_; clear hK) | (clear hK; refine hK _ _ ?_; clear hK) | (clear hK; clear hK; refine hK _ _ ?_; clear hK)))
      refine PC.regionQ mixed (by kernel_rfl) ?_
      repeat (first | (refine QF.k rfl fun KK hKK => ?_; simp (disch := omega) [go_sem, stepK, f1, f2, f5, f6, hlt', hlt, ex, h0']; refine hKK _ ?_; clear hKK KK) | (refine QF.k rfl fun KK hKK => ?_; simp [go_sem, stepK, f1, f2, f5, f6, hlt', hlt, ex, h0']; refine hKK _ ?_; clear hKK KK) | (refine QF.g rfl rfl fun KK hKK => ?_; simp (disch := omega) [go_sem, L.stepG, f1, f2, f5, f6, hlt', hlt, ex, h0']; refine hKK _ ?_; clear hKK KK) | (refine QF.g rfl rfl fun KK hKK => ?_; simp [go_sem, L.stepG, f1, f2, f5, f6, hlt', hlt, ex, h0']; refine hKK _ ?_; clear hKK KK))
      refine QF.done hK ?_; clear hK
      repeat (first | (refine PC.seq fun K hK => ?_) | (refine PC.block ?_) | (refine PC.region ?_) | (refine PL.k rfl fun KK hKK => ?_; simp (disch := omega) [go_sem, stepK, f6]; refine hKK _ ?_; clear hKK KK) | (refine PL.k rfl fun KK hKK => ?_; simp [go_sem, stepK, f6]; refine hKK _ ?_; clear hKK KK) | (refine PL.g rfl rfl fun KK hKK => ?_; simp (disch := omega) [go_sem, L.stepG, f6]; refine hKK _ ?_; clear hKK KK) | (refine PL.g rfl rfl fun KK hKK => ?_; simp [go_sem, L.stepG, f6]; refine hKK _ ?_; clear hKK KK) | (refine PL.done hK ?_; clear hK) | (refine PC.skip (hK _ _ ?_); clear hK) | (refine PC.condT ?_ ?_; focus (simp [go_sem, f6]; done)) | (refine PC.condF ?_ ?_; focus (simp [go_sem, f6]; done)) | (refine PC.exit ?_; first | (refine hK _ _ ?_; clear hK) | (clear hK; refine hK _ _ ?_; clear hK) | (clear hK; clear hK; refine hK _ _ ?_; clear hK)))
      exact PL.nil (fin _ (by simp [go_sem, f1]) (by simp [go_sem, f2]) (by simp [go_sem, f5]) (by simp [go_sem]))
    have hx0 : 0 ≤ x := by omega
    by_cases h1 : (n.sets.length : Int) ≤ x
    · have hF : tokF n t x = t := by unfold tokF okT; rw [if_neg]; simp; omega
      rw [hF] at fin
      have h1' : ¬ x < (n.sets.length : Int) := by omega
      repeat (first | (refine PC.seq fun K hK => ?_) | (refine PC.block ?_) | (refine PC.region ?_) | (refine PL.k rfl fun KK hKK => ?_; simp (disch := omega) [go_sem, stepK, f1, f6, hlt']; refine hKK _ ?_; clear hKK KK) | (refine PL.k rfl fun KK hKK => ?_; simp [go_sem, stepK, f1, f6, hlt']; refine hKK _ ?_; clear hKK KK) | (refine PL.g rfl rfl fun KK hKK => ?_; simp (disch := omega) [go_sem, L.stepG, f1, f6, hlt']; refine hKK _ ?_; clear hKK KK) | (refine PL.g rfl rfl fun KK hKK => ?_; simp [go_sem, L.stepG, f1, f6, hlt']; refine hKK _ ?_; clear hKK KK) | (refine PL.done hK ?_; clear hK) | (refine PC.skip (hK _ _ ?_); clear hK) | (refine PC.condT ?_ ?_; focus (simp [go_sem, f1, f6, hlt']; done)) | (refine PC.condF ?_ ?_; focus (simp [go_sem, f1, f6, hlt']; done)) | (refine PC.exit ?_; first | (refine hK _ _ ?_; clear hK) | (clear hK; refine hK _ _ ?_; clear hK) | (clear hK; clear hK; refine hK _ _ ?_; clear hK)))
      refine PC.regionQ mixed (by kernel_rfl) ?_
      repeat (first | (refine QF.k rfl fun KK hKK => ?_; simp (disch := omega) [go_sem, stepK, f1, f2, f5, f6, hlt', hlt, ex, hx0, h1', b1]; refine hKK _ ?_; clear hKK KK) | (refine QF.k rfl fun KK hKK => ?_; simp [go_sem, stepK, f1, f2, f5, f6, hlt', hlt, ex, hx0, h1', b1]; refine hKK _ ?_; clear hKK KK) | (refine QF.g rfl rfl fun KK hKK => ?_; simp (disch := omega) [go_sem, L.stepG, f1, f2, f5, f6, hlt', hlt, ex, hx0, h1', b1]; refine hKK _ ?_; clear hKK KK) | (refine QF.g rfl rfl fun KK hKK => ?_; simp [go_sem, L.stepG, f1, f2, f5, f6, hlt', hlt, ex, hx0, h1', b1]; refine hKK _ ?_; clear hKK KK))
      refine QF.done hK ?_; clear hK
      repeat (first | (refine PC.seq fun K hK => ?_) | (refine PC.block ?_) | (refine PC.region ?_) | (refine PL.k rfl fun KK hKK => ?_; simp (disch := omega) [go_sem, stepK, f6]; refine hKK _ ?_; clear hKK KK) | (refine PL.k rfl fun KK hKK => ?_; simp [go_sem, stepK, f6]; refine hKK _ ?_; clear hKK KK) | (refine PL.g rfl rfl fun KK hKK => ?_; simp (disch := omega) [go_sem, L.stepG, f6]; refine hKK _ ?_; clear hKK KK) | (refine PL.g rfl rfl fun KK hKK => ?_; simp [go_sem, L.stepG, f6]; refine hKK _ ?_; clear hKK KK) | (refine PL.done hK ?_; clear hK) | (refine PC.skip (hK _ _ ?_); clear hK) | (refine PC.condT ?_ ?_; focus (simp [go_sem, f6]; done)) | (refine PC.condF ?_ ?_; focus (simp [go_sem, f6]; done)) | (refine PC.exit ?_; first | (refine hK _ _ ?_; clear hK) | (clear hK; refine hK _ _ ?_; clear hK) | (clear hK; clear hK; refine hK _ _ ?_; clear hK)))
      exact PL.nil (fin _ (by simp [go_sem, f1]) (by simp [go_sem, f2]) (by simp [go_sem, f5]) (by simp [go_sem]))
    have h1' : x < (n.sets.length : Int) := by omega
    have hll : x.toNat < n.last.length := by have := hR.l; omega
    have hol : x.toNat < n.of_.length := by have := hR.o; omega
    obtain ⟨y, ey⟩ : ∃ y, n.last[x.toNat] = y := ⟨_, rfl⟩
    obtain ⟨z, ez⟩ : ∃ z, n.of_[x.toNat] = z := ⟨_, rfl⟩
    have hok : okT n x = y := by unfold okT; simp [List.getD, hll, ey]; omega
    have hoz : ofT n x = z := by unfold ofT; simp [List.getD, hol, ez]
    unfold tokF at fin
    rw [hok, hoz] at fin
    cases y
    · repeat (first | (refine PC.seq fun K hK => ?_) | (refine PC.block ?_) | (refine PC.region ?_) | (refine PL.k rfl fun KK hKK => ?_; simp (disch := omega) [go_sem, stepK, f1, f6, hlt']; refine hKK _ ?_; clear hKK KK) | (refine PL.k rfl fun KK hKK => ?_; simp [go_sem, stepK, f1, f6, hlt']; refine hKK _ ?_; clear hKK KK) | (refine PL.g rfl rfl fun KK hKK => ?_; simp (disch := omega) [go_sem, L.stepG, f1, f6, hlt']; refine hKK _ ?_; clear hKK KK) | (refine PL.g rfl rfl fun KK hKK => ?_; simp [go_sem, L.stepG, f1, f6, hlt']; refine hKK _ ?_; clear hKK KK) | (refine PL.done hK ?_; clear hK) | (refine PC.skip (hK _ _ ?_); clear hK) | (refine PC.condT ?_ ?_; focus (simp [go_sem, f1, f6, hlt']; done)) | (refine PC.condF ?_ ?_; focus (simp [go_sem, f1, f6, hlt']; done)) | (refine PC.exit ?_; first | (refine hK _ _ ?_; clear hK) | (clear hK; refine hK _ _ ?_; clear hK) | (clear hK; clear hK; refine hK _ _ ?_; clear hK)))
      refine PC.regionQ mixed (by kernel_rfl) ?_
      repeat (first | (refine QF.k rfl fun KK hKK => ?_; simp (disch := omega) [go_sem, stepK, f1, f2, f5, f6, hlt', hlt, ex, hx0, h1', hll, ey, b1]; refine hKK _ ?_; clear hKK KK) | (refine QF.k rfl fun KK hKK => ?_; simp [go_sem, stepK, f1, f2, f5, f6, hlt', hlt, ex, hx0, h1', hll, ey, b1]; refine hKK _ ?_; clear hKK KK) | (refine QF.g rfl rfl fun KK hKK => ?_; simp (disch := omega) [go_sem, L.stepG, f1, f2, f5, f6, hlt', hlt, ex, hx0, h1', hll, ey, b1]; refine hKK _ ?_; clear hKK KK) | (refine QF.g rfl rfl fun KK hKK => ?_; simp [go_sem, L.stepG, f1, f2, f5, f6, hlt', hlt, ex, hx0, h1', hll, ey, b1]; refine hKK _ ?_; clear hKK KK))
      refine QF.done hK ?_; clear hK
      repeat (first | (refine PC.seq fun K hK => ?_) | (refine PC.block ?_) | (refine PC.region ?_) | (refine PL.k rfl fun KK hKK => ?_; simp (disch := omega) [go_sem, stepK, f6]; refine hKK _ ?_; clear hKK KK) | (refine PL.k rfl fun KK hKK => ?_; simp [go_sem, stepK, f6]; refine hKK _ ?_; clear hKK KK) | (refine PL.g rfl rfl fun KK hKK => ?_; simp (disch := omega) [go_sem, L.stepG, f6]; refine hKK _ ?_; clear hKK KK) | (refine PL.g rfl rfl fun KK hKK => ?_; simp [go_sem, L.stepG, f6]; refine hKK _ ?_; clear hKK KK) | (refine PL.done hK ?_; clear hK) | (refine PC.skip (hK _ _ ?_); clear hK) | (refine PC.condT ?_ ?_; focus (simp [go_sem, f6]; done)) | (refine PC.condF ?_ ?_; focus (simp [go_sem, f6]; done)) | (refine PC.exit ?_; first | (refine hK _ _ ?_; clear hK) | (clear hK; refine hK _ _ ?_; clear hK) | (clear hK; clear hK; refine hK _ _ ?_; clear hK)))
      exact PL.nil (fin _ (by simp [go_sem, f1]) (by simp [go_sem, f2]) (by simp [go_sem, f5]) (by simp [go_sem]))
    · by_cases ht : t < 0
      · rw [if_pos rfl, if_pos (.inl ht)] at fin
        repeat (first | (refine PC.seq fun K hK => ?_) | (refine PC.block ?_) | (refine PC.region ?_) | (refine PL.k rfl fun KK hKK => ?_; simp (disch := omega) [go_sem, stepK, f1, f6, hlt']; refine hKK _ ?_; clear hKK KK) | (refine PL.k rfl fun KK hKK => ?_; simp [go_sem, stepK, f1, f6, hlt']; refine hKK _ ?_; clear hKK KK) | (refine PL.g rfl rfl fun KK hKK => ?_; simp (disch := omega) [go_sem, L.stepG, f1, f6, hlt']; refine hKK _ ?_; clear hKK KK) | (refine PL.g rfl rfl fun KK hKK => ?_; simp [go_sem, L.stepG, f1, f6, hlt']; refine hKK _ ?_; clear hKK KK) | (refine PL.done hK ?_; clear hK) | (refine PC.skip (hK _ _ ?_); clear hK) | (refine PC.condT ?_ ?_; focus (simp [go_sem, f1, f6, hlt']; done)) | (refine PC.condF ?_ ?_; focus (simp [go_sem, f1, f6, hlt']; done)) | (refine PC.exit ?_; first | (refine hK _ _ ?_; clear hK) | (clear hK; refine hK _ _ ?_; clear hK) | (clear hK; clear hK; refine hK _ _ ?_; clear hK)))
        refine PC.regionQ mixed (by kernel_rfl) ?_
        repeat (first | (refine QF.k rfl fun KK hKK => ?_; simp (disch := omega) [go_sem, stepK, f1, f2, f5, f6, hlt', hlt, ex, hx0, h1', hll, ey, ht, b1]; refine hKK _ ?_; clear hKK KK) | (refine QF.k rfl fun KK hKK => ?_; simp [go_sem, stepK, f1, f2, f5, f6, hlt', hlt, ex, hx0, h1', hll, ey, ht, b1]; refine hKK _ ?_; clear hKK KK) | (refine QF.g rfl rfl fun KK hKK => ?_; simp (disch := omega) [go_sem, L.stepG, f1, f2, f5, f6, hlt', hlt, ex, hx0, h1', hll, ey, ht, b1]; refine hKK _ ?_; clear hKK KK) | (refine QF.g rfl rfl fun KK hKK => ?_; simp [go_sem, L.stepG, f1, f2, f5, f6, hlt', hlt, ex, hx0, h1', hll, ey, ht, b1]; refine hKK _ ?_; clear hKK KK))
        refine QF.done hK ?_; clear hK
        repeat (first | (refine PC.seq fun K hK => ?_) | (refine PC.block ?_) | (refine PC.region ?_) | (refine PL.k rfl fun KK hKK => ?_; simp (disch := omega) [go_sem, stepK]; refine hKK _ ?_; clear hKK KK) | (refine PL.k rfl fun KK hKK => ?_; simp [go_sem, stepK]; refine hKK _ ?_; clear hKK KK) | (refine PL.g rfl rfl fun KK hKK => ?_; simp (disch := omega) [go_sem, L.stepG]; refine hKK _ ?_; clear hKK KK) | (refine PL.g rfl rfl fun KK hKK => ?_; simp [go_sem, L.stepG]; refine hKK _ ?_; clear hKK KK) | (refine PL.done hK ?_; clear hK) | (refine PC.skip (hK _ _ ?_); clear hK) | (refine PC.condT ?_ ?_; focus (simp [go_sem]; done)) | (refine PC.condF ?_ ?_; focus (simp [go_sem]; done)) | (refine PC.exit ?_; first | (refine hK _ _ ?_; clear hK) | (clear hK; refine hK _ _ ?_; clear hK) | (clear hK; clear hK; refine hK _ _ ?_; clear hK)))
        refine PC.regionQ mixed (by kernel_rfl) ?_
        repeat (first | (refine QF.k rfl fun KK hKK => ?_; simp (disch := omega) [go_sem, stepK, f1, f2, f5, f6, hlt', hlt, ex, hx0, h1', hol, ez, b1]; refine hKK _ ?_; clear hKK KK) | (refine QF.k rfl fun KK hKK => ?_; simp [go_sem, stepK, f1, f2, f5, f6, hlt', hlt, ex, hx0, h1', hol, ez, b1]; refine hKK _ ?_; clear hKK KK) | (refine QF.g rfl rfl fun KK hKK => ?_; simp (disch := omega) [go_sem, L.stepG, f1, f2, f5, f6, hlt', hlt, ex, hx0, h1', hol, ez, b1]; refine hKK _ ?_; clear hKK KK) | (refine QF.g rfl rfl fun KK hKK => ?_; simp [go_sem, L.stepG, f1, f2, f5, f6, hlt', hlt, ex, hx0, h1', hol, ez, b1]; refine hKK _ ?_; clear hKK KK))
        refine QF.nil (hK _ _ ?_); clear hK
        repeat (first | (refine PC.seq fun K hK => ?_) | (refine PC.block ?_) | (refine PC.region ?_) | (refine PL.k rfl fun KK hKK => ?_; simp (disch := omega) [go_sem, stepK, f6]; refine hKK _ ?_; clear hKK KK) | (refine PL.k rfl fun KK hKK => ?_; simp [go_sem, stepK, f6]; refine hKK _ ?_; clear hKK KK) | (refine PL.g rfl rfl fun KK hKK => ?_; simp (disch := omega) [go_sem, L.stepG, f6]; refine hKK _ ?_; clear hKK KK) | (refine PL.g rfl rfl fun KK hKK => ?_; simp [go_sem, L.stepG, f6]; refine hKK _ ?_; clear hKK KK) | (refine PL.done hK ?_; clear hK) | (refine PC.skip (hK _ _ ?_); clear hK) | (refine PC.condT ?_ ?_; focus (simp [go_sem, f6]; done)) | (refine PC.condF ?_ ?_; focus (simp [go_sem, f6]; done)) | (refine PC.exit ?_; first | (refine hK _ _ ?_; clear hK) | (clear hK; refine hK _ _ ?_; clear hK) | (clear hK; clear hK; refine hK _ _ ?_; clear hK)))
        exact PL.nil (fin _ (by simp [go_sem, f1]) (by simp [go_sem, f2]) (by simp [go_sem]) (by simp [go_sem]))
      · by_cases hz : z < t
        · rw [if_pos rfl, if_pos (.inr hz)] at fin
          repeat (first | (refine PC.seq fun K hK => ?_) | (refine PC.block ?_) | (refine PC.region ?_) | (refine PL.k rfl fun KK hKK => ?_; simp (disch := omega) [go_sem, stepK, f1, f6, hlt']; refine hKK _ ?_; clear hKK KK) | (refine PL.k rfl fun KK hKK => ?_; simp [go_sem, stepK, f1, f6, hlt']; refine hKK _ ?_; clear hKK KK) | (refine PL.g rfl rfl fun KK hKK => ?_; simp (disch := omega) [go_sem, L.stepG, f1, f6, hlt']; refine hKK _ ?_; clear hKK KK) | (refine PL.g rfl rfl fun KK hKK => ?_; simp [go_sem, L.stepG, f1, f6, hlt']; refine hKK _ ?_; clear hKK KK) | (refine PL.done hK ?_; clear hK) | (refine PC.skip (hK _ _ ?_); clear hK) | (refine PC.condT ?_ ?_; focus (simp [go_sem, f1, f6, hlt']; done)) | (refine PC.condF ?_ ?_; focus (simp [go_sem, f1, f6, hlt']; done)) | (refine PC.exit ?_; first | (refine hK _ _ ?_; clear hK) | (clear hK; refine hK _ _ ?_; clear hK) | (clear hK; clear hK; refine hK _ _ ?_; clear hK)))
          refine PC.regionQ mixed (by kernel_rfl) ?_
          repeat (first | (refine QF.k rfl fun KK hKK => ?_; simp (disch := omega) [go_sem, stepK, f1, f2, f5, f6, hlt', hlt, ex, hx0, h1', hll, ey, hol, ez, ht, hz, b1]; refine hKK _ ?_; clear hKK KK) | (refine QF.k rfl fun KK hKK => ?_; simp [go_sem, stepK, f1, f2, f5, f6, hlt', hlt, ex, hx0, h1', hll, ey, hol, ez, ht, hz, b1]; refine hKK _ ?_; clear hKK KK) | (refine QF.g rfl rfl fun KK hKK => ?_; simp (disch := omega) [go_sem, L.stepG, f1, f2, f5, f6, hlt', hlt, ex, hx0, h1', hll, ey, hol, ez, ht, hz, b1]; refine hKK _ ?_; clear hKK KK) | (refine QF.g rfl rfl fun KK hKK => ?_; simp [go_sem, L.stepG, f1, f2, f5, f6, hlt', hlt, ex, hx0, h1', hll, ey, hol, ez, ht, hz, b1]; refine hKK _ ?_; clear hKK KK))
          refine QF.done hK ?_; clear hK
          repeat (first | (refine PC.seq fun K hK => ?_) | (refine PC.block ?_) | (refine PC.region ?_) | (refine PL.k rfl fun KK hKK => ?_; simp (disch := omega) [go_sem, stepK]; refine hKK _ ?_; clear hKK KK) | (refine PL.k rfl fun KK hKK => ?_; simp [go_sem, stepK]; refine hKK _ ?_; clear hKK KK) | (refine PL.g rfl rfl fun KK hKK => ?_; simp (disch := omega) [go_sem, L.stepG]; refine hKK _ ?_; clear hKK KK) | (refine PL.g rfl rfl fun KK hKK => ?_; simp [go_sem, L.stepG]; refine hKK _ ?_; clear hKK KK) | (refine PL.done hK ?_; clear hK) | (refine PC.skip (hK _ _ ?_); clear hK) | (refine PC.condT ?_ ?_; focus (simp [go_sem]; done)) | (refine PC.condF ?_ ?_; focus (simp [go_sem]; done)) | (refine PC.exit ?_; first | (refine hK _ _ ?_; clear hK) | (clear hK; refine hK _ _ ?_; clear hK) | (clear hK; clear hK; refine hK _ _ ?_; clear hK)))
          refine PC.regionQ mixed (by kernel_rfl) ?_
          repeat (first | (refine QF.k rfl fun KK hKK => ?_; simp (disch := omega) [go_sem, stepK, f1, f2, f5, f6, hlt', hlt, ex, hx0, h1', hol, ez, b1]; refine hKK _ ?_; clear hKK KK) | (refine QF.k rfl fun KK hKK => ?_; simp [go_sem, stepK, f1, f2, f5, f6, hlt', hlt, ex, hx0, h1', hol, ez, b1]; refine hKK _ ?_; clear hKK KK) | (refine QF.g rfl rfl fun KK hKK => ?_; simp (disch := omega) [go_sem, L.stepG, f1, f2, f5, f6, hlt', hlt, ex, hx0, h1', hol, ez, b1]; refine hKK _ ?_; clear hKK KK) | (refine QF.g rfl rfl fun KK hKK => ?_; simp [go_sem, L.stepG, f1, f2, f5, f6, hlt', hlt, ex, hx0, h1', hol, ez, b1]; refine hKK _ ?_; clear hKK KK))
          refine QF.nil (hK _ _ ?_); clear hK
          repeat (first | (refine PC.seq fun K hK => ?_) | (refine PC.block ?_) | (refine PC.region ?_) | (refine PL.k rfl fun KK hKK => ?_; simp (disch := omega) [go_sem, stepK, f6]; refine hKK _ ?_; clear hKK KK) | (refine PL.k rfl fun KK hKK => ?_; simp [go_sem, stepK, f6]; refine hKK _ ?_; clear hKK KK) | (refine PL.g rfl rfl fun KK hKK => ?_; simp (disch := omega) [go_sem, L.stepG, f6]; refine hKK _ ?_; clear hKK KK) | (refine PL.g rfl rfl fun KK hKK => ?_; simp [go_sem, L.stepG, f6]; refine hKK _ ?_; clear hKK KK) | (refine PL.done hK ?_; clear hK) | (refine PC.skip (hK _ _ ?_); clear hK) | (refine PC.condT ?_ ?_; focus (simp [go_sem, f6]; done)) | (refine PC.condF ?_ ?_; focus (simp [go_sem, f6]; done)) | (refine PC.exit ?_; first | (refine hK _ _ ?_; clear hK) | (clear hK; refine hK _ _ ?_; clear hK) | (clear hK; clear hK; refine hK _ _ ?_; clear hK)))
          exact PL.nil (fin _ (by simp [go_sem, f1]) (by simp [go_sem, f2]) (by simp [go_sem]) (by simp [go_sem]))
        · rw [if_pos rfl, if_neg (by omega)] at fin
          repeat (first | (refine PC.seq fun K hK => ?_) | (refine PC.block ?_) | (refine PC.region ?_) | (refine PL.k rfl fun KK hKK => ?_; simp (disch := omega) [go_sem, stepK, f1, f6, hlt']; refine hKK _ ?_; clear hKK KK) | (refine PL.k rfl fun KK hKK => ?_; simp [go_sem, stepK, f1, f6, hlt']; refine hKK _ ?_; clear hKK KK) | (refine PL.g rfl rfl fun KK hKK => ?_; simp (disch := omega) [go_sem, L.stepG, f1, f6, hlt']; refine hKK _ ?_; clear hKK KK) | (refine PL.g rfl rfl fun KK hKK => ?_; simp [go_sem, L.stepG, f1, f6, hlt']; refine hKK _ ?_; clear hKK KK) | (refine PL.done hK ?_; clear hK) | (refine PC.skip (hK _ _ ?_); clear hK) | (refine PC.condT ?_ ?_; focus (simp [go_sem, f1, f6, hlt']; done)) | (refine PC.condF ?_ ?_; focus (simp [go_sem, f1, f6, hlt']; done)) | (refine PC.exit ?_; first | (refine hK _ _ ?_; clear hK) | (clear hK; refine hK _ _ ?_; clear hK) | (clear hK; clear hK; refine hK _ _ ?_; clear hK)))
          refine PC.regionQ mixed (by kernel_rfl) ?_
          repeat (first | (refine QF.k rfl fun KK hKK => ?_; simp (disch := omega) [go_sem, stepK, f1, f2, f5, f6, hlt', hlt, ex, hx0, h1', hll, ey, hol, ez, ht, hz, b1]; refine hKK _ ?_; clear hKK KK) | (refine QF.k rfl fun KK hKK => ?_; simp [go_sem, stepK, f1, f2, f5, f6, hlt', hlt, ex, hx0, h1', hll, ey, hol, ez, ht, hz, b1]; refine hKK _ ?_; clear hKK KK) | (refine QF.g rfl rfl fun KK hKK => ?_; simp (disch := omega) [go_sem, L.stepG, f1, f2, f5, f6, hlt', hlt, ex, hx0, h1', hll, ey, hol, ez, ht, hz, b1]; refine hKK _ ?_; clear hKK KK) | (refine QF.g rfl rfl fun KK hKK => ?_; simp [go_sem, L.stepG, f1, f2, f5, f6, hlt', hlt, ex, hx0, h1', hll, ey, hol, ez, ht, hz, b1]; refine hKK _ ?_; clear hKK KK))
          refine QF.done hK ?_; clear hK
          repeat (first | (refine PC.seq fun K hK => ?_) | (refine PC.block ?_) | (refine PC.region ?_) | (refine PL.k rfl fun KK hKK => ?_; simp (disch := omega) [go_sem, stepK, f6]; refine hKK _ ?_; clear hKK KK) | (refine PL.k rfl fun KK hKK => ?_; simp [go_sem, stepK, f6]; refine hKK _ ?_; clear hKK KK) | (refine PL.g rfl rfl fun KK hKK => ?_; simp (disch := omega) [go_sem, L.stepG, f6]; refine hKK _ ?_; clear hKK KK) | (refine PL.g rfl rfl fun KK hKK => ?_; simp [go_sem, L.stepG, f6]; refine hKK _ ?_; clear hKK KK) | (refine PL.done hK ?_; clear hK) | (refine PC.skip (hK _ _ ?_); clear hK) | (refine PC.condT ?_ ?_; focus (simp [go_sem, f6]; done)) | (refine PC.condF ?_ ?_; focus (simp [go_sem, f6]; done)) | (refine PC.exit ?_; first | (refine hK _ _ ?_; clear hK) | (clear hK; refine hK _ _ ?_; clear hK) | (clear hK; clear hK; refine hK _ _ ?_; clear hK)))
          exact PL.nil (fin _ (by simp [go_sem, f1]) (by simp [go_sem, f2]) (by simp [go_sem, f5]) (by simp [go_sem]))
  · have hlt' : ¬ (k : Int) < at_.length := by omega
    have hke : k = at_.length := by omega
    rw [hke, List.take_length] at f5
    repeat (first | (refine PC.seq fun K hK => ?_) | (refine PC.block ?_) | (refine PC.region ?_) | (refine PL.k rfl fun KK hKK => ?_; simp (disch := omega) [go_sem, stepK, f1, f5, f6, hlt']; refine hKK _ ?_; clear hKK KK) | (refine PL.k rfl fun KK hKK => ?_; simp [go_sem, stepK, f1, f5, f6, hlt']; refine hKK _ ?_; clear hKK KK) | (refine PL.g rfl rfl fun KK hKK => ?_; simp (disch := omega) [go_sem, L.stepG, f1, f5, f6, hlt']; refine hKK _ ?_; clear hKK KK) | (refine PL.g rfl rfl fun KK hKK => ?_; simp [go_sem, L.stepG, f1, f5, f6, hlt']; refine hKK _ ?_; clear hKK KK) | (refine PL.done hK ?_; clear hK) | (refine PC.skip (hK _ _ ?_); clear hK) | (refine PC.condT ?_ ?_; focus (simp [go_sem, f1, f5, f6, hlt']; done)) | (refine PC.condF ?_ ?_; focus (simp [go_sem, f1, f5, f6, hlt']; done)) | (refine PC.exit ?_; first | (refine hK _ _ ?_; clear hK) | (clear hK; refine hK _ _ ?_; clear hK) | (clear hK; clear hK; refine hK _ _ ?_; clear hK)))
    (refine PC.ret ?_; refine fin (.inr rfl) (by simp [resP, resP1, Try.results56, go_sem, tokN, hr]) (by simp [go_sem, tokN, hr]))
end Go.Proofs.Ytficeeaaaijgcaa

/-
  The spots of tokens together: the package fuse and chapter 12's reference.
-/
namespace Go.Proofs.Ytficeeaaaijgcaa
open Go Go.RowKit L
set_option linter.unusedVariables false
set_option linter.unusedSimpArgs false

theorem L.OwnS.okC {H : PHeap} {e k id m : Nat} {q : PV} {cs : List PV} (h : OwnS H e k id q m cs) : L.okC H q = true := by
  rcases h.2 with ⟨rfl, _⟩ | ⟨v, rfl, h2⟩
  · rfl
  · simp [L.okC, leafOk, liveRow, h2]
theorem L.OwnS.cells {H : PHeap} {e k id m : Nat} {q : PV} {cs : List PV} (h : OwnS H e k id q m cs) : q.cells = [q] := by
  rcases h.2 with ⟨rfl, _⟩ | ⟨v, rfl, h2⟩ <;> rfl

structure NetAt (H : PHeap) (v : Nat) (n : Net) (q0 q1 q2 q3 q4 : PV) : Prop where
  b : H 3 = ⟨v, some (.box 61 [q0, q1, q2, q3, q4])⟩
  h0 : ownSs H 30 q0 n.sets
  h1 : ownIs H 31 q1 n.of_
  h2 : ownBs H 32 q2 n.last
  h3 : ownLs H 33 q3 n.follow
  h4 : ownIs H 34 q4 n.first
theorem NetAt.mono {H H' : PHeap} {v : Nat} {n : Net} {q0 q1 q2 q3 q4 : PV} (h : NetAt H v n q0 q1 q2 q3 q4) (o : ∀ j, j = 3 ∨ (30 ≤ j ∧ j ≤ 34) → H' j = H j) : NetAt H' v n q0 q1 q2 q3 q4 :=
  ⟨(o 3 (by omega)).trans h.b, h.h0.mono (o 30 (by omega)), h.h1.mono (o 31 (by omega)), h.h2.mono (o 32 (by omega)), h.h3.mono (o 33 (by omega)), h.h4.mono (o 34 (by omega))⟩
theorem NetAt.view {H : PHeap} {v : Nat} {n : Net} {q0 q1 q2 q3 q4 : PV} (h : NetAt H v n q0 q1 q2 q3 q4) : View H (.agg [q0, q1, q2, q3, q4]) (netV n) := by
  have n1 : ∀ (x : Int) c, c ∈ (I x).cells → NoP c := fun x c hc => by simp [PV.cells] at hc; subst hc; exact .u _
  have v0 : View H q0 (slS n.sets) := h.h0.view (fun _ => rfl) fun x c hc => by simp [encS, PV.cells] at hc; rcases hc with rfl | rfl | rfl | rfl <;> exact .u _
  have v1 : View H q1 (slI n.of_) := h.h1.view (fun _ => rfl) n1
  have v2 : View H q2 (slB n.last) := h.h2.view (fun _ => rfl) fun x c hc => by simp [PV.cells] at hc; subst hc; exact .u _
  have v3 : View H q3 (slLL n.follow) := h.h3.view (fun _ => rfl) fun x c hc => by simp [go_sem] at hc; subst hc; exact noP_slI _
  have v4 : View H q4 (slI n.first) := h.h4.view (fun _ => rfl) n1
  refine View.agg rfl fun i p q h1 h2 => ?_
  match i, h1, h2 with
  | 0, h1, h2 => cases h1; cases h2; exact v0
  | 1, h1, h2 => cases h1; cases h2; exact v1
  | 2, h1, h2 => cases h1; cases h2; exact v2
  | 3, h1, h2 => cases h1; cases h2; exact v3
  | 4, h1, h2 => cases h1; cases h2; exact v4
theorem NetAt.up0 {H H1 H2 : PHeap} {v : Nat} {n : Net} {q0 q1 q2 q3 q4 q' : PV} {ys : List Rx} (h : NetAt H v n q0 q1 q2 q3 q4) (a : ownSs H1 30 q' (n.sets ++ ys)) (o1 : ∀ j, j ≠ 30 → H1 j = H j) (b2 : H2 3 = ⟨v, some (.box 61 [q', q1, q2, q3, q4])⟩) (o2 : ∀ j, j ≠ 3 → H2 j = H1 j) : NetAt H2 v { n with sets := n.sets ++ ys } q' q1 q2 q3 q4 :=
  ⟨b2, a.mono (o2 30 (by omega)), (h.h1.mono (o1 31 (by omega))).mono (o2 31 (by omega)), (h.h2.mono (o1 32 (by omega))).mono (o2 32 (by omega)), (h.h3.mono (o1 33 (by omega))).mono (o2 33 (by omega)), (h.h4.mono (o1 34 (by omega))).mono (o2 34 (by omega))⟩
theorem NetAt.up1 {H H1 H2 : PHeap} {v : Nat} {n : Net} {q0 q1 q2 q3 q4 q' : PV} {ys : List Int} (h : NetAt H v n q0 q1 q2 q3 q4) (a : ownIs H1 31 q' (n.of_ ++ ys)) (o1 : ∀ j, j ≠ 31 → H1 j = H j) (b2 : H2 3 = ⟨v, some (.box 61 [q0, q', q2, q3, q4])⟩) (o2 : ∀ j, j ≠ 3 → H2 j = H1 j) : NetAt H2 v { n with of_ := n.of_ ++ ys } q0 q' q2 q3 q4 :=
  ⟨b2, (h.h0.mono (o1 30 (by omega))).mono (o2 30 (by omega)), a.mono (o2 31 (by omega)), (h.h2.mono (o1 32 (by omega))).mono (o2 32 (by omega)), (h.h3.mono (o1 33 (by omega))).mono (o2 33 (by omega)), (h.h4.mono (o1 34 (by omega))).mono (o2 34 (by omega))⟩
theorem NetAt.up2 {H H1 H2 : PHeap} {v : Nat} {n : Net} {q0 q1 q2 q3 q4 q' : PV} {ys : List Bool} (h : NetAt H v n q0 q1 q2 q3 q4) (a : ownBs H1 32 q' (n.last ++ ys)) (o1 : ∀ j, j ≠ 32 → H1 j = H j) (b2 : H2 3 = ⟨v, some (.box 61 [q0, q1, q', q3, q4])⟩) (o2 : ∀ j, j ≠ 3 → H2 j = H1 j) : NetAt H2 v { n with last := n.last ++ ys } q0 q1 q' q3 q4 :=
  ⟨b2, (h.h0.mono (o1 30 (by omega))).mono (o2 30 (by omega)), (h.h1.mono (o1 31 (by omega))).mono (o2 31 (by omega)), a.mono (o2 32 (by omega)), (h.h3.mono (o1 33 (by omega))).mono (o2 33 (by omega)), (h.h4.mono (o1 34 (by omega))).mono (o2 34 (by omega))⟩
theorem NetAt.up3 {H H1 H2 : PHeap} {v : Nat} {n : Net} {q0 q1 q2 q3 q4 q' : PV} {ys : List (List Int)} (h : NetAt H v n q0 q1 q2 q3 q4) (a : ownLs H1 33 q' (n.follow ++ ys)) (o1 : ∀ j, j ≠ 33 → H1 j = H j) (b2 : H2 3 = ⟨v, some (.box 61 [q0, q1, q2, q', q4])⟩) (o2 : ∀ j, j ≠ 3 → H2 j = H1 j) : NetAt H2 v { n with follow := n.follow ++ ys } q0 q1 q2 q' q4 :=
  ⟨b2, (h.h0.mono (o1 30 (by omega))).mono (o2 30 (by omega)), (h.h1.mono (o1 31 (by omega))).mono (o2 31 (by omega)), (h.h2.mono (o1 32 (by omega))).mono (o2 32 (by omega)), a.mono (o2 33 (by omega)), (h.h4.mono (o1 34 (by omega))).mono (o2 34 (by omega))⟩
theorem NetAt.up4 {H H1 H2 : PHeap} {v : Nat} {n : Net} {q0 q1 q2 q3 q4 q' : PV} {ys : List Int} (h : NetAt H v n q0 q1 q2 q3 q4) (a : ownIs H1 34 q' (n.first ++ ys)) (o1 : ∀ j, j ≠ 34 → H1 j = H j) (b2 : H2 3 = ⟨v, some (.box 61 [q0, q1, q2, q3, q'])⟩) (o2 : ∀ j, j ≠ 3 → H2 j = H1 j) : NetAt H2 v { n with first := n.first ++ ys } q0 q1 q2 q3 q' :=
  ⟨b2, (h.h0.mono (o1 30 (by omega))).mono (o2 30 (by omega)), (h.h1.mono (o1 31 (by omega))).mono (o2 31 (by omega)), (h.h2.mono (o1 32 (by omega))).mono (o2 32 (by omega)), (h.h3.mono (o1 33 (by omega))).mono (o2 33 (by omega)), a.mono (o2 34 (by omega))⟩

theorem okC_agg5 {H : PHeap} {v : Nat} {n : Net} {q0 q1 q2 q3 q4 : PV} (h : NetAt H v n q0 q1 q2 q3 q4) : L.okC H (.agg [q0, q1, q2, q3, q4]) = true := by
  have l0 := OwnS.leaf h.h0
  have l1 := OwnS.leaf h.h1
  have l2 := OwnS.leaf h.h2
  have l3 := OwnS.leaf h.h3
  have l4 := OwnS.leaf h.h4
  simp [L.okC, l0, l1, l2, l3, l4]

def fuseI (n : Net) (t : Nat) (r : List Rx) (i : Nat) : Net :=
  { sets := n.sets ++ (spSets r).take i, of_ := n.of_ ++ List.replicate i (t : Int), last := n.last ++ (List.range i).map fun j : Nat => decide ((j : Int) ∈ spLast r), follow := n.follow ++ (List.range i).map fun j : Nat => moreL (spFollow r j) n.sets.length, first := n.first }
def fuseS (n : Net) (t : Nat) (r : List Rx) : Net := { fuseI n t r (spSets r).length with first := n.first ++ moreL (spFirst r) n.sets.length }
def fuseK (l : List Tok) : Nat → Net
  | 0 => ⟨[], [], [], [], []⟩
  | k + 1 => fuseS (fuseK l k) k (((l[k]?).map Tok.rex).getD [])
def fuseL (l : List Tok) : Net := fuseK l l.length
theorem fuseK_succ (l : List Tok) (k : Nat) (h : k < l.length) : fuseK l (k + 1) = fuseS (fuseK l k) k l[k].rex := by
  rw [fuseK]; simp [h]
theorem fuseI_zero (n : Net) (t : Nat) (r : List Rx) : fuseI n t r 0 = n := by simp [fuseI]
theorem fuseI_succ (n : Net) (t : Nat) (r : List Rx) (i : Nat) (h : i < (spSets r).length) : fuseI n t r (i + 1) =
    { fuseI n t r i with sets := (fuseI n t r i).sets ++ [(spSets r)[i]], of_ := (fuseI n t r i).of_ ++ [(t : Int)], last := (fuseI n t r i).last ++ [decide ((i : Int) ∈ spLast r)], follow := (fuseI n t r i).follow ++ [moreL (spFollow r i) n.sets.length] } := by
  unfold fuseI
  rw [List.take_succ_eq_append_getElem h, List.range_succ]
  simp [List.replicate_succ']

theorem folL_rise (e : E) (i : Int) (n : Nat) : Rising (folL e i n) := by
  unfold folL Rising
  refine List.Pairwise.filter _ ?_
  rw [List.pairwise_map]
  exact List.pairwise_lt_range.imp fun h => by omega
structure SpF (r : List Rx) : Prop where
  n : (spSets r).length ≤ 1000
  first : Rising (spFirst r) ∧ ∀ x ∈ spFirst r, 0 ≤ x ∧ x < (spSets r).length
  last : Rising (spLast r) ∧ ∀ x ∈ spLast r, 0 ≤ x ∧ x < (spSets r).length
  fol : ∀ i, Rising (spFollow r i) ∧ ∀ x ∈ spFollow r i, 0 ≤ x ∧ x < (spSets r).length
theorem sp_facts (r : List Rx) : SpF r := by
  by_cases h : checkL r = 0
  · obtain ⟨e, he⟩ := wfx_of r h
    obtain ⟨hS, hF, hL, hE, hO⟩ := sp_of he
    have hn := setsT_len e
    refine ⟨(sp_len r).1, ?_, ?_, fun i => ?_⟩
    · rw [hS, hF, hn]; exact ⟨(first_in e 0).1, fun x hx => by have := (first_in e 0).2 x hx; omega⟩
    · rw [hS, hL, hn]; exact ⟨(last_in e 0).1, fun x hx => by have := (last_in e 0).2 x hx; omega⟩
    · rw [hS, hO, hn]
      refine ⟨?_, fun x hx => by have := fol_in e 0 i x (folR_mem.1 hx); omega⟩
      unfold folR
      split
      · exact folL_rise _ _ _
      · simp [Rising]
  · have e1 : spSets r = [] := by unfold spSets; rw [if_neg h]
    have e2 : spFirst r = [] := by unfold spFirst; rw [if_neg h]
    have e3 : spLast r = [] := by unfold spLast; rw [if_neg h]
    have e4 : ∀ i, spFollow r i = [] := fun i => by unfold spFollow; rw [if_neg (fun h' => h h'.1)]
    refine ⟨by rw [e1]; simp, by rw [e2]; simp [Rising], by rw [e3]; simp [Rising], fun i => by rw [e4]; simp [Rising]⟩
structure NetB (n : Net) (c : Nat) : Prop where
  s : n.sets.length ≤ c
  o : n.of_.length ≤ c
  l : n.last.length ≤ c
  f : n.follow.length ≤ c
  t : n.first.length ≤ c
theorem fuseK_b (l : List Tok) (k : Nat) : NetB (fuseK l k) (1000 * k) := by
  induction k with
  | zero => exact ⟨by simp [fuseK], by simp [fuseK], by simp [fuseK], by simp [fuseK], by simp [fuseK]⟩
  | succ k ih =>
    rw [fuseK]
    generalize ((l[k]?).map Tok.rex).getD [] = r
    have hr := sp_facts r
    have h1 := hr.n
    have h2 := rising_len2 hr.first
    obtain ⟨a, b, c, d, e⟩ := ih
    refine ⟨?_, ?_, ?_, ?_, ?_⟩ <;> simp [fuseS, fuseI, moreL] <;> omega

set_option maxRecDepth 20000 in
set_option maxHeartbeats 8000000 in
theorem fuseFuse_ok (l : List Tok) (hl : l.length ≤ 12) : PCall Try.prog 42 [slT l] (· = netV (fuseL l)) := by
  have cS : ∀ r : List Rx, PCall Try.prog 13 [slX r] (· = slS (spSets r)) := Sets_ok
  refine PCall.intro' Try.func42 rfl Try.ntmps42 (by simp) fun W => ?_
  repeat (first | (refine PC.seq fun K hK => ?_) | (refine PC.block ?_) | (refine PC.region ?_) | (refine PL.k rfl fun KK hKK => ?_; simp (disch := omega) [go_sem, stepK]; refine hKK _ ?_; clear hKK KK) | (refine PL.k rfl fun KK hKK => ?_; simp [go_sem, stepK]; refine hKK _ ?_; clear hKK KK) | (refine PL.g rfl rfl fun KK hKK => ?_; simp (disch := omega) [go_sem, L.stepG]; refine hKK _ ?_; clear hKK KK) | (refine PL.g rfl rfl fun KK hKK => ?_; simp [go_sem, L.stepG]; refine hKK _ ?_; clear hKK KK) | (refine PL.done hK ?_; clear hK) | (refine PC.skip (hK _ _ ?_); clear hK) | (refine PC.condT ?_ ?_; focus (simp [go_sem]; done)) | (refine PC.condF ?_ ?_; focus (simp [go_sem]; done)) | (refine PC.exit ?_; first | (refine hK _ _ ?_; clear hK) | (clear hK; refine hK _ _ ?_; clear hK) | (clear hK; clear hK; refine hK _ _ ?_; clear hK)))
  refine PL.allocA 2 (d := 2) rfl rfl rfl (by simp) zeroC_61 rfl rfl fun v2 H2 bres ores => ?_
  repeat (first | (refine PC.seq fun K hK => ?_) | (refine PC.block ?_) | (refine PC.region ?_) | (refine PL.k rfl fun KK hKK => ?_; simp (disch := omega) [go_sem, stepK]; refine hKK _ ?_; clear hKK KK) | (refine PL.k rfl fun KK hKK => ?_; simp [go_sem, stepK]; refine hKK _ ?_; clear hKK KK) | (refine PL.g rfl rfl fun KK hKK => ?_; simp (disch := omega) [go_sem, L.stepG]; refine hKK _ ?_; clear hKK KK) | (refine PL.g rfl rfl fun KK hKK => ?_; simp [go_sem, L.stepG]; refine hKK _ ?_; clear hKK KK) | (refine PL.done hK ?_; clear hK) | (refine PC.skip (hK _ _ ?_); clear hK) | (refine PC.condT ?_ ?_; focus (simp [go_sem]; done)) | (refine PC.condF ?_ ?_; focus (simp [go_sem]; done)) | (refine PC.exit ?_; first | (refine hK _ _ ?_; clear hK) | (clear hK; refine hK _ _ ?_; clear hK) | (clear hK; clear hK; refine hK _ _ ?_; clear hK)))
  refine PL.allocA 3 (d := 3) rfl rfl rfl (by simp) zeroC_61 rfl rfl fun v H3 b3 o3 => ?_
  have b2 : H3 2 = _ := (o3 2 (by omega)).trans bres
  have hN0 : NetAt H3 v (fuseK l 0) (.u (.slice none 0 0)) (.u (.slice none 0 0)) (.u (.slice none 0 0)) (.u (.slice none 0 0)) (.u (.slice none 0 0)) := ⟨b3, ownL.nil _ _, ownL.nil _ _, ownL.nil _ _, ownL.nil _ _, ownL.nil _ _⟩
  repeat (first | (refine PC.seq fun K hK => ?_) | (refine PC.block ?_) | (refine PC.region ?_) | (refine PL.k rfl fun KK hKK => ?_; simp (disch := omega) [go_sem, stepK]; refine hKK _ ?_; clear hKK KK) | (refine PL.k rfl fun KK hKK => ?_; simp [go_sem, stepK]; refine hKK _ ?_; clear hKK KK) | (refine PL.g rfl rfl fun KK hKK => ?_; simp (disch := omega) [go_sem, L.stepG]; refine hKK _ ?_; clear hKK KK) | (refine PL.g rfl rfl fun KK hKK => ?_; simp [go_sem, L.stepG]; refine hKK _ ?_; clear hKK KK) | (refine PL.done hK ?_; clear hK) | (refine PC.skip (hK _ _ ?_); clear hK) | (refine PC.condT ?_ ?_; focus (simp [go_sem]; done)) | (refine PC.condF ?_ ?_; focus (simp [go_sem]; done)) | (refine PC.exit ?_; first | (refine hK _ _ ?_; clear hK) | (clear hK; refine hK _ _ ?_; clear hK) | (clear hK; clear hK; refine hK _ _ ?_; clear hK)))
  refine PC.loop (fun m F H' => ∃ (k : Nat) (q0 q1 q2 q3 q4 : PV), k ≤ l.length ∧ m = l.length - k ∧ (F 0 = slT l ∧ F 2 = .pp 2 0 v2 ∧ F 3 = .pp 3 0 v ∧ F 11 = I l.length) ∧ F 12 = I k ∧ NetAt H' v (fuseK l k) q0 q1 q2 q3 q4 ∧ H' 2 = ⟨v2, some (.box 61 [.u (.slice none 0 0), .u (.slice none 0 0), .u (.slice none 0 0), .u (.slice none 0 0), .u (.slice none 0 0)])⟩) (m := l.length) ⟨0, _, _, _, _, _, by omega, by omega, by simp [go_sem], by simp [go_sem], hN0, b2⟩ fun m F H' hI => ?_
  obtain ⟨k, q0, q1, q2, q3, q4, hk, hm, ⟨f0, f2, f3, f11⟩, f12, hN, b2⟩ := hI
  by_cases hlt : k < l.length
  · have hlt' : (k : Int) < l.length := by omega
    have hsucc := fuseK_succ l k hlt
    have hM := fuseK_b l k
    obtain ⟨tk, etk⟩ : ∃ t, l[k] = t := ⟨_, rfl⟩
    rw [etk] at hsucc
    obtain ⟨r, er⟩ : ∃ r, tk.rex = r := ⟨_, rfl⟩
    rw [er] at hsucc
    have hr := sp_facts r
    have hrn := hr.n
    have hrl := rising_len2 hr.last
    generalize hMM : fuseK l k = M0 at *
    have hMs := hM.s
    have hMo := hM.o
    have hMl := hM.l
    have hMf := hM.f
    have hMt := hM.t
    have h30 := OwnS.len (P := Try.prog) isSlice_24 hN.h0
    have hb := hN.b
    repeat (first | (refine PC.seq fun K hK => ?_) | (refine PC.block ?_) | (refine PC.region ?_) | (refine PL.k rfl fun KK hKK => ?_; simp (disch := omega) [go_sem, stepK, f0, f2, f3, f11, f12, hlt']; refine hKK _ ?_; clear hKK KK) | (refine PL.k rfl fun KK hKK => ?_; simp [go_sem, stepK, f0, f2, f3, f11, f12, hlt']; refine hKK _ ?_; clear hKK KK) | (refine PL.g rfl rfl fun KK hKK => ?_; simp (disch := omega) [go_sem, L.stepG, f0, f2, f3, f11, f12, hlt']; refine hKK _ ?_; clear hKK KK) | (refine PL.g rfl rfl fun KK hKK => ?_; simp [go_sem, L.stepG, f0, f2, f3, f11, f12, hlt']; refine hKK _ ?_; clear hKK KK) | (refine PL.done hK ?_; clear hK) | (refine PC.skip (hK _ _ ?_); clear hK) | (refine PC.condT ?_ ?_; focus (simp [go_sem, f0, f2, f3, f11, f12, hlt']; done)) | (refine PC.condF ?_ ?_; focus (simp [go_sem, f0, f2, f3, f11, f12, hlt']; done)) | (refine PC.exit ?_; first | (refine hK _ _ ?_; clear hK) | (clear hK; refine hK _ _ ?_; clear hK) | (clear hK; clear hK; refine hK _ _ ?_; clear hK)))
    refine PC.regionQ mixed (by kernel_rfl) ?_
    repeat (first | (refine QF.k rfl fun KK hKK => ?_; simp (disch := omega) [go_sem, stepK, f0, f3, hlt, hlt', etk, er, hb, h30]; refine hKK _ ?_; clear hKK KK) | (refine QF.k rfl fun KK hKK => ?_; simp [go_sem, stepK, f0, f3, hlt, hlt', etk, er, hb, h30]; refine hKK _ ?_; clear hKK KK) | (refine QF.g rfl rfl fun KK hKK => ?_; simp (disch := omega) [go_sem, L.stepG, f0, f3, hlt, hlt', etk, er, hb, h30]; refine hKK _ ?_; clear hKK KK) | (refine QF.g rfl rfl fun KK hKK => ?_; simp [go_sem, L.stepG, f0, f3, hlt, hlt', etk, er, hb, h30]; refine hKK _ ?_; clear hKK KK))
    refine QF.done hK ?_; clear hK
    repeat (first | (refine PC.seq fun K hK => ?_) | (refine PC.block ?_) | (refine PC.region ?_) | (refine PL.k rfl fun KK hKK => ?_; simp (disch := omega) [go_sem, stepK]; refine hKK _ ?_; clear hKK KK) | (refine PL.k rfl fun KK hKK => ?_; simp [go_sem, stepK]; refine hKK _ ?_; clear hKK KK) | (refine PL.g rfl rfl fun KK hKK => ?_; simp (disch := omega) [go_sem, L.stepG]; refine hKK _ ?_; clear hKK KK) | (refine PL.g rfl rfl fun KK hKK => ?_; simp [go_sem, L.stepG]; refine hKK _ ?_; clear hKK KK) | (refine PL.done hK ?_; clear hK) | (refine PC.skip (hK _ _ ?_); clear hK) | (refine PC.condT ?_ ?_; focus (simp [go_sem]; done)) | (refine PC.condF ?_ ?_; focus (simp [go_sem]; done)) | (refine PC.exit ?_; first | (refine hK _ _ ?_; clear hK) | (clear hK; refine hK _ _ ?_; clear hK) | (clear hK; clear hK; refine hK _ _ ?_; clear hK)))
    refine PL.callB rfl rfl (by kernel_rfl) (Last_ok r) (by simp [go_sem]) (by simp [go_sem]) (by simp [go_sem]) ?_
    repeat (first | (refine PC.seq fun K hK => ?_) | (refine PC.block ?_) | (refine PC.region ?_) | (refine PL.k rfl fun KK hKK => ?_; simp (disch := omega) [go_sem, stepK]; refine hKK _ ?_; clear hKK KK) | (refine PL.k rfl fun KK hKK => ?_; simp [go_sem, stepK]; refine hKK _ ?_; clear hKK KK) | (refine PL.g rfl rfl fun KK hKK => ?_; simp (disch := omega) [go_sem, L.stepG]; refine hKK _ ?_; clear hKK KK) | (refine PL.g rfl rfl fun KK hKK => ?_; simp [go_sem, L.stepG]; refine hKK _ ?_; clear hKK KK) | (refine PL.done hK ?_; clear hK) | (refine PC.skip (hK _ _ ?_); clear hK) | (refine PC.condT ?_ ?_; focus (simp [go_sem]; done)) | (refine PC.condF ?_ ?_; focus (simp [go_sem]; done)) | (refine PC.exit ?_; first | (refine hK _ _ ?_; clear hK) | (clear hK; refine hK _ _ ?_; clear hK) | (clear hK; clear hK; refine hK _ _ ?_; clear hK)))
    refine PL.callB rfl rfl (by kernel_rfl) (cS r) (by simp [go_sem]) (by simp [go_sem]) (by simp [go_sem]) ?_
    have hS0 : (26 : Nat) = 26 := rfl
    repeat (first | (refine PC.seq fun K hK => ?_) | (refine PC.block ?_) | (refine PC.region ?_) | (refine PL.k rfl fun KK hKK => ?_; simp (disch := omega) [go_sem, stepK]; refine hKK _ ?_; clear hKK KK) | (refine PL.k rfl fun KK hKK => ?_; simp [go_sem, stepK]; refine hKK _ ?_; clear hKK KK) | (refine PL.g rfl rfl fun KK hKK => ?_; simp (disch := omega) [go_sem, L.stepG]; refine hKK _ ?_; clear hKK KK) | (refine PL.g rfl rfl fun KK hKK => ?_; simp [go_sem, L.stepG]; refine hKK _ ?_; clear hKK KK) | (refine PL.done hK ?_; clear hK) | (refine PC.skip (hK _ _ ?_); clear hK) | (refine PC.condT ?_ ?_; focus (simp [go_sem]; done)) | (refine PC.condF ?_ ?_; focus (simp [go_sem]; done)) | (refine PC.exit ?_; first | (refine hK _ _ ?_; clear hK) | (clear hK; refine hK _ _ ?_; clear hK) | (clear hK; clear hK; refine hK _ _ ?_; clear hK)))
    refine PC.loop (fun m F H' => ∃ (i : Nat) (q0 q1 q2 q3 q4 : PV), i ≤ (spSets r).length ∧ m = (spSets r).length - i ∧ (F 0 = slT l ∧ F 2 = .pp 2 0 v2 ∧ F 3 = .pp 3 0 v ∧ F 4 = I k ∧ F 5 = slX r ∧ F 6 = I M0.sets.length ∧ F 7 = slI (spLast r) ∧ F 11 = I l.length ∧ F 12 = I k ∧ F 26 = slS (spSets r) ∧ F 27 = I (spSets r).length) ∧ F 28 = I i ∧ NetAt H' v (fuseI M0 k r i) q0 q1 q2 q3 q4 ∧ H' 2 = ⟨v2, some (.box 61 [.u (.slice none 0 0), .u (.slice none 0 0), .u (.slice none 0 0), .u (.slice none 0 0), .u (.slice none 0 0)])⟩) (m := (spSets r).length) ⟨0, q0, q1, q2, q3, q4, by omega, by omega, by simp [go_sem, f0, f2, f3, f11, f12], by simp [go_sem], by rw [fuseI_zero]; exact hN, b2⟩ fun m2 F H' hI => ?_
    clear f0 f2 f3 f11 f12 hN b2 hb h30
    obtain ⟨i, q0, q1, q2, q3, q4, hi, hm2, ⟨f0, f2, f3, f4, f5, f6, f7, f11, f12, f26, f27⟩, f28, hN, b2⟩ := hI
    by_cases hli : i < (spSets r).length
    · have hli' : (i : Int) < (spSets r).length := by omega
      have hIs := fuseI_succ M0 k r i hli
      have hfi := hr.fol i
      have hfl := rising_len2 hfi
      obtain ⟨y, ey⟩ : ∃ y, (spSets r)[i] = y := ⟨_, rfl⟩
      rw [ey] at hIs
      repeat (first | (refine PC.seq fun K hK => ?_) | (refine PC.block ?_) | (refine PC.region ?_) | (refine PL.k rfl fun KK hKK => ?_; simp (disch := omega) [go_sem, stepK, f26, f27, f28, hli, hli', ey]; refine hKK _ ?_; clear hKK KK) | (refine PL.k rfl fun KK hKK => ?_; simp [go_sem, stepK, f26, f27, f28, hli, hli', ey]; refine hKK _ ?_; clear hKK KK) | (refine PL.g rfl rfl fun KK hKK => ?_; simp (disch := omega) [go_sem, L.stepG, f26, f27, f28, hli, hli', ey]; refine hKK _ ?_; clear hKK KK) | (refine PL.g rfl rfl fun KK hKK => ?_; simp [go_sem, L.stepG, f26, f27, f28, hli, hli', ey]; refine hKK _ ?_; clear hKK KK) | (refine PL.done hK ?_; clear hK) | (refine PC.skip (hK _ _ ?_); clear hK) | (refine PC.condT ?_ ?_; focus (simp [go_sem, f26, f27, f28, hli, hli', ey]; done)) | (refine PC.condF ?_ ?_; focus (simp [go_sem, f26, f27, f28, hli, hli', ey]; done)) | (refine PC.exit ?_; first | (refine hK _ _ ?_; clear hK) | (clear hK; refine hK _ _ ?_; clear hK) | (clear hK; clear hK; refine hK _ _ ?_; clear hK)))
      refine PL.allocA 9 (d := 9) rfl rfl rfl (by simp) zeroC_28 rfl rfl fun v9 H9 b9 o9 => ?_
      repeat (refine PL.k rfl fun KK hKK => ?_; simp [go_sem, stepK]; refine hKK _ ?_; clear hKK KK)
      refine PL.storeA (id := 9) rfl rfl (by simp [dstOk]) (by simp [go_sem]; rfl) b9 asz_28 (v := encS y) (by simp [go_sem, encS]) (by simp [go_sem, encS, W64]) rfl rfl (by simp [encS, PV.cells]) (cs' := [W64 y.s0, W64 y.s1, W64 y.s2, W64 y.s3]) rfl fun H10 b10 o10 => ?_
      refine PL.done hK ?_; clear hK
      have hN := hN.mono (H' := H10) fun j hj => by rw [o10 j (by omega), o9 j (by omega)]
      have b2 := ((o10 2 (by omega)).trans (o9 2 (by omega))).trans b2
      have hb := hN.b
      repeat (first | (refine PC.seq fun K hK => ?_) | (refine PC.block ?_) | (refine PC.region ?_) | (refine PL.k rfl fun KK hKK => ?_; simp (disch := omega) [go_sem, stepK, f3, hb, b10]; refine hKK _ ?_; clear hKK KK) | (refine PL.k rfl fun KK hKK => ?_; simp [go_sem, stepK, f3, hb, b10]; refine hKK _ ?_; clear hKK KK) | (refine PL.g rfl rfl fun KK hKK => ?_; simp (disch := omega) [go_sem, L.stepG, f3, hb, b10]; refine hKK _ ?_; clear hKK KK) | (refine PL.g rfl rfl fun KK hKK => ?_; simp [go_sem, L.stepG, f3, hb, b10]; refine hKK _ ?_; clear hKK KK) | (refine PL.done hK ?_; clear hK) | (refine PC.skip (hK _ _ ?_); clear hK) | (refine PC.condT ?_ ?_; focus (simp [go_sem, f3, hb, b10]; done)) | (refine PC.condF ?_ ?_; focus (simp [go_sem, f3, hb, b10]; done)) | (refine PC.exit ?_; first | (refine hK _ _ ?_; clear hK) | (clear hK; refine hK _ _ ?_; clear hK) | (clear hK; clear hK; refine hK _ _ ?_; clear hK)))
      refine PL.buildSliceR (d := 36) rfl rfl rfl (by simp) selem_24 rfl (by omega) (ips := [(0, encS (y))]) (by simp [go_sem, encS]) (by simp [litOk, go_sem, encS, W64, PV.cells]) (ps := [encS (y)]) rfl ?_
      refine PL.appendL (rep := encS) (d := 37) (ys := [y]) rfl rfl rfl (by simp) selem_24 (by simp [go_sem]) hN.h0 (by simp [go_sem, encS]) (fun _ => rfl) (fun x c hc => by simp [encS, PV.cells] at hc; rcases hc with rfl | rfl | rfl | rfl <;> rfl) (by simp [maxLen, moreL, fuseI]; omega) (by simp [moreL, fuseI]; omega) fun q0' H1 a1 o1 => ?_
      have bb := (o1 3 (by omega)).trans hN.b
      repeat (refine PL.k rfl fun KK hKK => ?_; simp [go_sem, stepK, bb, f3]; refine hKK _ ?_; clear hKK KK)
      refine PL.storeA (id := 3) rfl rfl (by simp [dstOk]) (by simp [go_sem]; rfl) bb asz_24 (v := q0') (by simp [go_sem]) (OwnS.okC a1) (OwnS.cells a1) rfl (by simp) rfl fun H2 bst o2 => ?_
      have hN := hN.up0 a1 o1 bst o2
      have b2 := ((o2 2 (by omega)).trans (o1 2 (by omega))).trans b2
      clear bb bst a1
      refine PL.done hK ?_; clear hK
      have hb := hN.b
      repeat (first | (refine PC.seq fun K hK => ?_) | (refine PC.block ?_) | (refine PC.region ?_) | (refine PL.k rfl fun KK hKK => ?_; simp (disch := omega) [go_sem, stepK, f3, f4, hb]; refine hKK _ ?_; clear hKK KK) | (refine PL.k rfl fun KK hKK => ?_; simp [go_sem, stepK, f3, f4, hb]; refine hKK _ ?_; clear hKK KK) | (refine PL.g rfl rfl fun KK hKK => ?_; simp (disch := omega) [go_sem, L.stepG, f3, f4, hb]; refine hKK _ ?_; clear hKK KK) | (refine PL.g rfl rfl fun KK hKK => ?_; simp [go_sem, L.stepG, f3, f4, hb]; refine hKK _ ?_; clear hKK KK) | (refine PL.done hK ?_; clear hK) | (refine PC.skip (hK _ _ ?_); clear hK) | (refine PC.condT ?_ ?_; focus (simp [go_sem, f3, f4, hb]; done)) | (refine PC.condF ?_ ?_; focus (simp [go_sem, f3, f4, hb]; done)) | (refine PC.exit ?_; first | (refine hK _ _ ?_; clear hK) | (clear hK; refine hK _ _ ?_; clear hK) | (clear hK; clear hK; refine hK _ _ ?_; clear hK)))
      refine PL.buildSliceR (d := 42) rfl rfl rfl (by simp) selem_30 rfl (by omega) (ips := [(0, I ((k : Int)))]) (by simp [go_sem, encS]) (by simp [litOk, go_sem, okC]) (ps := [I ((k : Int))]) rfl ?_
      refine PL.appendL (rep := I) (d := 43) (ys := [(k : Int)]) rfl rfl rfl (by simp) selem_30 (by simp [go_sem]) hN.h1 (by simp [go_sem, encS]) (fun _ => rfl) (fun x c hc => by simp [PV.cells] at hc; subst hc; rfl) (by simp [maxLen, moreL, fuseI]; omega) (by simp [moreL, fuseI]; omega) fun q1' H1 a1 o1 => ?_
      have bb := (o1 3 (by omega)).trans hN.b
      repeat (refine PL.k rfl fun KK hKK => ?_; simp [go_sem, stepK, bb, f3]; refine hKK _ ?_; clear hKK KK)
      refine PL.storeA (id := 3) rfl rfl (by simp [dstOk]) (by simp [go_sem]; rfl) bb asz_30 (v := q1') (by simp [go_sem]) (OwnS.okC a1) (OwnS.cells a1) rfl (by simp) rfl fun H2 bst o2 => ?_
      have hN := hN.up1 a1 o1 bst o2
      have b2 := ((o2 2 (by omega)).trans (o1 2 (by omega))).trans b2
      clear bb bst a1
      refine PL.done hK ?_; clear hK
      have hb := hN.b
      repeat (first | (refine PC.seq fun K hK => ?_) | (refine PC.block ?_) | (refine PC.region ?_) | (refine PL.k rfl fun KK hKK => ?_; simp (disch := omega) [go_sem, stepK]; refine hKK _ ?_; clear hKK KK) | (refine PL.k rfl fun KK hKK => ?_; simp [go_sem, stepK]; refine hKK _ ?_; clear hKK KK) | (refine PL.g rfl rfl fun KK hKK => ?_; simp (disch := omega) [go_sem, L.stepG]; refine hKK _ ?_; clear hKK KK) | (refine PL.g rfl rfl fun KK hKK => ?_; simp [go_sem, L.stepG]; refine hKK _ ?_; clear hKK KK) | (refine PL.done hK ?_; clear hK) | (refine PC.skip (hK _ _ ?_); clear hK) | (refine PC.condT ?_ ?_; focus (simp [go_sem]; done)) | (refine PC.condF ?_ ?_; focus (simp [go_sem]; done)) | (refine PC.exit ?_; first | (refine hK _ _ ?_; clear hK) | (clear hK; refine hK _ _ ?_; clear hK) | (clear hK; clear hK; refine hK _ _ ?_; clear hK)))
      refine PC.regionT 6 mixed (by kernel_rfl) ?_
      repeat (first | (refine QF.k rfl fun KK hKK => ?_; simp (disch := omega) [go_sem, stepK, f3, f7, hb]; refine hKK _ ?_; clear hKK KK) | (refine QF.k rfl fun KK hKK => ?_; simp [go_sem, stepK, f3, f7, hb]; refine hKK _ ?_; clear hKK KK) | (refine QF.g rfl rfl fun KK hKK => ?_; simp (disch := omega) [go_sem, L.stepG, f3, f7, hb]; refine hKK _ ?_; clear hKK KK) | (refine QF.g rfl rfl fun KK hKK => ?_; simp [go_sem, L.stepG, f3, f7, hb]; refine hKK _ ?_; clear hKK KK))
      refine QF.callB rfl rfl (by kernel_rfl) (manyHas_ok (spLast r) i (by omega) (hr.last.1.imp fun h => Int.le_of_lt h)) (by simp [go_sem]) (by simp [go_sem]) (by simp [go_sem]) ?_
      refine QF.buildSliceA (d := 50) rfl rfl rfl (by simp) selem_51 rfl (by omega) (ips := [(0, B (decide ((i : Int) ∈ spLast r)))]) (by simp [go_sem, encS]) (by simp [litOk, go_sem, okC]) (ps := [B (decide ((i : Int) ∈ spLast r))]) rfl ?_
      refine QF.nil ?_
      refine PL.appendL (rep := B) (d := 51) (ys := [decide ((i : Int) ∈ spLast r)]) rfl rfl rfl (by simp) selem_51 (by simp [go_sem]) hN.h2 (by simp [go_sem, encS]) (fun _ => rfl) (fun x c hc => by simp [PV.cells] at hc; subst hc; rfl) (by simp [maxLen, moreL, fuseI]; omega) (by simp [moreL, fuseI]; omega) fun q2' H1 a1 o1 => ?_
      have bb := (o1 3 (by omega)).trans hN.b
      repeat (refine PL.k rfl fun KK hKK => ?_; simp [go_sem, stepK, bb, f3]; refine hKK _ ?_; clear hKK KK)
      refine PL.storeA (id := 3) rfl rfl (by simp [dstOk]) (by simp [go_sem]; rfl) bb asz_51 (v := q2') (by simp [go_sem]) (OwnS.okC a1) (OwnS.cells a1) rfl (by simp) rfl fun H2 bst o2 => ?_
      have hN := hN.up2 a1 o1 bst o2
      have b2 := ((o2 2 (by omega)).trans (o1 2 (by omega))).trans b2
      clear bb bst a1
      refine PL.done hK ?_; clear hK
      have hb := hN.b
      have hov : ∀ x ∈ spFollow r i, -9223372036854775808 ≤ x + (M0.sets.length : Int) ∧ x + (M0.sets.length : Int) ≤ 9223372036854775807 := fun x hx => by have := hfi.2 x hx; omega
      repeat (first | (refine PC.seq fun K hK => ?_) | (refine PC.block ?_) | (refine PC.region ?_) | (refine PL.k rfl fun KK hKK => ?_; simp (disch := omega) [go_sem, stepK]; refine hKK _ ?_; clear hKK KK) | (refine PL.k rfl fun KK hKK => ?_; simp [go_sem, stepK]; refine hKK _ ?_; clear hKK KK) | (refine PL.g rfl rfl fun KK hKK => ?_; simp (disch := omega) [go_sem, L.stepG]; refine hKK _ ?_; clear hKK KK) | (refine PL.g rfl rfl fun KK hKK => ?_; simp [go_sem, L.stepG]; refine hKK _ ?_; clear hKK KK) | (refine PL.done hK ?_; clear hK) | (refine PC.skip (hK _ _ ?_); clear hK) | (refine PC.condT ?_ ?_; focus (simp [go_sem]; done)) | (refine PC.condF ?_ ?_; focus (simp [go_sem]; done)) | (refine PC.exit ?_; first | (refine hK _ _ ?_; clear hK) | (clear hK; refine hK _ _ ?_; clear hK) | (clear hK; clear hK; refine hK _ _ ?_; clear hK)))
      refine PC.regionT 8 mixed (by kernel_rfl) ?_
      repeat (first | (refine QF.k rfl fun KK hKK => ?_; simp (disch := omega) [go_sem, stepK, f3, f5, hb]; refine hKK _ ?_; clear hKK KK) | (refine QF.k rfl fun KK hKK => ?_; simp [go_sem, stepK, f3, f5, hb]; refine hKK _ ?_; clear hKK KK) | (refine QF.g rfl rfl fun KK hKK => ?_; simp (disch := omega) [go_sem, L.stepG, f3, f5, hb]; refine hKK _ ?_; clear hKK KK) | (refine QF.g rfl rfl fun KK hKK => ?_; simp [go_sem, L.stepG, f3, f5, hb]; refine hKK _ ?_; clear hKK KK))
      refine QF.callB rfl rfl (by kernel_rfl) (Follow_ok r i) (by simp [go_sem]) (by simp [go_sem]) (by simp [go_sem]) ?_
      repeat (first | (refine QF.k rfl fun KK hKK => ?_; simp (disch := omega) [go_sem, stepK, f6]; refine hKK _ ?_; clear hKK KK) | (refine QF.k rfl fun KK hKK => ?_; simp [go_sem, stepK, f6]; refine hKK _ ?_; clear hKK KK) | (refine QF.g rfl rfl fun KK hKK => ?_; simp (disch := omega) [go_sem, L.stepG, f6]; refine hKK _ ?_; clear hKK KK) | (refine QF.g rfl rfl fun KK hKK => ?_; simp [go_sem, L.stepG, f6]; refine hKK _ ?_; clear hKK KK))
      refine QF.callB rfl rfl (by kernel_rfl) (onward_ok (spFollow r i) M0.sets.length (by omega) hov) (by simp [go_sem]) (by simp [go_sem]) (by simp [go_sem]) ?_
      refine QF.buildSliceA (d := 60) rfl rfl rfl (by simp) selem_44 rfl (by omega) (ips := [(0, slI (moreL (spFollow r i) M0.sets.length))]) (by simp [go_sem, encS]) (by simp [litOk, go_sem]) (ps := [slI (moreL (spFollow r i) M0.sets.length)]) rfl ?_
      refine QF.nil ?_
      refine PL.appendL (rep := slI) (d := 61) (ys := [moreL (spFollow r i) M0.sets.length]) rfl rfl rfl (by simp) selem_44 (by simp [go_sem]) hN.h3 (by simp [go_sem, encS]) (fun _ => rfl) (fun x c hc => by simp [go_sem] at hc; subst hc; rfl) (by simp [maxLen, moreL, fuseI]; omega) (by simp [moreL, fuseI]; omega) fun q3' H1 a1 o1 => ?_
      have bb := (o1 3 (by omega)).trans hN.b
      repeat (refine PL.k rfl fun KK hKK => ?_; simp [go_sem, stepK, bb, f3]; refine hKK _ ?_; clear hKK KK)
      refine PL.storeA (id := 3) rfl rfl (by simp [dstOk]) (by simp [go_sem]; rfl) bb asz_44 (v := q3') (by simp [go_sem]) (OwnS.okC a1) (OwnS.cells a1) rfl (by simp) rfl fun H2 bst o2 => ?_
      have hN := hN.up3 a1 o1 bst o2
      have b2 := ((o2 2 (by omega)).trans (o1 2 (by omega))).trans b2
      clear bb bst a1
      repeat (first | (refine PC.seq fun K hK => ?_) | (refine PC.block ?_) | (refine PC.region ?_) | (refine PL.k rfl fun KK hKK => ?_; simp (disch := omega) [go_sem, stepK, f28]; refine hKK _ ?_; clear hKK KK) | (refine PL.k rfl fun KK hKK => ?_; simp [go_sem, stepK, f28]; refine hKK _ ?_; clear hKK KK) | (refine PL.g rfl rfl fun KK hKK => ?_; simp (disch := omega) [go_sem, L.stepG, f28]; refine hKK _ ?_; clear hKK KK) | (refine PL.g rfl rfl fun KK hKK => ?_; simp [go_sem, L.stepG, f28]; refine hKK _ ?_; clear hKK KK) | (refine PL.done hK ?_; clear hK) | (refine PC.skip (hK _ _ ?_); clear hK) | (refine PC.condT ?_ ?_; focus (simp [go_sem, f28]; done)) | (refine PC.condF ?_ ?_; focus (simp [go_sem, f28]; done)) | (refine PC.exit ?_; first | (refine hK _ _ ?_; clear hK) | (clear hK; refine hK _ _ ?_; clear hK) | (clear hK; clear hK; refine hK _ _ ?_; clear hK)))
      rw [← hIs] at hN
      refine PL.nil ⟨(spSets r).length - (i + 1), by omega, i + 1, _, _, _, _, _, by omega, by omega, by simp [go_sem, f0, f2, f3, f4, f5, f6, f7, f11, f12, f26, f27], by simp [go_sem], hN, b2⟩
    · have hli' : ¬ (i : Int) < (spSets r).length := by omega
      have hie : i = (spSets r).length := by omega
      subst hie
      have hb := hN.b
      have hrf := rising_len2 hr.first
      have hov : ∀ x ∈ spFirst r, -9223372036854775808 ≤ x + (M0.sets.length : Int) ∧ x + (M0.sets.length : Int) ≤ 9223372036854775807 := fun x hx => by have := hr.first.2 x hx; omega
      repeat (first | (refine PC.seq fun K hK => ?_) | (refine PC.block ?_) | (refine PC.region ?_) | (refine PL.k rfl fun KK hKK => ?_; simp (disch := omega) [go_sem, stepK, f27, f28, hli']; refine hKK _ ?_; clear hKK KK) | (refine PL.k rfl fun KK hKK => ?_; simp [go_sem, stepK, f27, f28, hli']; refine hKK _ ?_; clear hKK KK) | (refine PL.g rfl rfl fun KK hKK => ?_; simp (disch := omega) [go_sem, L.stepG, f27, f28, hli']; refine hKK _ ?_; clear hKK KK) | (refine PL.g rfl rfl fun KK hKK => ?_; simp [go_sem, L.stepG, f27, f28, hli']; refine hKK _ ?_; clear hKK KK) | (refine PL.done hK ?_; clear hK) | (refine PC.skip (hK _ _ ?_); clear hK) | (refine PC.condT ?_ ?_; focus (simp [go_sem, f27, f28, hli']; done)) | (refine PC.condF ?_ ?_; focus (simp [go_sem, f27, f28, hli']; done)) | (refine PC.exit ?_; first | (refine hK _ _ ?_; clear hK) | (clear hK; refine hK _ _ ?_; clear hK) | (clear hK; clear hK; refine hK _ _ ?_; clear hK)))
      refine PC.regionT 6 mixed (by kernel_rfl) ?_
      repeat (first | (refine QF.k rfl fun KK hKK => ?_; simp (disch := omega) [go_sem, stepK, f3, f5, hb]; refine hKK _ ?_; clear hKK KK) | (refine QF.k rfl fun KK hKK => ?_; simp [go_sem, stepK, f3, f5, hb]; refine hKK _ ?_; clear hKK KK) | (refine QF.g rfl rfl fun KK hKK => ?_; simp (disch := omega) [go_sem, L.stepG, f3, f5, hb]; refine hKK _ ?_; clear hKK KK) | (refine QF.g rfl rfl fun KK hKK => ?_; simp [go_sem, L.stepG, f3, f5, hb]; refine hKK _ ?_; clear hKK KK))
      refine QF.callB rfl rfl (by kernel_rfl) (First_ok r) (by simp [go_sem]) (by simp [go_sem]) (by simp [go_sem]) ?_
      repeat (first | (refine QF.k rfl fun KK hKK => ?_; simp (disch := omega) [go_sem, stepK, f6]; refine hKK _ ?_; clear hKK KK) | (refine QF.k rfl fun KK hKK => ?_; simp [go_sem, stepK, f6]; refine hKK _ ?_; clear hKK KK) | (refine QF.g rfl rfl fun KK hKK => ?_; simp (disch := omega) [go_sem, L.stepG, f6]; refine hKK _ ?_; clear hKK KK) | (refine QF.g rfl rfl fun KK hKK => ?_; simp [go_sem, L.stepG, f6]; refine hKK _ ?_; clear hKK KK))
      refine QF.callB rfl rfl (by kernel_rfl) (onward_ok (spFirst r) M0.sets.length (by omega) hov) (by simp [go_sem]) (by simp [go_sem]) (by simp [go_sem]) ?_
      refine QF.nil ?_
      refine PL.appendL (rep := I) (d := 70) (ys := moreL (spFirst r) M0.sets.length) rfl rfl rfl (by simp) selem_30 (by simp [go_sem]) hN.h4 (by simp [go_sem, slI]) (fun _ => rfl) (fun x c hc => by simp [PV.cells] at hc; subst hc; rfl) (by simp [maxLen, moreL, fuseI]; omega) (by simp [moreL, fuseI]; omega) fun q4' H1 a1 o1 => ?_
      have bb := (o1 3 (by omega)).trans hN.b
      repeat (refine PL.k rfl fun KK hKK => ?_; simp [go_sem, stepK, bb, f3]; refine hKK _ ?_; clear hKK KK)
      refine PL.storeA (id := 3) rfl rfl (by simp [dstOk]) (by simp [go_sem]; rfl) bb asz_30 (v := q4') (by simp [go_sem]) (OwnS.okC a1) (OwnS.cells a1) rfl (by simp) rfl fun H2 bst o2 => ?_
      have hN := hN.up4 a1 o1 bst o2
      have b2 := ((o2 2 (by omega)).trans (o1 2 (by omega))).trans b2
      clear bb bst a1
      repeat (first | (refine PC.seq fun K hK => ?_) | (refine PC.block ?_) | (refine PC.region ?_) | (refine PL.k rfl fun KK hKK => ?_; simp (disch := omega) [go_sem, stepK, f12]; refine hKK _ ?_; clear hKK KK) | (refine PL.k rfl fun KK hKK => ?_; simp [go_sem, stepK, f12]; refine hKK _ ?_; clear hKK KK) | (refine PL.g rfl rfl fun KK hKK => ?_; simp (disch := omega) [go_sem, L.stepG, f12]; refine hKK _ ?_; clear hKK KK) | (refine PL.g rfl rfl fun KK hKK => ?_; simp [go_sem, L.stepG, f12]; refine hKK _ ?_; clear hKK KK) | (refine PL.done hK ?_; clear hK) | (refine PC.skip (hK _ _ ?_); clear hK) | (refine PC.condT ?_ ?_; focus (simp [go_sem, f12]; done)) | (refine PC.condF ?_ ?_; focus (simp [go_sem, f12]; done)) | (refine PC.exit ?_; first | (refine hK _ _ ?_; clear hK) | (clear hK; refine hK _ _ ?_; clear hK) | (clear hK; clear hK; refine hK _ _ ?_; clear hK)))
      refine PL.nil ⟨l.length - (k + 1), by omega, k + 1, _, _, _, _, _, by omega, by omega, by simp [go_sem, f0, f2, f3, f11], by simp [go_sem], by rw [hsucc]; exact hN, b2⟩
  · have hlt' : ¬ (k : Int) < l.length := by omega
    have hke : k = l.length := by omega
    subst hke
    have hb := hN.b
    repeat (first | (refine PC.seq fun K hK => ?_) | (refine PC.block ?_) | (refine PC.region ?_) | (refine PL.k rfl fun KK hKK => ?_; simp (disch := omega) [go_sem, stepK, f0, f2, f3, f11, f12, hlt', hb]; refine hKK _ ?_; clear hKK KK) | (refine PL.k rfl fun KK hKK => ?_; simp [go_sem, stepK, f0, f2, f3, f11, f12, hlt', hb]; refine hKK _ ?_; clear hKK KK) | (refine PL.g rfl rfl fun KK hKK => ?_; simp (disch := omega) [go_sem, L.stepG, f0, f2, f3, f11, f12, hlt', hb]; refine hKK _ ?_; clear hKK KK) | (refine PL.g rfl rfl fun KK hKK => ?_; simp [go_sem, L.stepG, f0, f2, f3, f11, f12, hlt', hb]; refine hKK _ ?_; clear hKK KK) | (refine PL.done hK ?_; clear hK) | (refine PC.skip (hK _ _ ?_); clear hK) | (refine PC.condT ?_ ?_; focus (simp [go_sem, f0, f2, f3, f11, f12, hlt', hb]; done)) | (refine PC.condF ?_ ?_; focus (simp [go_sem, f0, f2, f3, f11, f12, hlt', hb]; done)) | (refine PC.exit ?_; first | (refine hK _ _ ?_; clear hK) | (clear hK; refine hK _ _ ?_; clear hK) | (clear hK; clear hK; refine hK _ _ ?_; clear hK)))
    refine PL.storeA (id := 2) (off := 0) rfl rfl (by simp [dstOk]) (by simp [go_sem, f2]) b2 asz_61 (v := .agg [q0, q1, q2, q3, q4]) (by simp [go_sem]) (okC_agg5 hN) rfl rfl (by simp) (cs' := [q0, q1, q2, q3, q4]) rfl fun H5 b5 o5 => ?_
    refine PL.done hK ?_; clear hK
    have hN := hN.mono (H' := H5) fun j hj => o5 j (by omega)
    refine PC.ret ?_
    refine ⟨.inr rfl, .agg [q0, q1, q2, q3, q4], _, ?_, hN.view, netV_noP _, rfl⟩
    simp [resP, resP1, Try.results42, go_sem, f2, b5, setMany]
end Go.Proofs.Ytficeeaaaijgcaa

/-
  The spots of tokens together: chapter 12's reference.
-/
namespace Go.Proofs.Ytficeeaaaijgcaa
open Go Go.RowKit L
set_option linter.unusedVariables false
set_option linter.unusedSimpArgs false

set_option maxRecDepth 20000 in
set_option maxHeartbeats 8000000 in
theorem refFuse_ok (l : List Tok) (hl : l.length ≤ 12) : PCall Try.prog 44 [slT l] (· = netV (fuseL l)) := by
  have cS : ∀ r : List Rx, PCall Try.prog 14 [slX r] (· = slS (spSets r)) := fun r => by have := refSets_ok r; rwa [sets_same] at this
  have cL : ∀ r : List Rx, PCall Try.prog 19 [slX r] (· = slI (spLast r)) := refLast_ok
  refine PCall.intro' Try.func44 rfl Try.ntmps44 (by simp) fun W => ?_
  repeat (first | (refine PC.seq fun K hK => ?_) | (refine PC.block ?_) | (refine PC.region ?_) | (refine PL.k rfl fun KK hKK => ?_; simp (disch := omega) [go_sem, stepK]; refine hKK _ ?_; clear hKK KK) | (refine PL.k rfl fun KK hKK => ?_; simp [go_sem, stepK]; refine hKK _ ?_; clear hKK KK) | (refine PL.g rfl rfl fun KK hKK => ?_; simp (disch := omega) [go_sem, L.stepG]; refine hKK _ ?_; clear hKK KK) | (refine PL.g rfl rfl fun KK hKK => ?_; simp [go_sem, L.stepG]; refine hKK _ ?_; clear hKK KK) | (refine PL.done hK ?_; clear hK) | (refine PC.skip (hK _ _ ?_); clear hK) | (refine PC.condT ?_ ?_; focus (simp [go_sem]; done)) | (refine PC.condF ?_ ?_; focus (simp [go_sem]; done)) | (refine PC.exit ?_; first | (refine hK _ _ ?_; clear hK) | (clear hK; refine hK _ _ ?_; clear hK) | (clear hK; clear hK; refine hK _ _ ?_; clear hK)))
  refine PL.allocA 2 (d := 2) rfl rfl rfl (by simp) zeroC_61 rfl rfl fun v2 H2 bres ores => ?_
  repeat (first | (refine PC.seq fun K hK => ?_) | (refine PC.block ?_) | (refine PC.region ?_) | (refine PL.k rfl fun KK hKK => ?_; simp (disch := omega) [go_sem, stepK]; refine hKK _ ?_; clear hKK KK) | (refine PL.k rfl fun KK hKK => ?_; simp [go_sem, stepK]; refine hKK _ ?_; clear hKK KK) | (refine PL.g rfl rfl fun KK hKK => ?_; simp (disch := omega) [go_sem, L.stepG]; refine hKK _ ?_; clear hKK KK) | (refine PL.g rfl rfl fun KK hKK => ?_; simp [go_sem, L.stepG]; refine hKK _ ?_; clear hKK KK) | (refine PL.done hK ?_; clear hK) | (refine PC.skip (hK _ _ ?_); clear hK) | (refine PC.condT ?_ ?_; focus (simp [go_sem]; done)) | (refine PC.condF ?_ ?_; focus (simp [go_sem]; done)) | (refine PC.exit ?_; first | (refine hK _ _ ?_; clear hK) | (clear hK; refine hK _ _ ?_; clear hK) | (clear hK; clear hK; refine hK _ _ ?_; clear hK)))
  refine PL.allocA 3 (d := 3) rfl rfl rfl (by simp) zeroC_61 rfl rfl fun v H3 b3 o3 => ?_
  refine PL.storeA (id := 3) rfl rfl (by simp [dstOk]) (by simp [go_sem]; rfl) b3 asz_61 (v := .agg [.u (.slice none 0 0), .u (.slice none 0 0), .u (.slice none 0 0), .u (.slice none 0 0), .u (.slice none 0 0)]) (by simp [go_sem]) (by simp [go_sem, okC, leafOk, Value.oneCell']) rfl rfl (by simp) rfl fun H4 b4 o4 => ?_
  have b2 : H4 2 = _ := ((o4 2 (by omega)).trans (o3 2 (by omega))).trans bres
  have hN0 : NetAt H4 v (fuseK l 0) (.u (.slice none 0 0)) (.u (.slice none 0 0)) (.u (.slice none 0 0)) (.u (.slice none 0 0)) (.u (.slice none 0 0)) := ⟨b4, ownL.nil _ _, ownL.nil _ _, ownL.nil _ _, ownL.nil _ _, ownL.nil _ _⟩
  repeat (first | (refine PC.seq fun K hK => ?_) | (refine PC.block ?_) | (refine PC.region ?_) | (refine PL.k rfl fun KK hKK => ?_; simp (disch := omega) [go_sem, stepK]; refine hKK _ ?_; clear hKK KK) | (refine PL.k rfl fun KK hKK => ?_; simp [go_sem, stepK]; refine hKK _ ?_; clear hKK KK) | (refine PL.g rfl rfl fun KK hKK => ?_; simp (disch := omega) [go_sem, L.stepG]; refine hKK _ ?_; clear hKK KK) | (refine PL.g rfl rfl fun KK hKK => ?_; simp [go_sem, L.stepG]; refine hKK _ ?_; clear hKK KK) | (refine PL.done hK ?_; clear hK) | (refine PC.skip (hK _ _ ?_); clear hK) | (refine PC.condT ?_ ?_; focus (simp [go_sem]; done)) | (refine PC.condF ?_ ?_; focus (simp [go_sem]; done)) | (refine PC.exit ?_; first | (refine hK _ _ ?_; clear hK) | (clear hK; refine hK _ _ ?_; clear hK) | (clear hK; clear hK; refine hK _ _ ?_; clear hK)))
  refine PC.loop (fun m F H' => ∃ (k : Nat) (q0 q1 q2 q3 q4 : PV), k ≤ l.length ∧ m = l.length - k ∧ (F 0 = slT l ∧ F 2 = .pp 2 0 v2 ∧ F 3 = .pp 3 0 v) ∧ F 4 = I k ∧ NetAt H' v (fuseK l k) q0 q1 q2 q3 q4 ∧ H' 2 = ⟨v2, some (.box 61 [.u (.slice none 0 0), .u (.slice none 0 0), .u (.slice none 0 0), .u (.slice none 0 0), .u (.slice none 0 0)])⟩) (m := l.length) ⟨0, _, _, _, _, _, by omega, by omega, by simp [go_sem], by simp [go_sem], hN0, b2⟩ fun m F H' hI => ?_
  obtain ⟨k, q0, q1, q2, q3, q4, hk, hm, ⟨f0, f2, f3⟩, f4, hN, b2⟩ := hI
  by_cases hlt : k < l.length
  · have hlt' : (k : Int) < l.length := by omega
    have hsucc := fuseK_succ l k hlt
    have hM := fuseK_b l k
    obtain ⟨tk, etk⟩ : ∃ t, l[k] = t := ⟨_, rfl⟩
    rw [etk] at hsucc
    obtain ⟨r, er⟩ : ∃ r, tk.rex = r := ⟨_, rfl⟩
    rw [er] at hsucc
    have hr := sp_facts r
    have hrn := hr.n
    have hrl := rising_len2 hr.last
    generalize hMM : fuseK l k = M0 at *
    have hMs := hM.s
    have hMo := hM.o
    have hMl := hM.l
    have hMf := hM.f
    have hMt := hM.t
    have h30 := OwnS.len (P := Try.prog) isSlice_24 hN.h0
    have hb := hN.b
    repeat (first | (refine PC.seq fun K hK => ?_) | (refine PC.block ?_) | (refine PC.region ?_) | (refine PL.k rfl fun KK hKK => ?_; simp (disch := omega) [go_sem, stepK, f0, f2, f3, f4, hlt', hlt, etk, er, hb, h30]; refine hKK _ ?_; clear hKK KK) | (refine PL.k rfl fun KK hKK => ?_; simp [go_sem, stepK, f0, f2, f3, f4, hlt', hlt, etk, er, hb, h30]; refine hKK _ ?_; clear hKK KK) | (refine PL.g rfl rfl fun KK hKK => ?_; simp (disch := omega) [go_sem, L.stepG, f0, f2, f3, f4, hlt', hlt, etk, er, hb, h30]; refine hKK _ ?_; clear hKK KK) | (refine PL.g rfl rfl fun KK hKK => ?_; simp [go_sem, L.stepG, f0, f2, f3, f4, hlt', hlt, etk, er, hb, h30]; refine hKK _ ?_; clear hKK KK) | (refine PL.done hK ?_; clear hK) | (refine PC.skip (hK _ _ ?_); clear hK) | (refine PC.condT ?_ ?_; focus (simp [go_sem, f0, f2, f3, f4, hlt', hlt, etk, er, hb, h30]; done)) | (refine PC.condF ?_ ?_; focus (simp [go_sem, f0, f2, f3, f4, hlt', hlt, etk, er, hb, h30]; done)) | (refine PC.exit ?_; first | (refine hK _ _ ?_; clear hK) | (clear hK; refine hK _ _ ?_; clear hK) | (clear hK; clear hK; refine hK _ _ ?_; clear hK)))
    refine PL.callB rfl rfl (by kernel_rfl) (cS r) (by simp [go_sem]) (by simp [go_sem]) (by simp [go_sem]) ?_
    repeat (first | (refine PC.seq fun K hK => ?_) | (refine PC.block ?_) | (refine PC.region ?_) | (refine PL.k rfl fun KK hKK => ?_; simp (disch := omega) [go_sem, stepK, f0, f4, hlt, hlt', etk, er]; refine hKK _ ?_; clear hKK KK) | (refine PL.k rfl fun KK hKK => ?_; simp [go_sem, stepK, f0, f4, hlt, hlt', etk, er]; refine hKK _ ?_; clear hKK KK) | (refine PL.g rfl rfl fun KK hKK => ?_; simp (disch := omega) [go_sem, L.stepG, f0, f4, hlt, hlt', etk, er]; refine hKK _ ?_; clear hKK KK) | (refine PL.g rfl rfl fun KK hKK => ?_; simp [go_sem, L.stepG, f0, f4, hlt, hlt', etk, er]; refine hKK _ ?_; clear hKK KK) | (refine PL.done hK ?_; clear hK) | (refine PC.skip (hK _ _ ?_); clear hK) | (refine PC.condT ?_ ?_; focus (simp [go_sem, f0, f4, hlt, hlt', etk, er]; done)) | (refine PC.condF ?_ ?_; focus (simp [go_sem, f0, f4, hlt, hlt', etk, er]; done)) | (refine PC.exit ?_; first | (refine hK _ _ ?_; clear hK) | (clear hK; refine hK _ _ ?_; clear hK) | (clear hK; clear hK; refine hK _ _ ?_; clear hK)))
    refine PL.callB rfl rfl (by kernel_rfl) (cL r) (by simp [go_sem]) (by simp [go_sem]) (by simp [go_sem]) ?_
    repeat (first | (refine PC.seq fun K hK => ?_) | (refine PC.block ?_) | (refine PC.region ?_) | (refine PL.k rfl fun KK hKK => ?_; simp (disch := omega) [go_sem, stepK]; refine hKK _ ?_; clear hKK KK) | (refine PL.k rfl fun KK hKK => ?_; simp [go_sem, stepK]; refine hKK _ ?_; clear hKK KK) | (refine PL.g rfl rfl fun KK hKK => ?_; simp (disch := omega) [go_sem, L.stepG]; refine hKK _ ?_; clear hKK KK) | (refine PL.g rfl rfl fun KK hKK => ?_; simp [go_sem, L.stepG]; refine hKK _ ?_; clear hKK KK) | (refine PL.done hK ?_; clear hK) | (refine PC.skip (hK _ _ ?_); clear hK) | (refine PC.condT ?_ ?_; focus (simp [go_sem]; done)) | (refine PC.condF ?_ ?_; focus (simp [go_sem]; done)) | (refine PC.exit ?_; first | (refine hK _ _ ?_; clear hK) | (clear hK; refine hK _ _ ?_; clear hK) | (clear hK; clear hK; refine hK _ _ ?_; clear hK)))
    refine PC.loop (fun m F H' => ∃ (i : Nat) (q0 q1 q2 q3 q4 : PV), i ≤ (spSets r).length ∧ m = (spSets r).length - i ∧ (F 0 = slT l ∧ F 2 = .pp 2 0 v2 ∧ F 3 = .pp 3 0 v ∧ F 4 = I k ∧ F 5 = I M0.sets.length ∧ F 6 = slS (spSets r) ∧ F 7 = slI (spLast r)) ∧ F 8 = I i ∧ NetAt H' v (fuseI M0 k r i) q0 q1 q2 q3 q4 ∧ H' 2 = ⟨v2, some (.box 61 [.u (.slice none 0 0), .u (.slice none 0 0), .u (.slice none 0 0), .u (.slice none 0 0), .u (.slice none 0 0)])⟩) (m := (spSets r).length) ⟨0, q0, q1, q2, q3, q4, by omega, by omega, by simp [go_sem, f0, f2, f3, f4], by simp [go_sem], by rw [fuseI_zero]; exact hN, b2⟩ fun m2 F H' hI => ?_
    clear f0 f2 f3 f4 hN b2 hb h30
    obtain ⟨i, q0, q1, q2, q3, q4, hi, hm2, ⟨f0, f2, f3, f4, f5, f6, f7⟩, f8, hN, b2⟩ := hI
    by_cases hli : i < (spSets r).length
    · have hli' : (i : Int) < (spSets r).length := by omega
      have hIs := fuseI_succ M0 k r i hli
      have hfi := hr.fol i
      have hfl := rising_len2 hfi
      obtain ⟨y, ey⟩ : ∃ y, (spSets r)[i] = y := ⟨_, rfl⟩
      rw [ey] at hIs
      have hb := hN.b
      repeat (first | (refine PC.seq fun K hK => ?_) | (refine PC.block ?_) | (refine PC.region ?_) | (refine PL.k rfl fun KK hKK => ?_; simp (disch := omega) [go_sem, stepK, f6, f8, hli, hli']; refine hKK _ ?_; clear hKK KK) | (refine PL.k rfl fun KK hKK => ?_; simp [go_sem, stepK, f6, f8, hli, hli']; refine hKK _ ?_; clear hKK KK) | (refine PL.g rfl rfl fun KK hKK => ?_; simp (disch := omega) [go_sem, L.stepG, f6, f8, hli, hli']; refine hKK _ ?_; clear hKK KK) | (refine PL.g rfl rfl fun KK hKK => ?_; simp [go_sem, L.stepG, f6, f8, hli, hli']; refine hKK _ ?_; clear hKK KK) | (refine PL.done hK ?_; clear hK) | (refine PC.skip (hK _ _ ?_); clear hK) | (refine PC.condT ?_ ?_; focus (simp [go_sem, f6, f8, hli, hli']; done)) | (refine PC.condF ?_ ?_; focus (simp [go_sem, f6, f8, hli, hli']; done)) | (refine PC.exit ?_; first | (refine hK _ _ ?_; clear hK) | (clear hK; refine hK _ _ ?_; clear hK) | (clear hK; clear hK; refine hK _ _ ?_; clear hK)))
      refine PC.regionT 7 mixed (by kernel_rfl) ?_
      repeat (first | (refine QF.k rfl fun KK hKK => ?_; simp (disch := omega) [go_sem, stepK, f3, f6, f8, hli, hli', ey, hb]; refine hKK _ ?_; clear hKK KK) | (refine QF.k rfl fun KK hKK => ?_; simp [go_sem, stepK, f3, f6, f8, hli, hli', ey, hb]; refine hKK _ ?_; clear hKK KK) | (refine QF.g rfl rfl fun KK hKK => ?_; simp (disch := omega) [go_sem, L.stepG, f3, f6, f8, hli, hli', ey, hb]; refine hKK _ ?_; clear hKK KK) | (refine QF.g rfl rfl fun KK hKK => ?_; simp [go_sem, L.stepG, f3, f6, f8, hli, hli', ey, hb]; refine hKK _ ?_; clear hKK KK))
      refine QF.buildSliceA (d := 43) rfl rfl rfl (by simp) selem_24 rfl (by omega) (ips := [(0, encS (y))]) (by simp [go_sem, encS]) (by simp [litOk, go_sem, encS, W64, PV.cells]) (ps := [encS (y)]) rfl ?_
      refine QF.nil ?_
      refine PL.appendL (rep := encS) (d := 44) (ys := [y]) rfl rfl rfl (by simp) selem_24 (by simp [go_sem]) hN.h0 (by simp [go_sem, encS]) (fun _ => rfl) (fun x c hc => by simp [encS, PV.cells] at hc; rcases hc with rfl | rfl | rfl | rfl <;> rfl) (by simp [maxLen, moreL, fuseI]; omega) (by simp [moreL, fuseI]; omega) fun q0' H1 a1 o1 => ?_
      have bb := (o1 3 (by omega)).trans hN.b
      repeat (refine PL.k rfl fun KK hKK => ?_; simp [go_sem, stepK, bb, f3]; refine hKK _ ?_; clear hKK KK)
      refine PL.storeA (id := 3) rfl rfl (by simp [dstOk]) (by simp [go_sem]; rfl) bb asz_24 (v := q0') (by simp [go_sem]) (OwnS.okC a1) (OwnS.cells a1) rfl (by simp) rfl fun H2 bst o2 => ?_
      have hN := hN.up0 a1 o1 bst o2
      have b2 := ((o2 2 (by omega)).trans (o1 2 (by omega))).trans b2
      clear bb bst a1
      refine PL.done hK ?_; clear hK
      have hb := hN.b
      repeat (first | (refine PC.seq fun K hK => ?_) | (refine PC.block ?_) | (refine PC.region ?_) | (refine PL.k rfl fun KK hKK => ?_; simp (disch := omega) [go_sem, stepK, f3, f4, hb]; refine hKK _ ?_; clear hKK KK) | (refine PL.k rfl fun KK hKK => ?_; simp [go_sem, stepK, f3, f4, hb]; refine hKK _ ?_; clear hKK KK) | (refine PL.g rfl rfl fun KK hKK => ?_; simp (disch := omega) [go_sem, L.stepG, f3, f4, hb]; refine hKK _ ?_; clear hKK KK) | (refine PL.g rfl rfl fun KK hKK => ?_; simp [go_sem, L.stepG, f3, f4, hb]; refine hKK _ ?_; clear hKK KK) | (refine PL.done hK ?_; clear hK) | (refine PC.skip (hK _ _ ?_); clear hK) | (refine PC.condT ?_ ?_; focus (simp [go_sem, f3, f4, hb]; done)) | (refine PC.condF ?_ ?_; focus (simp [go_sem, f3, f4, hb]; done)) | (refine PC.exit ?_; first | (refine hK _ _ ?_; clear hK) | (clear hK; refine hK _ _ ?_; clear hK) | (clear hK; clear hK; refine hK _ _ ?_; clear hK)))
      refine PL.buildSliceR (d := 49) rfl rfl rfl (by simp) selem_30 rfl (by omega) (ips := [(0, I ((k : Int)))]) (by simp [go_sem, encS]) (by simp [litOk, go_sem, okC]) (ps := [I ((k : Int))]) rfl ?_
      refine PL.appendL (rep := I) (d := 50) (ys := [(k : Int)]) rfl rfl rfl (by simp) selem_30 (by simp [go_sem]) hN.h1 (by simp [go_sem, encS]) (fun _ => rfl) (fun x c hc => by simp [PV.cells] at hc; subst hc; rfl) (by simp [maxLen, moreL, fuseI]; omega) (by simp [moreL, fuseI]; omega) fun q1' H1 a1 o1 => ?_
      have bb := (o1 3 (by omega)).trans hN.b
      repeat (refine PL.k rfl fun KK hKK => ?_; simp [go_sem, stepK, bb, f3]; refine hKK _ ?_; clear hKK KK)
      refine PL.storeA (id := 3) rfl rfl (by simp [dstOk]) (by simp [go_sem]; rfl) bb asz_30 (v := q1') (by simp [go_sem]) (OwnS.okC a1) (OwnS.cells a1) rfl (by simp) rfl fun H2 bst o2 => ?_
      have hN := hN.up1 a1 o1 bst o2
      have b2 := ((o2 2 (by omega)).trans (o1 2 (by omega))).trans b2
      clear bb bst a1
      refine PL.done hK ?_; clear hK
      have hb := hN.b
      repeat (first | (refine PC.seq fun K hK => ?_) | (refine PC.block ?_) | (refine PC.region ?_) | (refine PL.k rfl fun KK hKK => ?_; simp (disch := omega) [go_sem, stepK]; refine hKK _ ?_; clear hKK KK) | (refine PL.k rfl fun KK hKK => ?_; simp [go_sem, stepK]; refine hKK _ ?_; clear hKK KK) | (refine PL.g rfl rfl fun KK hKK => ?_; simp (disch := omega) [go_sem, L.stepG]; refine hKK _ ?_; clear hKK KK) | (refine PL.g rfl rfl fun KK hKK => ?_; simp [go_sem, L.stepG]; refine hKK _ ?_; clear hKK KK) | (refine PL.done hK ?_; clear hK) | (refine PC.skip (hK _ _ ?_); clear hK) | (refine PC.condT ?_ ?_; focus (simp [go_sem]; done)) | (refine PC.condF ?_ ?_; focus (simp [go_sem]; done)) | (refine PC.exit ?_; first | (refine hK _ _ ?_; clear hK) | (clear hK; refine hK _ _ ?_; clear hK) | (clear hK; clear hK; refine hK _ _ ?_; clear hK)))
      refine PC.regionT 6 mixed (by kernel_rfl) ?_
      repeat (first | (refine QF.k rfl fun KK hKK => ?_; simp (disch := omega) [go_sem, stepK, f3, f7, f8, hb]; refine hKK _ ?_; clear hKK KK) | (refine QF.k rfl fun KK hKK => ?_; simp [go_sem, stepK, f3, f7, f8, hb]; refine hKK _ ?_; clear hKK KK) | (refine QF.g rfl rfl fun KK hKK => ?_; simp (disch := omega) [go_sem, L.stepG, f3, f7, f8, hb]; refine hKK _ ?_; clear hKK KK) | (refine QF.g rfl rfl fun KK hKK => ?_; simp [go_sem, L.stepG, f3, f7, f8, hb]; refine hKK _ ?_; clear hKK KK))
      refine QF.callB rfl rfl (by kernel_rfl) (ref11Has_ok (spLast r) i (by omega)) (by simp [go_sem]) (by simp [go_sem]) (by simp [go_sem]) ?_
      refine QF.buildSliceA (d := 57) rfl rfl rfl (by simp) selem_51 rfl (by omega) (ips := [(0, B (decide ((i : Int) ∈ spLast r)))]) (by simp [go_sem, encS]) (by simp [litOk, go_sem, okC]) (ps := [B (decide ((i : Int) ∈ spLast r))]) rfl ?_
      refine QF.nil ?_
      refine PL.appendL (rep := B) (d := 58) (ys := [decide ((i : Int) ∈ spLast r)]) rfl rfl rfl (by simp) selem_51 (by simp [go_sem]) hN.h2 (by simp [go_sem, encS]) (fun _ => rfl) (fun x c hc => by simp [PV.cells] at hc; subst hc; rfl) (by simp [maxLen, moreL, fuseI]; omega) (by simp [moreL, fuseI]; omega) fun q2' H1 a1 o1 => ?_
      have bb := (o1 3 (by omega)).trans hN.b
      repeat (refine PL.k rfl fun KK hKK => ?_; simp [go_sem, stepK, bb, f3]; refine hKK _ ?_; clear hKK KK)
      refine PL.storeA (id := 3) rfl rfl (by simp [dstOk]) (by simp [go_sem]; rfl) bb asz_51 (v := q2') (by simp [go_sem]) (OwnS.okC a1) (OwnS.cells a1) rfl (by simp) rfl fun H2 bst o2 => ?_
      have hN := hN.up2 a1 o1 bst o2
      have b2 := ((o2 2 (by omega)).trans (o1 2 (by omega))).trans b2
      clear bb bst a1
      refine PL.done hK ?_; clear hK
      have hb := hN.b
      have hov : ∀ x ∈ spFollow r i, -9223372036854775808 ≤ x + (M0.sets.length : Int) ∧ x + (M0.sets.length : Int) ≤ 9223372036854775807 := fun x hx => by have := hfi.2 x hx; omega
      repeat (first | (refine PC.seq fun K hK => ?_) | (refine PC.block ?_) | (refine PC.region ?_) | (refine PL.k rfl fun KK hKK => ?_; simp (disch := omega) [go_sem, stepK]; refine hKK _ ?_; clear hKK KK) | (refine PL.k rfl fun KK hKK => ?_; simp [go_sem, stepK]; refine hKK _ ?_; clear hKK KK) | (refine PL.g rfl rfl fun KK hKK => ?_; simp (disch := omega) [go_sem, L.stepG]; refine hKK _ ?_; clear hKK KK) | (refine PL.g rfl rfl fun KK hKK => ?_; simp [go_sem, L.stepG]; refine hKK _ ?_; clear hKK KK) | (refine PL.done hK ?_; clear hK) | (refine PC.skip (hK _ _ ?_); clear hK) | (refine PC.condT ?_ ?_; focus (simp [go_sem]; done)) | (refine PC.condF ?_ ?_; focus (simp [go_sem]; done)) | (refine PC.exit ?_; first | (refine hK _ _ ?_; clear hK) | (clear hK; refine hK _ _ ?_; clear hK) | (clear hK; clear hK; refine hK _ _ ?_; clear hK)))
      refine PC.regionT 12 mixed (by kernel_rfl) ?_
      repeat (first | (refine QF.k rfl fun KK hKK => ?_; simp (disch := omega) [go_sem, stepK, f0, f3, f4, f8, hlt, hlt', etk, er, hb]; refine hKK _ ?_; clear hKK KK) | (refine QF.k rfl fun KK hKK => ?_; simp [go_sem, stepK, f0, f3, f4, f8, hlt, hlt', etk, er, hb]; refine hKK _ ?_; clear hKK KK) | (refine QF.g rfl rfl fun KK hKK => ?_; simp (disch := omega) [go_sem, L.stepG, f0, f3, f4, f8, hlt, hlt', etk, er, hb]; refine hKK _ ?_; clear hKK KK) | (refine QF.g rfl rfl fun KK hKK => ?_; simp [go_sem, L.stepG, f0, f3, f4, f8, hlt, hlt', etk, er, hb]; refine hKK _ ?_; clear hKK KK))
      refine QF.callB rfl rfl (by kernel_rfl) (refFollow_ok r i) (by simp [go_sem]) (by simp [go_sem]) (by simp [go_sem]) ?_
      repeat (first | (refine QF.k rfl fun KK hKK => ?_; simp (disch := omega) [go_sem, stepK, f5]; refine hKK _ ?_; clear hKK KK) | (refine QF.k rfl fun KK hKK => ?_; simp [go_sem, stepK, f5]; refine hKK _ ?_; clear hKK KK) | (refine QF.g rfl rfl fun KK hKK => ?_; simp (disch := omega) [go_sem, L.stepG, f5]; refine hKK _ ?_; clear hKK KK) | (refine QF.g rfl rfl fun KK hKK => ?_; simp [go_sem, L.stepG, f5]; refine hKK _ ?_; clear hKK KK))
      refine QF.callB rfl rfl (by kernel_rfl) (moved_ok (spFollow r i) M0.sets.length (by omega) hov) (by simp [go_sem]) (by simp [go_sem]) (by simp [go_sem]) ?_
      refine QF.buildSliceA (d := 71) rfl rfl rfl (by simp) selem_44 rfl (by omega) (ips := [(0, slI (moreL (spFollow r i) M0.sets.length))]) (by simp [go_sem, encS]) (by simp [litOk, go_sem]) (ps := [slI (moreL (spFollow r i) M0.sets.length)]) rfl ?_
      refine QF.nil ?_
      refine PL.appendL (rep := slI) (d := 72) (ys := [moreL (spFollow r i) M0.sets.length]) rfl rfl rfl (by simp) selem_44 (by simp [go_sem]) hN.h3 (by simp [go_sem, encS]) (fun _ => rfl) (fun x c hc => by simp [go_sem] at hc; subst hc; rfl) (by simp [maxLen, moreL, fuseI]; omega) (by simp [moreL, fuseI]; omega) fun q3' H1 a1 o1 => ?_
      have bb := (o1 3 (by omega)).trans hN.b
      repeat (refine PL.k rfl fun KK hKK => ?_; simp [go_sem, stepK, bb, f3]; refine hKK _ ?_; clear hKK KK)
      refine PL.storeA (id := 3) rfl rfl (by simp [dstOk]) (by simp [go_sem]; rfl) bb asz_44 (v := q3') (by simp [go_sem]) (OwnS.okC a1) (OwnS.cells a1) rfl (by simp) rfl fun H2 bst o2 => ?_
      have hN := hN.up3 a1 o1 bst o2
      have b2 := ((o2 2 (by omega)).trans (o1 2 (by omega))).trans b2
      clear bb bst a1
      repeat (first | (refine PC.seq fun K hK => ?_) | (refine PC.block ?_) | (refine PC.region ?_) | (refine PL.k rfl fun KK hKK => ?_; simp (disch := omega) [go_sem, stepK, f8]; refine hKK _ ?_; clear hKK KK) | (refine PL.k rfl fun KK hKK => ?_; simp [go_sem, stepK, f8]; refine hKK _ ?_; clear hKK KK) | (refine PL.g rfl rfl fun KK hKK => ?_; simp (disch := omega) [go_sem, L.stepG, f8]; refine hKK _ ?_; clear hKK KK) | (refine PL.g rfl rfl fun KK hKK => ?_; simp [go_sem, L.stepG, f8]; refine hKK _ ?_; clear hKK KK) | (refine PL.done hK ?_; clear hK) | (refine PC.skip (hK _ _ ?_); clear hK) | (refine PC.condT ?_ ?_; focus (simp [go_sem, f8]; done)) | (refine PC.condF ?_ ?_; focus (simp [go_sem, f8]; done)) | (refine PC.exit ?_; first | (refine hK _ _ ?_; clear hK) | (clear hK; refine hK _ _ ?_; clear hK) | (clear hK; clear hK; refine hK _ _ ?_; clear hK)))
      rw [← hIs] at hN
      refine PL.nil ⟨(spSets r).length - (i + 1), by omega, i + 1, _, _, _, _, _, by omega, by omega, by simp [go_sem, f0, f2, f3, f4, f5, f6, f7], by simp [go_sem], hN, b2⟩
    · have hli' : ¬ (i : Int) < (spSets r).length := by omega
      have hie : i = (spSets r).length := by omega
      subst hie
      have hb := hN.b
      have hrf := rising_len2 hr.first
      have hov : ∀ x ∈ spFirst r, -9223372036854775808 ≤ x + (M0.sets.length : Int) ∧ x + (M0.sets.length : Int) ≤ 9223372036854775807 := fun x hx => by have := hr.first.2 x hx; omega
      repeat (first | (refine PC.seq fun K hK => ?_) | (refine PC.block ?_) | (refine PC.region ?_) | (refine PL.k rfl fun KK hKK => ?_; simp (disch := omega) [go_sem, stepK, f6, f8, hli']; refine hKK _ ?_; clear hKK KK) | (refine PL.k rfl fun KK hKK => ?_; simp [go_sem, stepK, f6, f8, hli']; refine hKK _ ?_; clear hKK KK) | (refine PL.g rfl rfl fun KK hKK => ?_; simp (disch := omega) [go_sem, L.stepG, f6, f8, hli']; refine hKK _ ?_; clear hKK KK) | (refine PL.g rfl rfl fun KK hKK => ?_; simp [go_sem, L.stepG, f6, f8, hli']; refine hKK _ ?_; clear hKK KK) | (refine PL.done hK ?_; clear hK) | (refine PC.skip (hK _ _ ?_); clear hK) | (refine PC.condT ?_ ?_; focus (simp [go_sem, f6, f8, hli']; done)) | (refine PC.condF ?_ ?_; focus (simp [go_sem, f6, f8, hli']; done)) | (refine PC.exit ?_; first | (refine hK _ _ ?_; clear hK) | (clear hK; refine hK _ _ ?_; clear hK) | (clear hK; clear hK; refine hK _ _ ?_; clear hK)))
      refine PC.regionT 10 mixed (by kernel_rfl) ?_
      repeat (first | (refine QF.k rfl fun KK hKK => ?_; simp (disch := omega) [go_sem, stepK, f0, f3, f4, hlt, hlt', etk, er, hb]; refine hKK _ ?_; clear hKK KK) | (refine QF.k rfl fun KK hKK => ?_; simp [go_sem, stepK, f0, f3, f4, hlt, hlt', etk, er, hb]; refine hKK _ ?_; clear hKK KK) | (refine QF.g rfl rfl fun KK hKK => ?_; simp (disch := omega) [go_sem, L.stepG, f0, f3, f4, hlt, hlt', etk, er, hb]; refine hKK _ ?_; clear hKK KK) | (refine QF.g rfl rfl fun KK hKK => ?_; simp [go_sem, L.stepG, f0, f3, f4, hlt, hlt', etk, er, hb]; refine hKK _ ?_; clear hKK KK))
      refine QF.callB rfl rfl (by kernel_rfl) (refFirst_ok r) (by simp [go_sem]) (by simp [go_sem]) (by simp [go_sem]) ?_
      repeat (first | (refine QF.k rfl fun KK hKK => ?_; simp (disch := omega) [go_sem, stepK, f5]; refine hKK _ ?_; clear hKK KK) | (refine QF.k rfl fun KK hKK => ?_; simp [go_sem, stepK, f5]; refine hKK _ ?_; clear hKK KK) | (refine QF.g rfl rfl fun KK hKK => ?_; simp (disch := omega) [go_sem, L.stepG, f5]; refine hKK _ ?_; clear hKK KK) | (refine QF.g rfl rfl fun KK hKK => ?_; simp [go_sem, L.stepG, f5]; refine hKK _ ?_; clear hKK KK))
      refine QF.callB rfl rfl (by kernel_rfl) (moved_ok (spFirst r) M0.sets.length (by omega) hov) (by simp [go_sem]) (by simp [go_sem]) (by simp [go_sem]) ?_
      refine QF.nil ?_
      refine PL.appendL (rep := I) (d := 84) (ys := moreL (spFirst r) M0.sets.length) rfl rfl rfl (by simp) selem_30 (by simp [go_sem]) hN.h4 (by simp [go_sem, slI]) (fun _ => rfl) (fun x c hc => by simp [PV.cells] at hc; subst hc; rfl) (by simp [maxLen, moreL, fuseI]; omega) (by simp [moreL, fuseI]; omega) fun q4' H1 a1 o1 => ?_
      have bb := (o1 3 (by omega)).trans hN.b
      repeat (refine PL.k rfl fun KK hKK => ?_; simp [go_sem, stepK, bb, f3]; refine hKK _ ?_; clear hKK KK)
      refine PL.storeA (id := 3) rfl rfl (by simp [dstOk]) (by simp [go_sem]; rfl) bb asz_30 (v := q4') (by simp [go_sem]) (OwnS.okC a1) (OwnS.cells a1) rfl (by simp) rfl fun H2 bst o2 => ?_
      have hN := hN.up4 a1 o1 bst o2
      have b2 := ((o2 2 (by omega)).trans (o1 2 (by omega))).trans b2
      clear bb bst a1
      repeat (first | (refine PC.seq fun K hK => ?_) | (refine PC.block ?_) | (refine PC.region ?_) | (refine PL.k rfl fun KK hKK => ?_; simp (disch := omega) [go_sem, stepK, f4]; refine hKK _ ?_; clear hKK KK) | (refine PL.k rfl fun KK hKK => ?_; simp [go_sem, stepK, f4]; refine hKK _ ?_; clear hKK KK) | (refine PL.g rfl rfl fun KK hKK => ?_; simp (disch := omega) [go_sem, L.stepG, f4]; refine hKK _ ?_; clear hKK KK) | (refine PL.g rfl rfl fun KK hKK => ?_; simp [go_sem, L.stepG, f4]; refine hKK _ ?_; clear hKK KK) | (refine PL.done hK ?_; clear hK) | (refine PC.skip (hK _ _ ?_); clear hK) | (refine PC.condT ?_ ?_; focus (simp [go_sem, f4]; done)) | (refine PC.condF ?_ ?_; focus (simp [go_sem, f4]; done)) | (refine PC.exit ?_; first | (refine hK _ _ ?_; clear hK) | (clear hK; refine hK _ _ ?_; clear hK) | (clear hK; clear hK; refine hK _ _ ?_; clear hK)))
      refine PL.nil ⟨l.length - (k + 1), by omega, k + 1, _, _, _, _, _, by omega, by omega, by simp [go_sem, f0, f2, f3], by simp [go_sem], by rw [hsucc]; exact hN, b2⟩
  · have hlt' : ¬ (k : Int) < l.length := by omega
    have hke : k = l.length := by omega
    subst hke
    have hb := hN.b
    repeat (first | (refine PC.seq fun K hK => ?_) | (refine PC.block ?_) | (refine PC.region ?_) | (refine PL.k rfl fun KK hKK => ?_; simp (disch := omega) [go_sem, stepK, f0, f2, f3, f4, hlt', hb]; refine hKK _ ?_; clear hKK KK) | (refine PL.k rfl fun KK hKK => ?_; simp [go_sem, stepK, f0, f2, f3, f4, hlt', hb]; refine hKK _ ?_; clear hKK KK) | (refine PL.g rfl rfl fun KK hKK => ?_; simp (disch := omega) [go_sem, L.stepG, f0, f2, f3, f4, hlt', hb]; refine hKK _ ?_; clear hKK KK) | (refine PL.g rfl rfl fun KK hKK => ?_; simp [go_sem, L.stepG, f0, f2, f3, f4, hlt', hb]; refine hKK _ ?_; clear hKK KK) | (refine PL.done hK ?_; clear hK) | (refine PC.skip (hK _ _ ?_); clear hK) | (refine PC.condT ?_ ?_; focus (simp [go_sem, f0, f2, f3, f4, hlt', hb]; done)) | (refine PC.condF ?_ ?_; focus (simp [go_sem, f0, f2, f3, f4, hlt', hb]; done)) | (refine PC.exit ?_; first | (refine hK _ _ ?_; clear hK) | (clear hK; refine hK _ _ ?_; clear hK) | (clear hK; clear hK; refine hK _ _ ?_; clear hK)))
    refine PL.storeA (id := 2) (off := 0) rfl rfl (by simp [dstOk]) (by simp [go_sem, f2]) b2 asz_61 (v := .agg [q0, q1, q2, q3, q4]) (by simp [go_sem]) (okC_agg5 hN) rfl rfl (by simp) (cs' := [q0, q1, q2, q3, q4]) rfl fun H5 b5 o5 => ?_
    refine PL.done hK ?_; clear hK
    have hN := hN.mono (H' := H5) fun j hj => o5 j (by omega)
    refine PC.ret ?_
    refine ⟨.inr rfl, .agg [q0, q1, q2, q3, q4], _, ?_, hN.view, netV_noP _, rfl⟩
    simp [resP, resP1, Try.results44, go_sem, f2, b5, setMany]
end Go.Proofs.Ytficeeaaaijgcaa

/-
  The example of chapter 12, over pure values.
-/
namespace Go.Proofs.Ytficeeaaaijgcaa
open Go Go.RowKit L
set_option linter.unusedVariables false
set_option linter.unusedSimpArgs false

def rexA : List Rx := [⟨1, 0, 8589934592, 0, 0⟩, ⟨6, 0, 0, 0, 0⟩]
def rexB : List Rx := [⟨1, 0, 8589934592, 0, 0⟩, ⟨1, 0, 17179869184, 0, 0⟩, ⟨3, 0, 0, 0, 0⟩]
def two12 : List Tok := [⟨⟨#[120]⟩, rexA, 0⟩, ⟨⟨#[121]⟩, rexB, 0⟩]

set_option maxRecDepth 100000 in
theorem two_ok : PCall Try.prog 77 [] (· = slT two12) :=
  funE_sound (P := Try.prog) (more := fun _ _ => none) (fun _ _ _ h => by cases h) mixed (fuel := 100000) (r := .ro (slT two12)) (by kernel_rfl)

def net12 : Net := ⟨[⟨1, 0, 8589934592, 0, 0⟩, ⟨1, 0, 8589934592, 0, 0⟩, ⟨1, 0, 17179869184, 0, 0⟩], [0, 1, 1], [true, false, true], [[0], [2], []], [0, 1]⟩
theorem net12_eq : fuseL two12 = net12 := by kernel_rfl
theorem r1 : runK net12 ⟨#[97]⟩ 1 = [0, 1] := by decide +kernel
theorem r2 : runK net12 ⟨#[97, 98]⟩ 2 = [2] := by decide +kernel
theorem r3 : runK net12 ⟨#[98]⟩ 1 = [] := by decide +kernel
theorem r4 : tokN net12 [2] = 1 := by decide +kernel
end Go.Proofs.Ytficeeaaaijgcaa

/-
  The example of chapter 12, over pure values: knows.
-/
namespace Go.Proofs.Ytficeeaaaijgcaa
open Go Go.RowKit L
set_option linter.unusedVariables false
set_option linter.unusedSimpArgs false

theorem net12_nb : Nb net12 := ⟨by decide, by decide, by decide, by decide, by decide, by decide⟩
theorem net12_nn : ∀ x ∈ net12.sets, x.nn := by
  intro x hx
  simp [net12] at hx
  rcases hx with rfl | rfl <;> exact ⟨by decide, by decide, by decide, by decide⟩
theorem run1 (w : ByteArray) (r : List Int) (hw : w.size ≤ 1000) (h : runK net12 w w.size = r) : PCall Try.prog 46 [netV net12, S w] (· = slI r) := by
  have := fuseRun_ok net12 w hw net12_nb (fun _ => by decide) net12_nn
  rwa [h] at this

set_option maxRecDepth 20000 in
set_option maxHeartbeats 4000000 in
theorem knows12_ok : PCall Try.prog 41 [] (· = B true) := by
  have cF := fuseFuse_ok two12 (by decide)
  rw [net12_eq] at cF
  have c1 := run1 ⟨#[97]⟩ [0, 1] (by decide) r1
  have c2 := run1 ⟨#[97, 98]⟩ [2] (by decide) r2
  have c3 := run1 ⟨#[98]⟩ [] (by decide) r3
  have c4 := fuseToken_ok net12 [2] (by decide) net12_nb
  rw [r4] at c4
  have s1 := ref11Same_ok [0, 1] [0, 1] (by decide) (by decide)
  have s2 := ref11Same_ok [2] [2] (by decide) (by decide)
  have nN := netV_noP net12
  refine PCall.intro' Try.func41 rfl Try.ntmps41 (by simp) fun W => ?_
  repeat (first | (refine PC.seq fun K hK => ?_) | (refine PC.block ?_) | (refine PC.region ?_) | (refine PL.k rfl fun KK hKK => ?_; simp (disch := omega) [go_sem, stepK]; refine hKK _ ?_; clear hKK KK) | (refine PL.k rfl fun KK hKK => ?_; simp [go_sem, stepK]; refine hKK _ ?_; clear hKK KK) | (refine PL.g rfl rfl fun KK hKK => ?_; simp (disch := omega) [go_sem, L.stepG]; refine hKK _ ?_; clear hKK KK) | (refine PL.g rfl rfl fun KK hKK => ?_; simp [go_sem, L.stepG]; refine hKK _ ?_; clear hKK KK) | (refine PL.done hK ?_; clear hK) | (refine PC.skip (hK _ _ ?_); clear hK) | (refine PC.condT ?_ ?_; focus (simp [go_sem]; done)) | (refine PC.condF ?_ ?_; focus (simp [go_sem]; done)) | (refine PC.exit ?_; first | (refine hK _ _ ?_; clear hK) | (clear hK; refine hK _ _ ?_; clear hK) | (clear hK; clear hK; refine hK _ _ ?_; clear hK)))
  refine PL.callB rfl rfl (by kernel_rfl) two_ok (by simp [go_sem]) (by simp [go_sem]) (by simp [go_sem]) ?_
  refine PL.callB rfl rfl (by kernel_rfl) cF (by simp [go_sem]) (by simp [go_sem]) (by simp [go_sem]) ?_
  generalize hn : net12 = n12 at *
  refine PL.allocA 1 (d := 1) rfl rfl rfl (by simp) zeroC_61 rfl rfl fun v1 H1 b1 o1 => ?_
  refine PL.storeA (id := 1) (off := 0) rfl rfl (by simp [dstOk]) (by simp [go_sem]) b1 asz_61 (v := netV n12) (by simp [go_sem]) (by simp [go_sem, okC]) rfl (by simp [go_sem]) (by simp) (cs' := [slS n12.sets, slI n12.of_, slB n12.last, slLL n12.follow, slI n12.first]) rfl fun H2 b2 o2 => ?_
  repeat (first | (refine PC.seq fun K hK => ?_) | (refine PC.block ?_) | (refine PC.region ?_) | (refine PL.k rfl fun KK hKK => ?_; simp (disch := omega) [go_sem, stepK]; refine hKK _ ?_; clear hKK KK) | (refine PL.k rfl fun KK hKK => ?_; simp [go_sem, stepK]; refine hKK _ ?_; clear hKK KK) | (refine PL.g rfl rfl fun KK hKK => ?_; simp (disch := omega) [go_sem, L.stepG]; refine hKK _ ?_; clear hKK KK) | (refine PL.g rfl rfl fun KK hKK => ?_; simp [go_sem, L.stepG]; refine hKK _ ?_; clear hKK KK) | (refine PL.done hK ?_; clear hK) | (refine PC.skip (hK _ _ ?_); clear hK) | (refine PC.condT ?_ ?_; focus (simp [go_sem]; done)) | (refine PC.condF ?_ ?_; focus (simp [go_sem]; done)) | (refine PC.exit ?_; first | (refine hK _ _ ?_; clear hK) | (clear hK; refine hK _ _ ?_; clear hK) | (clear hK; clear hK; refine hK _ _ ?_; clear hK)))
  refine PC.regionQ mixed (by kernel_rfl) ?_
  repeat (first | (refine QF.k rfl fun KK hKK => ?_; simp (disch := omega) [go_sem, stepK, b2]; refine hKK _ ?_; clear hKK KK) | (refine QF.k rfl fun KK hKK => ?_; simp [go_sem, stepK, b2]; refine hKK _ ?_; clear hKK KK) | (refine QF.g rfl rfl fun KK hKK => ?_; simp (disch := omega) [go_sem, L.stepG, b2]; refine hKK _ ?_; clear hKK KK) | (refine QF.g rfl rfl fun KK hKK => ?_; simp [go_sem, L.stepG, b2]; refine hKK _ ?_; clear hKK KK))
  refine QF.callB rfl rfl (by kernel_rfl) c1 (by simp [go_sem]) (by simp [go_sem]) (by simp [go_sem]) ?_
  refine QF.buildSliceA (d := 6) rfl rfl rfl (by simp) selem_30 rfl (by omega) (ips := [(0, I 0), (1, I 1)]) (by simp [go_sem]) (by simp [litOk, go_sem, okC]) (ps := [I 0, I 1]) rfl ?_
  refine QF.callB rfl rfl (by kernel_rfl) s1 (by simp [go_sem]) (by simp [go_sem]) (by simp [go_sem, slI]) ?_
  repeat (first | (refine QF.k rfl fun KK hKK => ?_; simp (disch := omega) [go_sem, stepK, b2]; refine hKK _ ?_; clear hKK KK) | (refine QF.k rfl fun KK hKK => ?_; simp [go_sem, stepK, b2]; refine hKK _ ?_; clear hKK KK) | (refine QF.g rfl rfl fun KK hKK => ?_; simp (disch := omega) [go_sem, L.stepG, b2]; refine hKK _ ?_; clear hKK KK) | (refine QF.g rfl rfl fun KK hKK => ?_; simp [go_sem, L.stepG, b2]; refine hKK _ ?_; clear hKK KK))
  refine QF.callg rfl rfl (by simp [go_sem]) (by simp [dstOk]) (PQ.callB rfl (target_func _ _ _) (by kernel_rfl) (by simp [go_sem]) (by simp [go_sem]) c2) ?_
  refine QF.callg rfl rfl (by simp [go_sem]) (by simp [dstOk]) (PQ.buildSlice (ht := selem_30) rfl rfl (by omega) (by simp [litOk, go_sem, okC])) ?_
  refine QF.callg rfl rfl (by simp [go_sem]) (by simp [dstOk]) (PQ.callB rfl (target_func _ _ _) (by kernel_rfl) (qs := [slI [2], slI [2]]) (by simp [go_sem, slI]) (by simp [go_sem]) s2) ?_
  repeat (first | (refine QF.k rfl fun KK hKK => ?_; simp (disch := omega) [go_sem, stepK, b2]; refine hKK _ ?_; clear hKK KK) | (refine QF.k rfl fun KK hKK => ?_; simp [go_sem, stepK, b2]; refine hKK _ ?_; clear hKK KK) | (refine QF.g rfl rfl fun KK hKK => ?_; simp (disch := omega) [go_sem, L.stepG, b2]; refine hKK _ ?_; clear hKK KK) | (refine QF.g rfl rfl fun KK hKK => ?_; simp [go_sem, L.stepG, b2]; refine hKK _ ?_; clear hKK KK))
  refine QF.callg rfl rfl (by simp [go_sem]) (by simp [dstOk]) (PQ.callB rfl (target_func _ _ _) (by kernel_rfl) (by simp [go_sem]) (by simp [go_sem]) c2) ?_
  refine QF.callg rfl rfl (by simp [go_sem]) (by simp [dstOk]) (PQ.callB rfl (target_func _ _ _) (by kernel_rfl) (qs := [netV n12, slI [2]]) (by simp [go_sem]) (by simp [go_sem]) c4) ?_
  repeat (first | (refine QF.k rfl fun KK hKK => ?_; simp (disch := omega) [go_sem, stepK, b2]; refine hKK _ ?_; clear hKK KK) | (refine QF.k rfl fun KK hKK => ?_; simp [go_sem, stepK, b2]; refine hKK _ ?_; clear hKK KK) | (refine QF.g rfl rfl fun KK hKK => ?_; simp (disch := omega) [go_sem, L.stepG, b2]; refine hKK _ ?_; clear hKK KK) | (refine QF.g rfl rfl fun KK hKK => ?_; simp [go_sem, L.stepG, b2]; refine hKK _ ?_; clear hKK KK))
  refine QF.callg rfl rfl (by simp [go_sem]) (by simp [dstOk]) (PQ.callB rfl (target_func _ _ _) (by kernel_rfl) (by simp [go_sem]) (by simp [go_sem]) c3) ?_
  repeat (first | (refine QF.k rfl fun KK hKK => ?_; simp (disch := omega) [go_sem, stepK]; refine hKK _ ?_; clear hKK KK) | (refine QF.k rfl fun KK hKK => ?_; simp [go_sem, stepK]; refine hKK _ ?_; clear hKK KK) | (refine QF.g rfl rfl fun KK hKK => ?_; simp (disch := omega) [go_sem, L.stepG]; refine hKK _ ?_; clear hKK KK) | (refine QF.g rfl rfl fun KK hKK => ?_; simp [go_sem, L.stepG]; refine hKK _ ?_; clear hKK KK))
  refine QF.done hK ?_; clear hK
  (refine PC.ret ?_; refine fin (.inr rfl) (by simp [resP, resP1, Try.results41, go_sem]) (by simp [go_sem]))
end Go.Proofs.Ytficeeaaaijgcaa

/-
  What is small enough for the laws of chapter 12, over pure values.
-/
namespace Go.Proofs.Ytficeeaaaijgcaa
open Go Go.RowKit L
set_option linter.unusedVariables false
set_option linter.unusedSimpArgs false

def sumMin : List Nat → Nat
  | [] => 0
  | x :: l => min x 1000 + sumMin l
theorem sumMin_snoc (l : List Nat) (x : Nat) : sumMin (l ++ [x]) = sumMin l + min x 1000 := by
  induction l with
  | nil => simp [sumMin]
  | cons y l ih => simp only [List.cons_append, sumMin, ih]; omega
theorem sumMin_take (l : List Nat) (k : Nat) (h : k < l.length) : sumMin (l.take (k + 1)) = sumMin (l.take k) + min l[k] 1000 := by
  rw [List.take_succ_eq_append_getElem h, sumMin_snoc]
theorem sumMin_le (l : List Nat) : sumMin l ≤ l.length * 1000 := by
  induction l with
  | nil => simp [sumMin]
  | cons y l ih => simp only [sumMin, List.length_cons]; omega
theorem sumMin_mem (l : List Nat) (x : Nat) (h : x ∈ l) : min x 1000 ≤ sumMin l := by
  induction l with
  | nil => cases h
  | cons y l ih =>
    simp only [sumMin]
    rcases List.mem_cons.1 h with rfl | h
    · omega
    · have := ih h; omega

abbrev w64 (z : Int) : Int := IntKind.i64.wrap z
/-- the sum as the program makes it: it may turn over -/
def sumW (n : Net) (fs : List (List Int)) : Int := fs.foldl (fun z f => w64 (z + min (f.length : Int) 1000)) (w64 (w64 (w64 (n.first.length + n.of_.length) + n.last.length) + n.sets.length))
theorem sumW_succ (n : Net) (k : Nat) (h : k < n.follow.length) : sumW n (n.follow.take (k + 1)) = w64 (sumW n (n.follow.take k) + min (n.follow[k].length : Int) 1000) := by
  unfold sumW; rw [List.take_succ_eq_append_getElem h, List.foldl_append]; rfl
def smallN (n : Net) : Bool := decide (n.follow.length ≤ 60) && decide (sumW n n.follow ≤ 400)

set_option maxRecDepth 20000 in
set_option maxHeartbeats 2000000 in
theorem small_ok (n : Net) (hf : n.follow.length ≤ 9223372036854775807) : PCall Try.prog 48 [netV n] (· = B (smallN n)) := by
  refine PCall.intro' Try.func48 rfl Try.ntmps48 (by simp) fun W => ?_
  refine PC.seq fun K hK => ?_
  refine PC.region ?_
  refine PL.boxA 1 (d := 1) rfl rfl rfl (by simp) (v := netV n) (by simp [go_sem]) (by simp [go_sem, okC]) rfl fun v H1 b1 o1 => ?_
  have b1 := netBox b1
  repeat (first | (refine PC.seq fun K hK => ?_) | (refine PC.block ?_) | (refine PC.region ?_) | (refine PL.k rfl fun KK hKK => ?_; simp (disch := omega) [go_sem, stepK, b1, binP_addW]; refine hKK _ ?_; clear hKK KK) | (refine PL.k rfl fun KK hKK => ?_; simp [go_sem, stepK, b1, binP_addW]; refine hKK _ ?_; clear hKK KK) | (refine PL.g rfl rfl fun KK hKK => ?_; simp (disch := omega) [go_sem, L.stepG, b1, binP_addW]; refine hKK _ ?_; clear hKK KK) | (refine PL.g rfl rfl fun KK hKK => ?_; simp [go_sem, L.stepG, b1, binP_addW]; refine hKK _ ?_; clear hKK KK) | (refine PL.done hK ?_; clear hK) | (refine PC.skip (hK _ _ ?_); clear hK) | (refine PC.condT ?_ ?_; focus (simp [go_sem, b1, binP_addW]; done)) | (refine PC.condF ?_ ?_; focus (simp [go_sem, b1, binP_addW]; done)) | (refine PC.exit ?_; first | (refine hK _ _ ?_; clear hK) | (clear hK; refine hK _ _ ?_; clear hK) | (clear hK; clear hK; refine hK _ _ ?_; clear hK)))
  refine PC.loop (fun m F H' => ∃ k : Nat, k ≤ n.follow.length ∧ m = n.follow.length - k ∧ F 1 = .pp 1 0 v ∧ F 3 = I (sumW n (n.follow.take k)) ∧ F 4 = I k ∧ H' = H1) (m := n.follow.length) ⟨0, by omega, by omega, by simp [go_sem], by simp [go_sem, sumW], by simp [go_sem], rfl⟩ fun m F H' hI => ?_
  obtain ⟨k, hk, hm, f1, f3, f4, rfl⟩ := hI
  by_cases hlt : k < n.follow.length
  · have hlt' : (k : Int) < n.follow.length := by omega
    have hsucc := sumW_succ n k hlt
    obtain ⟨y, ey⟩ : ∃ y, n.follow[k] = y := ⟨_, rfl⟩
    rw [ey] at hsucc
    generalize sumW n (n.follow.take k) = s at *
    refine PC.seq fun K2 hK2 => ?_
    refine PC.seq fun K hK => ?_
    refine PC.region ?_
    repeat (refine PL.k rfl fun KK hKK => ?_; simp [go_sem, stepK, f1, f4, b1, hlt, hlt']; refine hKK _ ?_; clear hKK KK)
    refine PL.done hK ?_; clear hK
    refine PC.condT (by simp [go_sem]) ?_
    refine PC.skip (hK2 _ _ ?_); clear hK2
    refine PC.seq fun K hK => ?_
    refine PC.block ?_
    refine PC.region ?_
    repeat (refine PL.k rfl fun KK hKK => ?_; simp [go_sem, stepK, f1, f3, f4, b1, hlt, hlt', ey, binP_addW]; refine hKK _ ?_; clear hKK KK)
    refine PL.done hK ?_; clear hK
    repeat (first | (refine PC.seq fun K hK => ?_) | (refine PC.block ?_) | (refine PC.region ?_) | (refine PL.k rfl fun KK hKK => ?_; simp (disch := omega) [go_sem, stepK, f4]; refine hKK _ ?_; clear hKK KK) | (refine PL.k rfl fun KK hKK => ?_; simp [go_sem, stepK, f4]; refine hKK _ ?_; clear hKK KK) | (refine PL.g rfl rfl fun KK hKK => ?_; simp (disch := omega) [go_sem, L.stepG, f4]; refine hKK _ ?_; clear hKK KK) | (refine PL.g rfl rfl fun KK hKK => ?_; simp [go_sem, L.stepG, f4]; refine hKK _ ?_; clear hKK KK) | (refine PL.done hK ?_; clear hK) | (refine PC.skip (hK _ _ ?_); clear hK) | (refine PC.condT ?_ ?_; focus (simp [go_sem, f4]; done)) | (refine PC.condF ?_ ?_; focus (simp [go_sem, f4]; done)) | (refine PC.exit ?_; first | (refine hK _ _ ?_; clear hK) | (clear hK; refine hK _ _ ?_; clear hK) | (clear hK; clear hK; refine hK _ _ ?_; clear hK)))
    refine PL.nil ⟨n.follow.length - (k + 1), by omega, k + 1, by omega, by omega, by simp [go_sem, f1], ?_, by simp [go_sem], rfl⟩
    rw [hsucc]
    simp [go_sem]
  · have hlt' : ¬ (k : Int) < n.follow.length := by omega
    have hke : k = n.follow.length := by omega
    rw [hke, List.take_length] at f3
    by_cases h1 : n.follow.length ≤ 60
    · have h1' : (n.follow.length : Int) ≤ 60 := by omega
      repeat (first | (refine PC.seq fun K hK => ?_) | (refine PC.block ?_) | (refine PC.region ?_) | (refine PL.k rfl fun KK hKK => ?_; simp (disch := omega) [go_sem, stepK, f1, f3, f4, b1, hlt', h1']; refine hKK _ ?_; clear hKK KK) | (refine PL.k rfl fun KK hKK => ?_; simp [go_sem, stepK, f1, f3, f4, b1, hlt', h1']; refine hKK _ ?_; clear hKK KK) | (refine PL.g rfl rfl fun KK hKK => ?_; simp (disch := omega) [go_sem, L.stepG, f1, f3, f4, b1, hlt', h1']; refine hKK _ ?_; clear hKK KK) | (refine PL.g rfl rfl fun KK hKK => ?_; simp [go_sem, L.stepG, f1, f3, f4, b1, hlt', h1']; refine hKK _ ?_; clear hKK KK) | (refine PL.done hK ?_; clear hK) | (refine PC.skip (hK _ _ ?_); clear hK) | (refine PC.condT ?_ ?_; focus (simp [go_sem, f1, f3, f4, b1, hlt', h1']; done)) | (refine PC.condF ?_ ?_; focus (simp [go_sem, f1, f3, f4, b1, hlt', h1']; done)) | (refine PC.exit ?_; first | (refine hK _ _ ?_; clear hK) | (clear hK; refine hK _ _ ?_; clear hK) | (clear hK; clear hK; refine hK _ _ ?_; clear hK)))
      (refine PC.ret ?_; refine fin (.inr rfl) (by simp [resP, resP1, Try.results48, go_sem, smallN, h1]) (by simp [go_sem, smallN, h1]))
    · have h1' : ¬ (n.follow.length : Int) ≤ 60 := by omega
      repeat (first | (refine PC.seq fun K hK => ?_) | (refine PC.block ?_) | (refine PC.region ?_) | (refine PL.k rfl fun KK hKK => ?_; simp (disch := omega) [go_sem, stepK, f1, f3, f4, b1, hlt', h1']; refine hKK _ ?_; clear hKK KK) | (refine PL.k rfl fun KK hKK => ?_; simp [go_sem, stepK, f1, f3, f4, b1, hlt', h1']; refine hKK _ ?_; clear hKK KK) | (refine PL.g rfl rfl fun KK hKK => ?_; simp (disch := omega) [go_sem, L.stepG, f1, f3, f4, b1, hlt', h1']; refine hKK _ ?_; clear hKK KK) | (refine PL.g rfl rfl fun KK hKK => ?_; simp [go_sem, L.stepG, f1, f3, f4, b1, hlt', h1']; refine hKK _ ?_; clear hKK KK) | (refine PL.done hK ?_; clear hK) | (refine PC.skip (hK _ _ ?_); clear hK) | (refine PC.condT ?_ ?_; focus (simp [go_sem, f1, f3, f4, b1, hlt', h1']; done)) | (refine PC.condF ?_ ?_; focus (simp [go_sem, f1, f3, f4, b1, hlt', h1']; done)) | (refine PC.exit ?_; first | (refine hK _ _ ?_; clear hK) | (clear hK; refine hK _ _ ?_; clear hK) | (clear hK; clear hK; refine hK _ _ ?_; clear hK)))
      (refine PC.ret ?_; refine fin (.inr rfl) (by simp [resP, resP1, Try.results48, go_sem, smallN, h1]) (by simp [go_sem, smallN, h1]))
theorem small_few {n : Net} (h : smallN n = true) : NetR n → n.sets.length ≤ 1000 := fun hR => by
  unfold smallN at h
  simp only [Bool.and_eq_true, decide_eq_true_eq] at h
  have := hR.f
  omega

def fewL (l : List Tok) : Bool := decide (l.length ≤ 12 ∧ sumMin (l.map fun t => t.rex.length) ≤ 90)
set_option maxRecDepth 20000 in
set_option maxHeartbeats 2000000 in
theorem Few_ok (l : List Tok) (hl : l.length ≤ 9223372036854775807) : PCall Try.prog 40 [slT l] (· = B (fewL l)) := by
  refine PCall.intro' Try.func40 rfl Try.ntmps40 (by simp) fun W => ?_
  repeat (first | (refine PC.seq fun K hK => ?_) | (refine PC.block ?_) | (refine PC.region ?_) | (refine PL.k rfl fun KK hKK => ?_; simp (disch := omega) [go_sem, stepK]; refine hKK _ ?_; clear hKK KK) | (refine PL.k rfl fun KK hKK => ?_; simp [go_sem, stepK]; refine hKK _ ?_; clear hKK KK) | (refine PL.g rfl rfl fun KK hKK => ?_; simp (disch := omega) [go_sem, L.stepG]; refine hKK _ ?_; clear hKK KK) | (refine PL.g rfl rfl fun KK hKK => ?_; simp [go_sem, L.stepG]; refine hKK _ ?_; clear hKK KK) | (refine PL.done hK ?_; clear hK) | (refine PC.skip (hK _ _ ?_); clear hK) | (refine PC.condT ?_ ?_; focus (simp [go_sem]; done)) | (refine PC.condF ?_ ?_; focus (simp [go_sem]; done)) | (refine PC.exit ?_; first | (refine hK _ _ ?_; clear hK) | (clear hK; refine hK _ _ ?_; clear hK) | (clear hK; clear hK; refine hK _ _ ?_; clear hK)))
  refine PC.loop (fun m F H' => ∃ (k : Nat) (z : Int), k ≤ l.length ∧ m = l.length - k ∧ F 0 = slT l ∧ F 3 = I z ∧ F 4 = I k ∧ (l.length ≤ 12 → z = (sumMin ((l.take k).map fun t => t.rex.length) : Nat))) (m := l.length) ⟨0, 0, by omega, by omega, by simp [go_sem], by simp [go_sem], by simp [go_sem], by simp [sumMin]⟩ fun m F H' hI => ?_
  obtain ⟨k, z, hk, hm, f0, f3, f4, hz⟩ := hI
  by_cases hlt : k < l.length
  · have hlt' : (k : Int) < l.length := by omega
    have hsucc : sumMin ((l.take (k + 1)).map fun t => t.rex.length) = sumMin ((l.take k).map fun t => t.rex.length) + min l[k].rex.length 1000 := by
      rw [List.take_succ_eq_append_getElem hlt, List.map_append]; exact sumMin_snoc _ _
    have hle := sumMin_le ((l.take k).map fun t => t.rex.length)
    rw [List.length_map, List.length_take] at hle
    obtain ⟨y, ey⟩ : ∃ y, l[k] = y := ⟨_, rfl⟩
    rw [ey] at hsucc
    generalize sumMin ((l.take k).map fun t => t.rex.length) = s at *
    refine PC.seq fun K2 hK2 => ?_
    refine PC.seq fun K hK => ?_
    refine PC.region ?_
    repeat (refine PL.k rfl fun KK hKK => ?_; simp [go_sem, stepK, f0, f4, hlt, hlt']; refine hKK _ ?_; clear hKK KK)
    refine PL.done hK ?_; clear hK
    refine PC.condT (by simp [go_sem]) ?_
    refine PC.skip (hK2 _ _ ?_); clear hK2
    refine PC.seq fun K hK => ?_
    refine PC.block ?_
    refine PC.region ?_
    repeat (refine PL.k rfl fun KK hKK => ?_; simp [go_sem, stepK, f0, f3, f4, hlt, hlt', ey, binP_addW]; refine hKK _ ?_; clear hKK KK)
    refine PL.done hK ?_; clear hK
    repeat (first | (refine PC.seq fun K hK => ?_) | (refine PC.block ?_) | (refine PC.region ?_) | (refine PL.k rfl fun KK hKK => ?_; simp (disch := omega) [go_sem, stepK, f4]; refine hKK _ ?_; clear hKK KK) | (refine PL.k rfl fun KK hKK => ?_; simp [go_sem, stepK, f4]; refine hKK _ ?_; clear hKK KK) | (refine PL.g rfl rfl fun KK hKK => ?_; simp (disch := omega) [go_sem, L.stepG, f4]; refine hKK _ ?_; clear hKK KK) | (refine PL.g rfl rfl fun KK hKK => ?_; simp [go_sem, L.stepG, f4]; refine hKK _ ?_; clear hKK KK) | (refine PL.done hK ?_; clear hK) | (refine PC.skip (hK _ _ ?_); clear hK) | (refine PC.condT ?_ ?_; focus (simp [go_sem, f4]; done)) | (refine PC.condF ?_ ?_; focus (simp [go_sem, f4]; done)) | (refine PC.exit ?_; first | (refine hK _ _ ?_; clear hK) | (clear hK; refine hK _ _ ?_; clear hK) | (clear hK; clear hK; refine hK _ _ ?_; clear hK)))
    refine PL.nil ⟨l.length - (k + 1), by omega, k + 1, IntKind.i64.wrap (z + min (y.rex.length : Int) 1000), by omega, by omega, by simp [go_sem, f0], by simp [go_sem], by simp [go_sem], fun h12 => ?_⟩
    rw [hsucc, hz h12, i64_wrap (by omega) (by omega)]
    omega
  · have hlt' : ¬ (k : Int) < l.length := by omega
    have hke : k = l.length := by omega
    rw [hke, List.take_length] at hz
    by_cases h1 : l.length ≤ 12
    · have h1' : (l.length : Int) ≤ 12 := by omega
      have hz := hz h1
      have hr : fewL l = decide (z ≤ 90) := by unfold fewL; rw [hz, Bool.eq_iff_iff]; simp; omega
      repeat (first | (refine PC.seq fun K hK => ?_) | (refine PC.block ?_) | (refine PC.region ?_) | (refine PL.k rfl fun KK hKK => ?_; simp (disch := omega) [go_sem, stepK, f0, f3, f4, hlt', h1']; refine hKK _ ?_; clear hKK KK) | (refine PL.k rfl fun KK hKK => ?_; simp [go_sem, stepK, f0, f3, f4, hlt', h1']; refine hKK _ ?_; clear hKK KK) | (refine PL.g rfl rfl fun KK hKK => ?_; simp (disch := omega) [go_sem, L.stepG, f0, f3, f4, hlt', h1']; refine hKK _ ?_; clear hKK KK) | (refine PL.g rfl rfl fun KK hKK => ?_; simp [go_sem, L.stepG, f0, f3, f4, hlt', h1']; refine hKK _ ?_; clear hKK KK) | (refine PL.done hK ?_; clear hK) | (refine PC.skip (hK _ _ ?_); clear hK) | (refine PC.condT ?_ ?_; focus (simp [go_sem, f0, f3, f4, hlt', h1']; done)) | (refine PC.condF ?_ ?_; focus (simp [go_sem, f0, f3, f4, hlt', h1']; done)) | (refine PC.exit ?_; first | (refine hK _ _ ?_; clear hK) | (clear hK; refine hK _ _ ?_; clear hK) | (clear hK; clear hK; refine hK _ _ ?_; clear hK)))
      (refine PC.ret ?_; refine fin (.inr rfl) (by simp [resP, resP1, Try.results40, go_sem, hr]) (by simp [go_sem, hr]))
    · have h1' : ¬ (l.length : Int) ≤ 12 := by omega
      repeat (first | (refine PC.seq fun K hK => ?_) | (refine PC.block ?_) | (refine PC.region ?_) | (refine PL.k rfl fun KK hKK => ?_; simp (disch := omega) [go_sem, stepK, f0, f3, f4, hlt', h1']; refine hKK _ ?_; clear hKK KK) | (refine PL.k rfl fun KK hKK => ?_; simp [go_sem, stepK, f0, f3, f4, hlt', h1']; refine hKK _ ?_; clear hKK KK) | (refine PL.g rfl rfl fun KK hKK => ?_; simp (disch := omega) [go_sem, L.stepG, f0, f3, f4, hlt', h1']; refine hKK _ ?_; clear hKK KK) | (refine PL.g rfl rfl fun KK hKK => ?_; simp [go_sem, L.stepG, f0, f3, f4, hlt', h1']; refine hKK _ ?_; clear hKK KK) | (refine PL.done hK ?_; clear hK) | (refine PC.skip (hK _ _ ?_); clear hK) | (refine PC.condT ?_ ?_; focus (simp [go_sem, f0, f3, f4, hlt', h1']; done)) | (refine PC.condF ?_ ?_; focus (simp [go_sem, f0, f3, f4, hlt', h1']; done)) | (refine PC.exit ?_; first | (refine hK _ _ ?_; clear hK) | (clear hK; refine hK _ _ ?_; clear hK) | (clear hK; clear hK; refine hK _ _ ?_; clear hK)))
      have hr : fewL l = false := by unfold fewL; simp; omega
      (refine PC.ret ?_; refine fin (.inr rfl) (by simp [resP, resP1, Try.results40, go_sem, hr]) (by simp [go_sem, hr]))
end Go.Proofs.Ytficeeaaaijgcaa

/-
  FuseLeads, of chapter 12, over pure values.
-/
namespace Go.Proofs.Ytficeeaaaijgcaa
open Go Go.RowKit L
set_option linter.unusedVariables false
set_option linter.unusedSimpArgs false

theorem startN_lenS {n : Net} (hs : NetR n → n.sets.length ≤ 1000) (b : Nat) : (startN n b).length ≤ 4000000 := by have := startN_len2 n b hs; omega
theorem stepN_lenS {n : Net} (hs : NetR n → n.sets.length ≤ 1000) (l : List Int) (b : Nat) : (stepN n l b).length ≤ 4000000 := by have := stepN_len2 n l b hs; omega
theorem runK_lenS {n : Net} (hs : NetR n → n.sets.length ≤ 1000) (w : ByteArray) (k : Nat) : (runK n w k).length ≤ 4000000 := by have := runK_len2 n w k hs; omega
theorem same_refl {l : List Int} (h : l.length ≤ 4000000) : PCall Try.prog 50 [slI l, slI l] (· = B true) := by
  have := ref11Same_ok l l h h
  simpa using this

set_option maxRecDepth 20000 in
set_option maxHeartbeats 4000000 in
theorem FuseLeads_ok (n : Net) (at_ : List Int) (b : Nat) (w : ByteArray) (hn : Nb n) (hnn : ∀ x ∈ n.sets, x.nn) (hb : b < 256) : PCall Try.prog 10 [netV n, slI at_, U8 b, S w] (· = B true) := by
  refine PCall.intro' Try.func10 rfl Try.ntmps10 (by simp) fun W => ?_
  refine PC.seq fun K hK => ?_
  refine PC.region ?_
  refine PL.boxA 1 (d := 4) rfl rfl rfl (by simp) (v := netV n) (by simp [go_sem]) (by simp [go_sem, okC]) rfl fun v H1 b1 o1 => ?_
  have b1 := netBox b1
  repeat (first | (refine PC.seq fun K hK => ?_) | (refine PC.block ?_) | (refine PC.region ?_) | (refine PL.k rfl fun KK hKK => ?_; simp (disch := omega) [go_sem, stepK, b1]; refine hKK _ ?_; clear hKK KK) | (refine PL.k rfl fun KK hKK => ?_; simp [go_sem, stepK, b1]; refine hKK _ ?_; clear hKK KK) | (refine PL.g rfl rfl fun KK hKK => ?_; simp (disch := omega) [go_sem, L.stepG, b1]; refine hKK _ ?_; clear hKK KK) | (refine PL.g rfl rfl fun KK hKK => ?_; simp [go_sem, L.stepG, b1]; refine hKK _ ?_; clear hKK KK) | (refine PL.done hK ?_; clear hK) | (refine PC.skip (hK _ _ ?_); clear hK) | (refine PC.condT ?_ ?_; focus (simp [go_sem, b1]; done)) | (refine PC.condF ?_ ?_; focus (simp [go_sem, b1]; done)) | (refine PC.exit ?_; first | (refine hK _ _ ?_; clear hK) | (clear hK; refine hK _ _ ?_; clear hK) | (clear hK; clear hK; refine hK _ _ ?_; clear hK)))
  (refine PL.callB rfl rfl (by kernel_rfl) (small_ok n hn.f) (by simp [go_sem]) (by simp [go_sem]) (by simp [go_sem]) ?_)
  cases hsm : smallN n
  · repeat (first | (refine PC.seq fun K hK => ?_) | (refine PC.block ?_) | (refine PC.region ?_) | (refine PL.k rfl fun KK hKK => ?_; simp (disch := omega) [go_sem, stepK, hsm]; refine hKK _ ?_; clear hKK KK) | (refine PL.k rfl fun KK hKK => ?_; simp [go_sem, stepK, hsm]; refine hKK _ ?_; clear hKK KK) | (refine PL.g rfl rfl fun KK hKK => ?_; simp (disch := omega) [go_sem, L.stepG, hsm]; refine hKK _ ?_; clear hKK KK) | (refine PL.g rfl rfl fun KK hKK => ?_; simp [go_sem, L.stepG, hsm]; refine hKK _ ?_; clear hKK KK) | (refine PL.done hK ?_; clear hK) | (refine PC.skip (hK _ _ ?_); clear hK) | (refine PC.condT ?_ ?_; focus (simp [go_sem, hsm]; done)) | (refine PC.condF ?_ ?_; focus (simp [go_sem, hsm]; done)) | (refine PC.exit ?_; first | (refine hK _ _ ?_; clear hK) | (clear hK; refine hK _ _ ?_; clear hK) | (clear hK; clear hK; refine hK _ _ ?_; clear hK)))
    (refine PL.callB rfl rfl (by kernel_rfl) (knows12_ok) (by simp [go_sem]) (by simp [go_sem]) (by simp [go_sem]) ?_)
    repeat (first | (refine PC.seq fun K hK => ?_) | (refine PC.block ?_) | (refine PC.region ?_) | (refine PL.k rfl fun KK hKK => ?_; simp (disch := omega) [go_sem, stepK]; refine hKK _ ?_; clear hKK KK) | (refine PL.k rfl fun KK hKK => ?_; simp [go_sem, stepK]; refine hKK _ ?_; clear hKK KK) | (refine PL.g rfl rfl fun KK hKK => ?_; simp (disch := omega) [go_sem, L.stepG]; refine hKK _ ?_; clear hKK KK) | (refine PL.g rfl rfl fun KK hKK => ?_; simp [go_sem, L.stepG]; refine hKK _ ?_; clear hKK KK) | (refine PL.done hK ?_; clear hK) | (refine PC.skip (hK _ _ ?_); clear hK) | (refine PC.condT ?_ ?_; focus (simp [go_sem]; done)) | (refine PC.condF ?_ ?_; focus (simp [go_sem]; done)) | (refine PC.exit ?_; first | (refine hK _ _ ?_; clear hK) | (clear hK; refine hK _ _ ?_; clear hK) | (clear hK; clear hK; refine hK _ _ ?_; clear hK)))
    (refine PC.ret ?_; refine fin (.inr rfl) (by simp [resP, resP1, Try.results10, go_sem]) (by simp [go_sem]))
  by_cases h1 : at_.length ≤ 60
  rotate_left
  · have h1' : (60 : Int) < at_.length := by omega
    repeat (first | (refine PC.seq fun K hK => ?_) | (refine PC.block ?_) | (refine PC.region ?_) | (refine PL.k rfl fun KK hKK => ?_; simp (disch := omega) [go_sem, stepK, hsm, h1']; refine hKK _ ?_; clear hKK KK) | (refine PL.k rfl fun KK hKK => ?_; simp [go_sem, stepK, hsm, h1']; refine hKK _ ?_; clear hKK KK) | (refine PL.g rfl rfl fun KK hKK => ?_; simp (disch := omega) [go_sem, L.stepG, hsm, h1']; refine hKK _ ?_; clear hKK KK) | (refine PL.g rfl rfl fun KK hKK => ?_; simp [go_sem, L.stepG, hsm, h1']; refine hKK _ ?_; clear hKK KK) | (refine PL.done hK ?_; clear hK) | (refine PC.skip (hK _ _ ?_); clear hK) | (refine PC.condT ?_ ?_; focus (simp [go_sem, hsm, h1']; done)) | (refine PC.condF ?_ ?_; focus (simp [go_sem, hsm, h1']; done)) | (refine PC.exit ?_; first | (refine hK _ _ ?_; clear hK) | (clear hK; refine hK _ _ ?_; clear hK) | (clear hK; clear hK; refine hK _ _ ?_; clear hK)))
    (refine PL.callB rfl rfl (by kernel_rfl) (knows12_ok) (by simp [go_sem]) (by simp [go_sem]) (by simp [go_sem]) ?_)
    repeat (first | (refine PC.seq fun K hK => ?_) | (refine PC.block ?_) | (refine PC.region ?_) | (refine PL.k rfl fun KK hKK => ?_; simp (disch := omega) [go_sem, stepK]; refine hKK _ ?_; clear hKK KK) | (refine PL.k rfl fun KK hKK => ?_; simp [go_sem, stepK]; refine hKK _ ?_; clear hKK KK) | (refine PL.g rfl rfl fun KK hKK => ?_; simp (disch := omega) [go_sem, L.stepG]; refine hKK _ ?_; clear hKK KK) | (refine PL.g rfl rfl fun KK hKK => ?_; simp [go_sem, L.stepG]; refine hKK _ ?_; clear hKK KK) | (refine PL.done hK ?_; clear hK) | (refine PC.skip (hK _ _ ?_); clear hK) | (refine PC.condT ?_ ?_; focus (simp [go_sem]; done)) | (refine PC.condF ?_ ?_; focus (simp [go_sem]; done)) | (refine PC.exit ?_; first | (refine hK _ _ ?_; clear hK) | (clear hK; refine hK _ _ ?_; clear hK) | (clear hK; clear hK; refine hK _ _ ?_; clear hK)))
    (refine PC.ret ?_; refine fin (.inr rfl) (by simp [resP, resP1, Try.results10, go_sem]) (by simp [go_sem]))
  have h1' : ¬ (60 : Int) < at_.length := by omega
  by_cases h2 : w.size ≤ 40
  rotate_left
  · have h2' : (40 : Int) < w.size := by omega
    repeat (first | (refine PC.seq fun K hK => ?_) | (refine PC.block ?_) | (refine PC.region ?_) | (refine PL.k rfl fun KK hKK => ?_; simp (disch := omega) [go_sem, stepK, hsm, h1', h2']; refine hKK _ ?_; clear hKK KK) | (refine PL.k rfl fun KK hKK => ?_; simp [go_sem, stepK, hsm, h1', h2']; refine hKK _ ?_; clear hKK KK) | (refine PL.g rfl rfl fun KK hKK => ?_; simp (disch := omega) [go_sem, L.stepG, hsm, h1', h2']; refine hKK _ ?_; clear hKK KK) | (refine PL.g rfl rfl fun KK hKK => ?_; simp [go_sem, L.stepG, hsm, h1', h2']; refine hKK _ ?_; clear hKK KK) | (refine PL.done hK ?_; clear hK) | (refine PC.skip (hK _ _ ?_); clear hK) | (refine PC.condT ?_ ?_; focus (simp [go_sem, hsm, h1', h2']; done)) | (refine PC.condF ?_ ?_; focus (simp [go_sem, hsm, h1', h2']; done)) | (refine PC.exit ?_; first | (refine hK _ _ ?_; clear hK) | (clear hK; refine hK _ _ ?_; clear hK) | (clear hK; clear hK; refine hK _ _ ?_; clear hK)))
    (refine PL.callB rfl rfl (by kernel_rfl) (knows12_ok) (by simp [go_sem]) (by simp [go_sem]) (by simp [go_sem]) ?_)
    repeat (first | (refine PC.seq fun K hK => ?_) | (refine PC.block ?_) | (refine PC.region ?_) | (refine PL.k rfl fun KK hKK => ?_; simp (disch := omega) [go_sem, stepK]; refine hKK _ ?_; clear hKK KK) | (refine PL.k rfl fun KK hKK => ?_; simp [go_sem, stepK]; refine hKK _ ?_; clear hKK KK) | (refine PL.g rfl rfl fun KK hKK => ?_; simp (disch := omega) [go_sem, L.stepG]; refine hKK _ ?_; clear hKK KK) | (refine PL.g rfl rfl fun KK hKK => ?_; simp [go_sem, L.stepG]; refine hKK _ ?_; clear hKK KK) | (refine PL.done hK ?_; clear hK) | (refine PC.skip (hK _ _ ?_); clear hK) | (refine PC.condT ?_ ?_; focus (simp [go_sem]; done)) | (refine PC.condF ?_ ?_; focus (simp [go_sem]; done)) | (refine PC.exit ?_; first | (refine hK _ _ ?_; clear hK) | (clear hK; refine hK _ _ ?_; clear hK) | (clear hK; clear hK; refine hK _ _ ?_; clear hK)))
    (refine PC.ret ?_; refine fin (.inr rfl) (by simp [resP, resP1, Try.results10, go_sem]) (by simp [go_sem]))
  have h2' : ¬ (40 : Int) < w.size := by omega
  have hs := small_few hsm
  repeat (first | (refine PC.seq fun K hK => ?_) | (refine PC.block ?_) | (refine PC.region ?_) | (refine PL.k rfl fun KK hKK => ?_; simp (disch := omega) [go_sem, stepK, hsm, h1', h2']; refine hKK _ ?_; clear hKK KK) | (refine PL.k rfl fun KK hKK => ?_; simp [go_sem, stepK, hsm, h1', h2']; refine hKK _ ?_; clear hKK KK) | (refine PL.g rfl rfl fun KK hKK => ?_; simp (disch := omega) [go_sem, L.stepG, hsm, h1', h2']; refine hKK _ ?_; clear hKK KK) | (refine PL.g rfl rfl fun KK hKK => ?_; simp [go_sem, L.stepG, hsm, h1', h2']; refine hKK _ ?_; clear hKK KK) | (refine PL.done hK ?_; clear hK) | (refine PC.skip (hK _ _ ?_); clear hK) | (refine PC.condT ?_ ?_; focus (simp [go_sem, hsm, h1', h2']; done)) | (refine PC.condF ?_ ?_; focus (simp [go_sem, hsm, h1', h2']; done)) | (refine PC.exit ?_; first | (refine hK _ _ ?_; clear hK) | (clear hK; refine hK _ _ ?_; clear hK) | (clear hK; clear hK; refine hK _ _ ?_; clear hK)))
  refine PC.regionQ mixed (by kernel_rfl) ?_
  repeat (first | (refine QF.k rfl fun KK hKK => ?_; simp (disch := omega) [go_sem, stepK, b1]; refine hKK _ ?_; clear hKK KK) | (refine QF.k rfl fun KK hKK => ?_; simp [go_sem, stepK, b1]; refine hKK _ ?_; clear hKK KK) | (refine QF.g rfl rfl fun KK hKK => ?_; simp (disch := omega) [go_sem, L.stepG, b1]; refine hKK _ ?_; clear hKK KK) | (refine QF.g rfl rfl fun KK hKK => ?_; simp [go_sem, L.stepG, b1]; refine hKK _ ?_; clear hKK KK))
  (refine QF.callB rfl rfl (by kernel_rfl) (fuseRight_ok n hn) (by simp [go_sem]) (by simp [go_sem]) (by simp [go_sem]) ?_)
  repeat (first | (refine QF.k rfl fun KK hKK => ?_; simp (disch := omega) [go_sem, stepK, b1]; refine hKK _ ?_; clear hKK KK) | (refine QF.k rfl fun KK hKK => ?_; simp [go_sem, stepK, b1]; refine hKK _ ?_; clear hKK KK) | (refine QF.g rfl rfl fun KK hKK => ?_; simp (disch := omega) [go_sem, L.stepG, b1]; refine hKK _ ?_; clear hKK KK) | (refine QF.g rfl rfl fun KK hKK => ?_; simp [go_sem, L.stepG, b1]; refine hKK _ ?_; clear hKK KK))
  (refine QF.callB rfl rfl (by kernel_rfl) (refRight_ok n hn) (by simp [go_sem]) (by simp [go_sem]) (by simp [go_sem]) ?_)
  repeat (first | (refine QF.k rfl fun KK hKK => ?_; simp (disch := omega) [go_sem, stepK, b1]; refine hKK _ ?_; clear hKK KK) | (refine QF.k rfl fun KK hKK => ?_; simp [go_sem, stepK, b1]; refine hKK _ ?_; clear hKK KK) | (refine QF.g rfl rfl fun KK hKK => ?_; simp (disch := omega) [go_sem, L.stepG, b1]; refine hKK _ ?_; clear hKK KK) | (refine QF.g rfl rfl fun KK hKK => ?_; simp [go_sem, L.stepG, b1]; refine hKK _ ?_; clear hKK KK))
  (refine QF.callg rfl rfl (by simp [go_sem]) (by simp [dstOk]) (PQ.callB rfl (target_func _ _ _) (by kernel_rfl) (by simp [go_sem]) (by simp [go_sem]) (fuseStart_ok n b hb hn hs hnn)) ?_)
  repeat (first | (refine QF.k rfl fun KK hKK => ?_; simp (disch := omega) [go_sem, stepK, b1]; refine hKK _ ?_; clear hKK KK) | (refine QF.k rfl fun KK hKK => ?_; simp [go_sem, stepK, b1]; refine hKK _ ?_; clear hKK KK) | (refine QF.g rfl rfl fun KK hKK => ?_; simp (disch := omega) [go_sem, L.stepG, b1]; refine hKK _ ?_; clear hKK KK) | (refine QF.g rfl rfl fun KK hKK => ?_; simp [go_sem, L.stepG, b1]; refine hKK _ ?_; clear hKK KK))
  (refine QF.callg rfl rfl (by simp [go_sem]) (by simp [dstOk]) (PQ.callB rfl (target_func _ _ _) (by kernel_rfl) (by simp [go_sem]) (by simp [go_sem]) (refStart_ok n b hb hn hs)) ?_)
  (refine QF.callg rfl rfl (by simp [go_sem]) (by simp [dstOk]) (PQ.callB rfl (target_func _ _ _) (by kernel_rfl) (by simp [go_sem]) (by simp [go_sem]) (same_refl (startN_lenS hs b))) ?_)
  repeat (first | (refine QF.k rfl fun KK hKK => ?_; simp (disch := omega) [go_sem, stepK, b1]; refine hKK _ ?_; clear hKK KK) | (refine QF.k rfl fun KK hKK => ?_; simp [go_sem, stepK, b1]; refine hKK _ ?_; clear hKK KK) | (refine QF.g rfl rfl fun KK hKK => ?_; simp (disch := omega) [go_sem, L.stepG, b1]; refine hKK _ ?_; clear hKK KK) | (refine QF.g rfl rfl fun KK hKK => ?_; simp [go_sem, L.stepG, b1]; refine hKK _ ?_; clear hKK KK))
  (refine QF.callg rfl rfl (by simp [go_sem]) (by simp [dstOk]) (PQ.callB rfl (target_func _ _ _) (by kernel_rfl) (by simp [go_sem]) (by simp [go_sem]) (fuseStep_ok n at_ b hb (by omega) hn hs hnn)) ?_)
  repeat (first | (refine QF.k rfl fun KK hKK => ?_; simp (disch := omega) [go_sem, stepK, b1]; refine hKK _ ?_; clear hKK KK) | (refine QF.k rfl fun KK hKK => ?_; simp [go_sem, stepK, b1]; refine hKK _ ?_; clear hKK KK) | (refine QF.g rfl rfl fun KK hKK => ?_; simp (disch := omega) [go_sem, L.stepG, b1]; refine hKK _ ?_; clear hKK KK) | (refine QF.g rfl rfl fun KK hKK => ?_; simp [go_sem, L.stepG, b1]; refine hKK _ ?_; clear hKK KK))
  (refine QF.callg rfl rfl (by simp [go_sem]) (by simp [dstOk]) (PQ.callB rfl (target_func _ _ _) (by kernel_rfl) (by simp [go_sem]) (by simp [go_sem]) (refStep_ok n at_ b hb (by omega) hn hs)) ?_)
  (refine QF.callg rfl rfl (by simp [go_sem]) (by simp [dstOk]) (PQ.callB rfl (target_func _ _ _) (by kernel_rfl) (by simp [go_sem]) (by simp [go_sem]) (same_refl (stepN_lenS hs at_ b))) ?_)
  repeat (first | (refine QF.k rfl fun KK hKK => ?_; simp (disch := omega) [go_sem, stepK, b1]; refine hKK _ ?_; clear hKK KK) | (refine QF.k rfl fun KK hKK => ?_; simp [go_sem, stepK, b1]; refine hKK _ ?_; clear hKK KK) | (refine QF.g rfl rfl fun KK hKK => ?_; simp (disch := omega) [go_sem, L.stepG, b1]; refine hKK _ ?_; clear hKK KK) | (refine QF.g rfl rfl fun KK hKK => ?_; simp [go_sem, L.stepG, b1]; refine hKK _ ?_; clear hKK KK))
  (refine QF.callg rfl rfl (by simp [go_sem]) (by simp [dstOk]) (PQ.callB rfl (target_func _ _ _) (by kernel_rfl) (by simp [go_sem]) (by simp [go_sem]) (fuseRun_ok n w (by omega) hn hs hnn)) ?_)
  repeat (first | (refine QF.k rfl fun KK hKK => ?_; simp (disch := omega) [go_sem, stepK, b1]; refine hKK _ ?_; clear hKK KK) | (refine QF.k rfl fun KK hKK => ?_; simp [go_sem, stepK, b1]; refine hKK _ ?_; clear hKK KK) | (refine QF.g rfl rfl fun KK hKK => ?_; simp (disch := omega) [go_sem, L.stepG, b1]; refine hKK _ ?_; clear hKK KK) | (refine QF.g rfl rfl fun KK hKK => ?_; simp [go_sem, L.stepG, b1]; refine hKK _ ?_; clear hKK KK))
  (refine QF.callg rfl rfl (by simp [go_sem]) (by simp [dstOk]) (PQ.callB rfl (target_func _ _ _) (by kernel_rfl) (by simp [go_sem]) (by simp [go_sem]) (refRun_ok n w (by omega) hn hs)) ?_)
  (refine QF.callg rfl rfl (by simp [go_sem]) (by simp [dstOk]) (PQ.callB rfl (target_func _ _ _) (by kernel_rfl) (by simp [go_sem]) (by simp [go_sem]) (same_refl (runK_lenS hs w w.size))) ?_)
  repeat (first | (refine QF.k rfl fun KK hKK => ?_; simp (disch := omega) [go_sem, stepK, b1]; refine hKK _ ?_; clear hKK KK) | (refine QF.k rfl fun KK hKK => ?_; simp [go_sem, stepK, b1]; refine hKK _ ?_; clear hKK KK) | (refine QF.g rfl rfl fun KK hKK => ?_; simp (disch := omega) [go_sem, L.stepG, b1]; refine hKK _ ?_; clear hKK KK) | (refine QF.g rfl rfl fun KK hKK => ?_; simp [go_sem, L.stepG, b1]; refine hKK _ ?_; clear hKK KK))
  (refine QF.callg rfl rfl (by simp [go_sem]) (by simp [dstOk]) (PQ.callB rfl (target_func _ _ _) (by kernel_rfl) (by simp [go_sem]) (by simp [go_sem]) (fuseToken_ok n at_ (by omega) hn)) ?_)
  repeat (first | (refine QF.k rfl fun KK hKK => ?_; simp (disch := omega) [go_sem, stepK, b1]; refine hKK _ ?_; clear hKK KK) | (refine QF.k rfl fun KK hKK => ?_; simp [go_sem, stepK, b1]; refine hKK _ ?_; clear hKK KK) | (refine QF.g rfl rfl fun KK hKK => ?_; simp (disch := omega) [go_sem, L.stepG, b1]; refine hKK _ ?_; clear hKK KK) | (refine QF.g rfl rfl fun KK hKK => ?_; simp [go_sem, L.stepG, b1]; refine hKK _ ?_; clear hKK KK))
  (refine QF.callg rfl rfl (by simp [go_sem]) (by simp [dstOk]) (PQ.callB rfl (target_func _ _ _) (by kernel_rfl) (by simp [go_sem]) (by simp [go_sem]) (refToken_ok n at_ (by omega) hn)) ?_)
  repeat (first | (refine QF.k rfl fun KK hKK => ?_; simp (disch := omega) [go_sem, stepK, b1]; refine hKK _ ?_; clear hKK KK) | (refine QF.k rfl fun KK hKK => ?_; simp [go_sem, stepK, b1]; refine hKK _ ?_; clear hKK KK) | (refine QF.g rfl rfl fun KK hKK => ?_; simp (disch := omega) [go_sem, L.stepG, b1]; refine hKK _ ?_; clear hKK KK) | (refine QF.g rfl rfl fun KK hKK => ?_; simp [go_sem, L.stepG, b1]; refine hKK _ ?_; clear hKK KK))
  (refine QF.callg rfl rfl (by simp [go_sem]) (by simp [dstOk]) (PQ.callB rfl (target_func _ _ _) (by kernel_rfl) (by simp [go_sem]) (by simp [go_sem]) (knows12_ok)) ?_)
  repeat (first | (refine QF.k rfl fun KK hKK => ?_; simp (disch := omega) [go_sem, stepK]; refine hKK _ ?_; clear hKK KK) | (refine QF.k rfl fun KK hKK => ?_; simp [go_sem, stepK]; refine hKK _ ?_; clear hKK KK) | (refine QF.g rfl rfl fun KK hKK => ?_; simp (disch := omega) [go_sem, L.stepG]; refine hKK _ ?_; clear hKK KK) | (refine QF.g rfl rfl fun KK hKK => ?_; simp [go_sem, L.stepG]; refine hKK _ ?_; clear hKK KK))
  refine QF.done hK ?_; clear hK
  (refine PC.ret ?_; refine fin (.inr rfl) (by simp [resP, resP1, Try.results10, go_sem]) (by simp [go_sem]))
end Go.Proofs.Ytficeeaaaijgcaa

/-
  FuseTells, of chapter 12, over pure values.
-/
namespace Go.Proofs.Ytficeeaaaijgcaa
open Go Go.RowKit L
set_option linter.unusedVariables false
set_option linter.unusedSimpArgs false

theorem moreL_rise {l : List Int} (h : Rising l) (y : Int) : Rising (moreL l y) := by
  unfold moreL Rising
  rw [List.pairwise_map]
  exact h.imp fun h => by omega
theorem moreL_in {l : List Int} {N : Int} (h : ∀ x ∈ l, 0 ≤ x ∧ x < N) (y : Int) : ∀ x ∈ moreL l y, y ≤ x ∧ x < y + N := fun x hx => by
  obtain ⟨z, hz, rfl⟩ := List.mem_map.1 hx
  have := h z hz
  omega
theorem fuseS_R {n : Net} (h : NetR n) (t : Nat) (r : List Rx) : NetR (fuseS n t r) := by
  have hr := sp_facts r
  have hlen : (fuseS n t r).sets.length = n.sets.length + (spSets r).length := by simp [fuseS, fuseI]
  refine ⟨?_, ?_, ?_, ?_, ?_, ?_⟩
  · rw [hlen]; simp [fuseS, fuseI, h.o]
  · rw [hlen]; simp [fuseS, fuseI, h.l]
  · rw [hlen]; simp [fuseS, fuseI, h.f]
  · intro x hx
    simp only [fuseS, fuseI, List.mem_append] at hx
    rcases hx with hx | hx
    · exact h.op x hx
    · have := (List.mem_replicate.1 hx).2; omega
  · rw [hlen]
    have h1 := moreL_in hr.first.2 n.sets.length
    refine ⟨?_, fun x hx => ?_⟩
    · simp only [fuseS, Rising]
      rw [List.pairwise_append]
      exact ⟨h.t.1, moreL_rise hr.first.1 _, fun a ha b hb => by have := h.t.2 a ha; have := h1 b hb; omega⟩
    · simp only [fuseS, List.mem_append] at hx
      rcases hx with hx | hx
      · have := h.t.2 x hx; omega
      · have := h1 x hx; omega
  · rw [hlen]
    intro l hl
    simp only [fuseS, fuseI, List.mem_append] at hl
    rcases hl with hl | hl
    · have := h.fe l hl
      exact ⟨this.1, fun x hx => by have := this.2 x hx; omega⟩
    · obtain ⟨j, _, rfl⟩ := List.mem_map.1 hl
      have h1 := moreL_in (hr.fol j).2 n.sets.length
      exact ⟨moreL_rise (hr.fol j).1 _, fun x hx => by have := h1 x hx; omega⟩
theorem fuseK_R (l : List Tok) (k : Nat) : NetR (fuseK l k) := by
  induction k with
  | zero => exact ⟨rfl, rfl, rfl, by simp [fuseK], ⟨by simp [fuseK, Rising], by simp [fuseK]⟩, by simp [fuseK]⟩
  | succ k ih => exact fuseS_R ih _ _
theorem fuseL_R (l : List Tok) : NetR (fuseL l) := fuseK_R l _
theorem fuseL_right (l : List Tok) : rightN (fuseL l) = true := (rightN_iff _).2 (fuseL_R l)
theorem fuseL_b {l : List Tok} (hl : l.length ≤ 12) : NetB (fuseL l) 12000 := by
  obtain ⟨a, b, c, d, e⟩ := fuseK_b l l.length
  exact ⟨Nat.le_trans a (by omega), Nat.le_trans b (by omega), Nat.le_trans c (by omega), Nat.le_trans d (by omega), Nat.le_trans e (by omega)⟩
theorem fuseL_fe {l : List Tok} (hl : l.length ≤ 12) : ∀ x ∈ (fuseL l).follow, x.length ≤ 12000 := fun x hx => by
  have := rising_len2 ((fuseL_R l).fe x hx)
  have := (fuseL_b hl).s
  omega
theorem fuseL_nb {l : List Tok} (hl : l.length ≤ 12) : Nb (fuseL l) := by
  obtain ⟨a, b, c, d, e⟩ := fuseL_b hl
  exact ⟨by omega, by omega, by omega, by omega, fun x hx => by have := fuseL_fe hl x hx; omega, by omega⟩
/-- few steps, few spots -/
theorem spSets_le (r : List Rx) : (spSets r).length ≤ r.length := by
  by_cases h : checkL r = 0
  · obtain ⟨e, he⟩ := wfx_of r h
    rw [(sp_of he).1, setsT_len]
    have := nset_le e
    rw [← he.2] at this
    exact this
  · unfold spSets; rw [if_neg h]; simp
theorem few_rex {l : List Tok} (h : fewL l = true) : ∀ t ∈ l, t.rex.length ≤ 90 := fun t ht => by
  unfold fewL at h
  simp only [decide_eq_true_eq] at h
  have := sumMin_mem (l.map fun t => t.rex.length) t.rex.length (List.mem_map.2 ⟨t, ht, rfl⟩)
  omega
theorem fuseK_sets {l : List Tok} (h : fewL l = true) : ∀ k, k ≤ l.length → (fuseK l k).sets.length ≤ sumMin ((l.take k).map fun t => t.rex.length) := by
  intro k
  induction k with
  | zero => intro _; simp [fuseK]
  | succ k ih =>
    intro hk
    have h1 := ih (by omega)
    have h2 := few_rex h l[k] (List.getElem_mem (by omega))
    have h3 := spSets_le l[k].rex
    rw [fuseK_succ l k (by omega), List.take_succ_eq_append_getElem (by omega), List.map_append]
    rw [show sumMin ((l.take k).map (fun t => t.rex.length) ++ [l[k]].map fun t => t.rex.length) = sumMin ((l.take k).map fun t => t.rex.length) + min l[k].rex.length 1000 from sumMin_snoc _ _]
    have e : (fuseS (fuseK l k) k l[k].rex).sets.length = (fuseK l k).sets.length + (spSets l[k].rex).length := by simp [fuseS, fuseI]
    rw [e]
    omega
theorem few_sets {l : List Tok} (h : fewL l = true) : (fuseL l).sets.length ≤ 90 := by
  have h1 := fuseK_sets h l.length (Nat.le_refl _)
  rw [List.take_length] at h1
  unfold fewL at h
  simp only [decide_eq_true_eq] at h
  unfold fuseL
  omega
theorem fuseS_nn {n : Net} (h : ∀ x ∈ n.sets, x.nn) (t : Nat) (r : List Rx) (hr : ∀ x ∈ r, x.nn) : ∀ x ∈ (fuseS n t r).sets, x.nn := fun x hx => by
  simp only [fuseS, fuseI, List.mem_append] at hx
  rcases hx with hx | hx
  · exact h x hx
  · have hx := List.mem_of_mem_take hx
    rw [← sets_same] at hx
    unfold setsL at hx
    split at hx
    · exact hr x (List.mem_filter.1 hx).1
    · cases hx
theorem fuseK_nn {l : List Tok} (h : ∀ t ∈ l, ∀ x ∈ t.rex, x.nn) : ∀ k, k ≤ l.length → ∀ x ∈ (fuseK l k).sets, x.nn := by
  intro k
  induction k with
  | zero => intro _ x hx; simp [fuseK] at hx
  | succ k ih =>
    intro hk
    rw [fuseK_succ l k (by omega)]
    exact fuseS_nn (ih (by omega)) _ _ (h _ (List.getElem_mem (by omega)))
theorem fuseL_nn {l : List Tok} (h : ∀ t ∈ l, ∀ x ∈ t.rex, x.nn) : ∀ x ∈ (fuseL l).sets, x.nn := fuseK_nn h _ (Nat.le_refl _)

structure SameB (n : Net) : Prop where
  s : n.sets.length ≤ 4000000
  o : n.of_.length ≤ 4000000
  l : n.last.length ≤ 4000000
  f : n.follow.length ≤ 4000000
  fe : ∀ x ∈ n.follow, x.length ≤ 4000000
  t : n.first.length ≤ 4000000

set_option maxRecDepth 20000 in
set_option maxHeartbeats 4000000 in
theorem netSame_ok (n : Net) (hn : SameB n) : PCall Try.prog 43 [netV n, netV n] (· = B true) := by
  have hs := hn.s
  have hl := hn.l
  have hf := hn.f
  refine PCall.intro' Try.func43 rfl Try.ntmps43 (by simp) fun W => ?_
  refine PC.seq fun K hK => ?_
  refine PC.region ?_
  refine PL.boxA 1 (d := 2) rfl rfl rfl (by simp) (v := netV n) (by simp [go_sem]) (by simp [go_sem, okC]) rfl fun v H1 b1 o1 => ?_
  refine PL.boxA 2 (d := 3) rfl rfl rfl (by simp) (v := netV n) (by simp [go_sem]) (by simp [go_sem, okC]) rfl fun u H2 b2 o2 => ?_
  have b1 := netBox ((o2 1 (by omega)).trans b1)
  have b2 := netBox b2
  repeat (first | (refine PC.seq fun K hK => ?_) | (refine PC.block ?_) | (refine PC.region ?_) | (refine PL.k rfl fun KK hKK => ?_; simp (disch := omega) [go_sem, stepK, b1, b2]; refine hKK _ ?_; clear hKK KK) | (refine PL.k rfl fun KK hKK => ?_; simp [go_sem, stepK, b1, b2]; refine hKK _ ?_; clear hKK KK) | (refine PL.g rfl rfl fun KK hKK => ?_; simp (disch := omega) [go_sem, L.stepG, b1, b2]; refine hKK _ ?_; clear hKK KK) | (refine PL.g rfl rfl fun KK hKK => ?_; simp [go_sem, L.stepG, b1, b2]; refine hKK _ ?_; clear hKK KK) | (refine PL.done hK ?_; clear hK) | (refine PC.skip (hK _ _ ?_); clear hK) | (refine PC.condT ?_ ?_; focus (simp [go_sem, b1, b2]; done)) | (refine PC.condF ?_ ?_; focus (simp [go_sem, b1, b2]; done)) | (refine PC.exit ?_; first | (refine hK _ _ ?_; clear hK) | (clear hK; refine hK _ _ ?_; clear hK) | (clear hK; clear hK; refine hK _ _ ?_; clear hK)))
  (refine PL.callBg rfl rfl rfl (by simp [go_sem]) (by kernel_rfl) (same_refl hn.o) (by simp [go_sem]) (by simp [go_sem]) (by simp [go_sem]) ?_)
  repeat (first | (refine PC.seq fun K hK => ?_) | (refine PC.block ?_) | (refine PC.region ?_) | (refine PL.k rfl fun KK hKK => ?_; simp (disch := omega) [go_sem, stepK, b1, b2]; refine hKK _ ?_; clear hKK KK) | (refine PL.k rfl fun KK hKK => ?_; simp [go_sem, stepK, b1, b2]; refine hKK _ ?_; clear hKK KK) | (refine PL.g rfl rfl fun KK hKK => ?_; simp (disch := omega) [go_sem, L.stepG, b1, b2]; refine hKK _ ?_; clear hKK KK) | (refine PL.g rfl rfl fun KK hKK => ?_; simp [go_sem, L.stepG, b1, b2]; refine hKK _ ?_; clear hKK KK) | (refine PL.done hK ?_; clear hK) | (refine PC.skip (hK _ _ ?_); clear hK) | (refine PC.condT ?_ ?_; focus (simp [go_sem, b1, b2]; done)) | (refine PC.condF ?_ ?_; focus (simp [go_sem, b1, b2]; done)) | (refine PC.exit ?_; first | (refine hK _ _ ?_; clear hK) | (clear hK; refine hK _ _ ?_; clear hK) | (clear hK; clear hK; refine hK _ _ ?_; clear hK)))
  (refine PL.callBg rfl rfl rfl (by simp [go_sem]) (by kernel_rfl) (same_refl hn.t) (by simp [go_sem]) (by simp [go_sem]) (by simp [go_sem]) ?_)
  repeat (first | (refine PC.seq fun K hK => ?_) | (refine PC.block ?_) | (refine PC.region ?_) | (refine PL.k rfl fun KK hKK => ?_; simp (disch := omega) [go_sem, stepK]; refine hKK _ ?_; clear hKK KK) | (refine PL.k rfl fun KK hKK => ?_; simp [go_sem, stepK]; refine hKK _ ?_; clear hKK KK) | (refine PL.g rfl rfl fun KK hKK => ?_; simp (disch := omega) [go_sem, L.stepG]; refine hKK _ ?_; clear hKK KK) | (refine PL.g rfl rfl fun KK hKK => ?_; simp [go_sem, L.stepG]; refine hKK _ ?_; clear hKK KK) | (refine PL.done hK ?_; clear hK) | (refine PC.skip (hK _ _ ?_); clear hK) | (refine PC.condT ?_ ?_; focus (simp [go_sem]; done)) | (refine PC.condF ?_ ?_; focus (simp [go_sem]; done)) | (refine PC.exit ?_; first | (refine hK _ _ ?_; clear hK) | (clear hK; refine hK _ _ ?_; clear hK) | (clear hK; clear hK; refine hK _ _ ?_; clear hK)))
  refine PC.loop (fun m F H' => ∃ k : Nat, k ≤ n.sets.length ∧ m = n.sets.length - k ∧ F 2 = .pp 1 0 v ∧ F 3 = .pp 2 0 u ∧ F 5 = I k ∧ H' = H2) (m := n.sets.length) ⟨0, by omega, by omega, by simp [go_sem], by simp [go_sem], by simp [go_sem], rfl⟩ fun m F H' hI => ?_
  obtain ⟨k, hk, hm, f2, f3, f5, rfl⟩ := hI
  by_cases hlt : k < n.sets.length
  · have hlt' : (k : Int) < n.sets.length := by omega
    repeat (first | (refine PC.seq fun K hK => ?_) | (refine PC.block ?_) | (refine PC.region ?_) | (refine PL.k rfl fun KK hKK => ?_; simp (disch := omega) [go_sem, stepK, f2, f5, b1, hlt', hlt]; refine hKK _ ?_; clear hKK KK) | (refine PL.k rfl fun KK hKK => ?_; simp [go_sem, stepK, f2, f5, b1, hlt', hlt]; refine hKK _ ?_; clear hKK KK) | (refine PL.g rfl rfl fun KK hKK => ?_; simp (disch := omega) [go_sem, L.stepG, f2, f5, b1, hlt', hlt]; refine hKK _ ?_; clear hKK KK) | (refine PL.g rfl rfl fun KK hKK => ?_; simp [go_sem, L.stepG, f2, f5, b1, hlt', hlt]; refine hKK _ ?_; clear hKK KK) | (refine PL.done hK ?_; clear hK) | (refine PC.skip (hK _ _ ?_); clear hK) | (refine PC.condT ?_ ?_; focus (simp [go_sem, f2, f5, b1, hlt', hlt]; done)) | (refine PC.condF ?_ ?_; focus (simp [go_sem, f2, f5, b1, hlt', hlt]; done)) | (refine PC.exit ?_; first | (refine hK _ _ ?_; clear hK) | (clear hK; refine hK _ _ ?_; clear hK) | (clear hK; clear hK; refine hK _ _ ?_; clear hK)))
    refine PC.regionQ mixed (by kernel_rfl) ?_
    repeat (first | (refine QF.k rfl fun KK hKK => ?_; simp (disch := omega) [go_sem, stepK, f2, f3, f5, b1, b2, hlt', hlt]; refine hKK _ ?_; clear hKK KK) | (refine QF.k rfl fun KK hKK => ?_; simp [go_sem, stepK, f2, f3, f5, b1, b2, hlt', hlt]; refine hKK _ ?_; clear hKK KK) | (refine QF.g rfl rfl fun KK hKK => ?_; simp (disch := omega) [go_sem, L.stepG, f2, f3, f5, b1, b2, hlt', hlt]; refine hKK _ ?_; clear hKK KK) | (refine QF.g rfl rfl fun KK hKK => ?_; simp [go_sem, L.stepG, f2, f3, f5, b1, b2, hlt', hlt]; refine hKK _ ?_; clear hKK KK))
    refine QF.call rfl (by simp [dstOk]) (PQ.neqSet n.sets[k] n.sets[k] rfl (by simp [go_sem]; rfl) (by simp [go_sem]; rfl)) ?_
    refine QF.done hK ?_; clear hK
    have hse : setEq n.sets[k].s0 n.sets[k].s1 n.sets[k].s2 n.sets[k].s3 n.sets[k].s0 n.sets[k].s1 n.sets[k].s2 n.sets[k].s3 = true := by simp [setEq]
    repeat (first | (refine PC.seq fun K hK => ?_) | (refine PC.block ?_) | (refine PC.region ?_) | (refine PL.k rfl fun KK hKK => ?_; simp (disch := omega) [go_sem, stepK, f5, hse]; refine hKK _ ?_; clear hKK KK) | (refine PL.k rfl fun KK hKK => ?_; simp [go_sem, stepK, f5, hse]; refine hKK _ ?_; clear hKK KK) | (refine PL.g rfl rfl fun KK hKK => ?_; simp (disch := omega) [go_sem, L.stepG, f5, hse]; refine hKK _ ?_; clear hKK KK) | (refine PL.g rfl rfl fun KK hKK => ?_; simp [go_sem, L.stepG, f5, hse]; refine hKK _ ?_; clear hKK KK) | (refine PL.done hK ?_; clear hK) | (refine PC.skip (hK _ _ ?_); clear hK) | (refine PC.condT ?_ ?_; focus (simp [go_sem, f5, hse]; done)) | (refine PC.condF ?_ ?_; focus (simp [go_sem, f5, hse]; done)) | (refine PC.exit ?_; first | (refine hK _ _ ?_; clear hK) | (clear hK; refine hK _ _ ?_; clear hK) | (clear hK; clear hK; refine hK _ _ ?_; clear hK)))
    refine PL.nil ⟨n.sets.length - (k + 1), by omega, k + 1, by omega, by omega, by simp [go_sem, f2], by simp [go_sem, f3], by simp [go_sem], rfl⟩
  have hlt' : ¬ (k : Int) < n.sets.length := by omega
  repeat (first | (refine PC.seq fun K hK => ?_) | (refine PC.block ?_) | (refine PC.region ?_) | (refine PL.k rfl fun KK hKK => ?_; simp (disch := omega) [go_sem, stepK, f2, f5, b1, hlt']; refine hKK _ ?_; clear hKK KK) | (refine PL.k rfl fun KK hKK => ?_; simp [go_sem, stepK, f2, f5, b1, hlt']; refine hKK _ ?_; clear hKK KK) | (refine PL.g rfl rfl fun KK hKK => ?_; simp (disch := omega) [go_sem, L.stepG, f2, f5, b1, hlt']; refine hKK _ ?_; clear hKK KK) | (refine PL.g rfl rfl fun KK hKK => ?_; simp [go_sem, L.stepG, f2, f5, b1, hlt']; refine hKK _ ?_; clear hKK KK) | (refine PL.done hK ?_; clear hK) | (refine PC.skip (hK _ _ ?_); clear hK) | (refine PC.condT ?_ ?_; focus (simp [go_sem, f2, f5, b1, hlt']; done)) | (refine PC.condF ?_ ?_; focus (simp [go_sem, f2, f5, b1, hlt']; done)) | (refine PC.exit ?_; first | (refine hK _ _ ?_; clear hK) | (clear hK; refine hK _ _ ?_; clear hK) | (clear hK; clear hK; refine hK _ _ ?_; clear hK)))
  refine PC.loop (fun m F H2 => ∃ k : Nat, k ≤ n.last.length ∧ m = n.last.length - k ∧ F 2 = .pp 1 0 v ∧ F 3 = .pp 2 0 u ∧ F 6 = I k ∧ H2 = H') (m := n.last.length) ⟨0, by omega, by omega, by simp [go_sem, f2], by simp [go_sem, f3], by simp [go_sem], rfl⟩ fun m F H2 hI => ?_
  clear f2 f3 f5 hlt' hlt hm hk
  clear k
  obtain ⟨k, hk, hm, f2, f3, f6, rfl⟩ := hI
  by_cases hlt : k < n.last.length
  · have hlt' : (k : Int) < n.last.length := by omega
    obtain ⟨y, ey⟩ : ∃ y, n.last[k] = y := ⟨_, rfl⟩
    repeat (first | (refine PC.seq fun K hK => ?_) | (refine PC.block ?_) | (refine PC.region ?_) | (refine PL.k rfl fun KK hKK => ?_; simp (disch := omega) [go_sem, stepK, f2, f6, b1, hlt', hlt]; refine hKK _ ?_; clear hKK KK) | (refine PL.k rfl fun KK hKK => ?_; simp [go_sem, stepK, f2, f6, b1, hlt', hlt]; refine hKK _ ?_; clear hKK KK) | (refine PL.g rfl rfl fun KK hKK => ?_; simp (disch := omega) [go_sem, L.stepG, f2, f6, b1, hlt', hlt]; refine hKK _ ?_; clear hKK KK) | (refine PL.g rfl rfl fun KK hKK => ?_; simp [go_sem, L.stepG, f2, f6, b1, hlt', hlt]; refine hKK _ ?_; clear hKK KK) | (refine PL.done hK ?_; clear hK) | (refine PC.skip (hK _ _ ?_); clear hK) | (refine PC.condT ?_ ?_; focus (simp [go_sem, f2, f6, b1, hlt', hlt]; done)) | (refine PC.condF ?_ ?_; focus (simp [go_sem, f2, f6, b1, hlt', hlt]; done)) | (refine PC.exit ?_; first | (refine hK _ _ ?_; clear hK) | (clear hK; refine hK _ _ ?_; clear hK) | (clear hK; clear hK; refine hK _ _ ?_; clear hK)))
    refine PC.regionQ mixed (by kernel_rfl) ?_
    cases y
    · repeat (first | (refine QF.k rfl fun KK hKK => ?_; simp (disch := omega) [go_sem, stepK, f2, f3, f6, b1, b2, hlt', hlt, ey]; refine hKK _ ?_; clear hKK KK) | (refine QF.k rfl fun KK hKK => ?_; simp [go_sem, stepK, f2, f3, f6, b1, b2, hlt', hlt, ey]; refine hKK _ ?_; clear hKK KK) | (refine QF.g rfl rfl fun KK hKK => ?_; simp (disch := omega) [go_sem, L.stepG, f2, f3, f6, b1, b2, hlt', hlt, ey]; refine hKK _ ?_; clear hKK KK) | (refine QF.g rfl rfl fun KK hKK => ?_; simp [go_sem, L.stepG, f2, f3, f6, b1, b2, hlt', hlt, ey]; refine hKK _ ?_; clear hKK KK))
      refine QF.done hK ?_; clear hK
      repeat (first | (refine PC.seq fun K hK => ?_) | (refine PC.block ?_) | (refine PC.region ?_) | (refine PL.k rfl fun KK hKK => ?_; simp (disch := omega) [go_sem, stepK, f6]; refine hKK _ ?_; clear hKK KK) | (refine PL.k rfl fun KK hKK => ?_; simp [go_sem, stepK, f6]; refine hKK _ ?_; clear hKK KK) | (refine PL.g rfl rfl fun KK hKK => ?_; simp (disch := omega) [go_sem, L.stepG, f6]; refine hKK _ ?_; clear hKK KK) | (refine PL.g rfl rfl fun KK hKK => ?_; simp [go_sem, L.stepG, f6]; refine hKK _ ?_; clear hKK KK) | (refine PL.done hK ?_; clear hK) | (refine PC.skip (hK _ _ ?_); clear hK) | (refine PC.condT ?_ ?_; focus (simp [go_sem, f6]; done)) | (refine PC.condF ?_ ?_; focus (simp [go_sem, f6]; done)) | (refine PC.exit ?_; first | (refine hK _ _ ?_; clear hK) | (clear hK; refine hK _ _ ?_; clear hK) | (clear hK; clear hK; refine hK _ _ ?_; clear hK)))
      refine PL.nil ⟨n.last.length - (k + 1), by omega, k + 1, by omega, by omega, by simp [go_sem, f2], by simp [go_sem, f3], by simp [go_sem], rfl⟩
    · repeat (first | (refine QF.k rfl fun KK hKK => ?_; simp (disch := omega) [go_sem, stepK, f2, f3, f6, b1, b2, hlt', hlt, ey]; refine hKK _ ?_; clear hKK KK) | (refine QF.k rfl fun KK hKK => ?_; simp [go_sem, stepK, f2, f3, f6, b1, b2, hlt', hlt, ey]; refine hKK _ ?_; clear hKK KK) | (refine QF.g rfl rfl fun KK hKK => ?_; simp (disch := omega) [go_sem, L.stepG, f2, f3, f6, b1, b2, hlt', hlt, ey]; refine hKK _ ?_; clear hKK KK) | (refine QF.g rfl rfl fun KK hKK => ?_; simp [go_sem, L.stepG, f2, f3, f6, b1, b2, hlt', hlt, ey]; refine hKK _ ?_; clear hKK KK))
      refine QF.done hK ?_; clear hK
      repeat (first | (refine PC.seq fun K hK => ?_) | (refine PC.block ?_) | (refine PC.region ?_) | (refine PL.k rfl fun KK hKK => ?_; simp (disch := omega) [go_sem, stepK, f6]; refine hKK _ ?_; clear hKK KK) | (refine PL.k rfl fun KK hKK => ?_; simp [go_sem, stepK, f6]; refine hKK _ ?_; clear hKK KK) | (refine PL.g rfl rfl fun KK hKK => ?_; simp (disch := omega) [go_sem, L.stepG, f6]; refine hKK _ ?_; clear hKK KK) | (refine PL.g rfl rfl fun KK hKK => ?_; simp [go_sem, L.stepG, f6]; refine hKK _ ?_; clear hKK KK) | (refine PL.done hK ?_; clear hK) | (refine PC.skip (hK _ _ ?_); clear hK) | (refine PC.condT ?_ ?_; focus (simp [go_sem, f6]; done)) | (refine PC.condF ?_ ?_; focus (simp [go_sem, f6]; done)) | (refine PC.exit ?_; first | (refine hK _ _ ?_; clear hK) | (clear hK; refine hK _ _ ?_; clear hK) | (clear hK; clear hK; refine hK _ _ ?_; clear hK)))
      refine PL.nil ⟨n.last.length - (k + 1), by omega, k + 1, by omega, by omega, by simp [go_sem, f2], by simp [go_sem, f3], by simp [go_sem], rfl⟩
  have hlt' : ¬ (k : Int) < n.last.length := by omega
  repeat (first | (refine PC.seq fun K hK => ?_) | (refine PC.block ?_) | (refine PC.region ?_) | (refine PL.k rfl fun KK hKK => ?_; simp (disch := omega) [go_sem, stepK, f2, f6, b1, hlt']; refine hKK _ ?_; clear hKK KK) | (refine PL.k rfl fun KK hKK => ?_; simp [go_sem, stepK, f2, f6, b1, hlt']; refine hKK _ ?_; clear hKK KK) | (refine PL.g rfl rfl fun KK hKK => ?_; simp (disch := omega) [go_sem, L.stepG, f2, f6, b1, hlt']; refine hKK _ ?_; clear hKK KK) | (refine PL.g rfl rfl fun KK hKK => ?_; simp [go_sem, L.stepG, f2, f6, b1, hlt']; refine hKK _ ?_; clear hKK KK) | (refine PL.done hK ?_; clear hK) | (refine PC.skip (hK _ _ ?_); clear hK) | (refine PC.condT ?_ ?_; focus (simp [go_sem, f2, f6, b1, hlt']; done)) | (refine PC.condF ?_ ?_; focus (simp [go_sem, f2, f6, b1, hlt']; done)) | (refine PC.exit ?_; first | (refine hK _ _ ?_; clear hK) | (clear hK; refine hK _ _ ?_; clear hK) | (clear hK; clear hK; refine hK _ _ ?_; clear hK)))
  refine PC.loop (fun m F H' => ∃ k : Nat, k ≤ n.follow.length ∧ m = n.follow.length - k ∧ F 2 = .pp 1 0 v ∧ F 3 = .pp 2 0 u ∧ F 7 = I k ∧ H' = H2) (m := n.follow.length) ⟨0, by omega, by omega, by simp [go_sem, f2], by simp [go_sem, f3], by simp [go_sem], rfl⟩ fun m F H' hI => ?_
  clear f2 f3 f6 hlt' hlt hm hk
  clear k
  obtain ⟨k, hk, hm, f2, f3, f7, rfl⟩ := hI
  by_cases hlt : k < n.follow.length
  · have hlt' : (k : Int) < n.follow.length := by omega
    have hy := hn.fe n.follow[k] (List.getElem_mem hlt)
    obtain ⟨y, ey⟩ : ∃ y, n.follow[k] = y := ⟨_, rfl⟩
    rw [ey] at hy
    repeat (first | (refine PC.seq fun K hK => ?_) | (refine PC.block ?_) | (refine PC.region ?_) | (refine PL.k rfl fun KK hKK => ?_; simp (disch := omega) [go_sem, stepK, f2, f7, b1, hlt', hlt]; refine hKK _ ?_; clear hKK KK) | (refine PL.k rfl fun KK hKK => ?_; simp [go_sem, stepK, f2, f7, b1, hlt', hlt]; refine hKK _ ?_; clear hKK KK) | (refine PL.g rfl rfl fun KK hKK => ?_; simp (disch := omega) [go_sem, L.stepG, f2, f7, b1, hlt', hlt]; refine hKK _ ?_; clear hKK KK) | (refine PL.g rfl rfl fun KK hKK => ?_; simp [go_sem, L.stepG, f2, f7, b1, hlt', hlt]; refine hKK _ ?_; clear hKK KK) | (refine PL.done hK ?_; clear hK) | (refine PC.skip (hK _ _ ?_); clear hK) | (refine PC.condT ?_ ?_; focus (simp [go_sem, f2, f7, b1, hlt', hlt]; done)) | (refine PC.condF ?_ ?_; focus (simp [go_sem, f2, f7, b1, hlt', hlt]; done)) | (refine PC.exit ?_; first | (refine hK _ _ ?_; clear hK) | (clear hK; refine hK _ _ ?_; clear hK) | (clear hK; clear hK; refine hK _ _ ?_; clear hK)))
    refine PC.regionQ mixed (by kernel_rfl) ?_
    repeat (first | (refine QF.k rfl fun KK hKK => ?_; simp (disch := omega) [go_sem, stepK, f2, f3, f7, b1, b2, hlt', hlt, ey]; refine hKK _ ?_; clear hKK KK) | (refine QF.k rfl fun KK hKK => ?_; simp [go_sem, stepK, f2, f3, f7, b1, b2, hlt', hlt, ey]; refine hKK _ ?_; clear hKK KK) | (refine QF.g rfl rfl fun KK hKK => ?_; simp (disch := omega) [go_sem, L.stepG, f2, f3, f7, b1, b2, hlt', hlt, ey]; refine hKK _ ?_; clear hKK KK) | (refine QF.g rfl rfl fun KK hKK => ?_; simp [go_sem, L.stepG, f2, f3, f7, b1, b2, hlt', hlt, ey]; refine hKK _ ?_; clear hKK KK))
    (refine QF.callB rfl rfl (by kernel_rfl) (same_refl hy) (by simp [go_sem]) (by simp [go_sem]) (by simp [go_sem]) ?_)
    repeat (first | (refine QF.k rfl fun KK hKK => ?_; simp (disch := omega) [go_sem, stepK]; refine hKK _ ?_; clear hKK KK) | (refine QF.k rfl fun KK hKK => ?_; simp [go_sem, stepK]; refine hKK _ ?_; clear hKK KK) | (refine QF.g rfl rfl fun KK hKK => ?_; simp (disch := omega) [go_sem, L.stepG]; refine hKK _ ?_; clear hKK KK) | (refine QF.g rfl rfl fun KK hKK => ?_; simp [go_sem, L.stepG]; refine hKK _ ?_; clear hKK KK))
    refine QF.done hK ?_; clear hK
    repeat (first | (refine PC.seq fun K hK => ?_) | (refine PC.block ?_) | (refine PC.region ?_) | (refine PL.k rfl fun KK hKK => ?_; simp (disch := omega) [go_sem, stepK, f7]; refine hKK _ ?_; clear hKK KK) | (refine PL.k rfl fun KK hKK => ?_; simp [go_sem, stepK, f7]; refine hKK _ ?_; clear hKK KK) | (refine PL.g rfl rfl fun KK hKK => ?_; simp (disch := omega) [go_sem, L.stepG, f7]; refine hKK _ ?_; clear hKK KK) | (refine PL.g rfl rfl fun KK hKK => ?_; simp [go_sem, L.stepG, f7]; refine hKK _ ?_; clear hKK KK) | (refine PL.done hK ?_; clear hK) | (refine PC.skip (hK _ _ ?_); clear hK) | (refine PC.condT ?_ ?_; focus (simp [go_sem, f7]; done)) | (refine PC.condF ?_ ?_; focus (simp [go_sem, f7]; done)) | (refine PC.exit ?_; first | (refine hK _ _ ?_; clear hK) | (clear hK; refine hK _ _ ?_; clear hK) | (clear hK; clear hK; refine hK _ _ ?_; clear hK)))
    refine PL.nil ⟨n.follow.length - (k + 1), by omega, k + 1, by omega, by omega, by simp [go_sem, f2], by simp [go_sem, f3], by simp [go_sem], rfl⟩
  have hlt' : ¬ (k : Int) < n.follow.length := by omega
  repeat (first | (refine PC.seq fun K hK => ?_) | (refine PC.block ?_) | (refine PC.region ?_) | (refine PL.k rfl fun KK hKK => ?_; simp (disch := omega) [go_sem, stepK, f2, f7, b1, hlt']; refine hKK _ ?_; clear hKK KK) | (refine PL.k rfl fun KK hKK => ?_; simp [go_sem, stepK, f2, f7, b1, hlt']; refine hKK _ ?_; clear hKK KK) | (refine PL.g rfl rfl fun KK hKK => ?_; simp (disch := omega) [go_sem, L.stepG, f2, f7, b1, hlt']; refine hKK _ ?_; clear hKK KK) | (refine PL.g rfl rfl fun KK hKK => ?_; simp [go_sem, L.stepG, f2, f7, b1, hlt']; refine hKK _ ?_; clear hKK KK) | (refine PL.done hK ?_; clear hK) | (refine PC.skip (hK _ _ ?_); clear hK) | (refine PC.condT ?_ ?_; focus (simp [go_sem, f2, f7, b1, hlt']; done)) | (refine PC.condF ?_ ?_; focus (simp [go_sem, f2, f7, b1, hlt']; done)) | (refine PC.exit ?_; first | (refine hK _ _ ?_; clear hK) | (clear hK; refine hK _ _ ?_; clear hK) | (clear hK; clear hK; refine hK _ _ ?_; clear hK)))
  (refine PC.ret ?_; refine fin (.inr rfl) (by simp [resP, resP1, Try.results43, go_sem]) (by simp [go_sem]))

set_option maxRecDepth 20000 in
set_option maxHeartbeats 4000000 in
theorem FuseTells_ok (l : List Tok) (hl : l.length ≤ 9223372036854775807) : PCall Try.prog 8 [slT l] (· = B true) := by
  refine PCall.intro' Try.func8 rfl Try.ntmps8 (by simp) fun W => ?_
  repeat (first | (refine PC.seq fun K hK => ?_) | (refine PC.block ?_) | (refine PC.region ?_) | (refine PL.k rfl fun KK hKK => ?_; simp (disch := omega) [go_sem, stepK]; refine hKK _ ?_; clear hKK KK) | (refine PL.k rfl fun KK hKK => ?_; simp [go_sem, stepK]; refine hKK _ ?_; clear hKK KK) | (refine PL.g rfl rfl fun KK hKK => ?_; simp (disch := omega) [go_sem, L.stepG]; refine hKK _ ?_; clear hKK KK) | (refine PL.g rfl rfl fun KK hKK => ?_; simp [go_sem, L.stepG]; refine hKK _ ?_; clear hKK KK) | (refine PL.done hK ?_; clear hK) | (refine PC.skip (hK _ _ ?_); clear hK) | (refine PC.condT ?_ ?_; focus (simp [go_sem]; done)) | (refine PC.condF ?_ ?_; focus (simp [go_sem]; done)) | (refine PC.exit ?_; first | (refine hK _ _ ?_; clear hK) | (clear hK; refine hK _ _ ?_; clear hK) | (clear hK; clear hK; refine hK _ _ ?_; clear hK)))
  (refine PL.callB rfl rfl (by kernel_rfl) (Few_ok l hl) (by simp [go_sem]) (by simp [go_sem]) (by simp [go_sem]) ?_)
  cases hfew : fewL l
  · repeat (first | (refine PC.seq fun K hK => ?_) | (refine PC.block ?_) | (refine PC.region ?_) | (refine PL.k rfl fun KK hKK => ?_; simp (disch := omega) [go_sem, stepK, hfew]; refine hKK _ ?_; clear hKK KK) | (refine PL.k rfl fun KK hKK => ?_; simp [go_sem, stepK, hfew]; refine hKK _ ?_; clear hKK KK) | (refine PL.g rfl rfl fun KK hKK => ?_; simp (disch := omega) [go_sem, L.stepG, hfew]; refine hKK _ ?_; clear hKK KK) | (refine PL.g rfl rfl fun KK hKK => ?_; simp [go_sem, L.stepG, hfew]; refine hKK _ ?_; clear hKK KK) | (refine PL.done hK ?_; clear hK) | (refine PC.skip (hK _ _ ?_); clear hK) | (refine PC.condT ?_ ?_; focus (simp [go_sem, hfew]; done)) | (refine PC.condF ?_ ?_; focus (simp [go_sem, hfew]; done)) | (refine PC.exit ?_; first | (refine hK _ _ ?_; clear hK) | (clear hK; refine hK _ _ ?_; clear hK) | (clear hK; clear hK; refine hK _ _ ?_; clear hK)))
    (refine PL.callB rfl rfl (by kernel_rfl) (knows12_ok) (by simp [go_sem]) (by simp [go_sem]) (by simp [go_sem]) ?_)
    repeat (first | (refine PC.seq fun K hK => ?_) | (refine PC.block ?_) | (refine PC.region ?_) | (refine PL.k rfl fun KK hKK => ?_; simp (disch := omega) [go_sem, stepK]; refine hKK _ ?_; clear hKK KK) | (refine PL.k rfl fun KK hKK => ?_; simp [go_sem, stepK]; refine hKK _ ?_; clear hKK KK) | (refine PL.g rfl rfl fun KK hKK => ?_; simp (disch := omega) [go_sem, L.stepG]; refine hKK _ ?_; clear hKK KK) | (refine PL.g rfl rfl fun KK hKK => ?_; simp [go_sem, L.stepG]; refine hKK _ ?_; clear hKK KK) | (refine PL.done hK ?_; clear hK) | (refine PC.skip (hK _ _ ?_); clear hK) | (refine PC.condT ?_ ?_; focus (simp [go_sem]; done)) | (refine PC.condF ?_ ?_; focus (simp [go_sem]; done)) | (refine PC.exit ?_; first | (refine hK _ _ ?_; clear hK) | (clear hK; refine hK _ _ ?_; clear hK) | (clear hK; clear hK; refine hK _ _ ?_; clear hK)))
    (refine PC.ret ?_; refine fin (.inr rfl) (by simp [resP, resP1, Try.results8, go_sem]) (by simp [go_sem]))
  have h12 : l.length ≤ 12 := by unfold fewL at hfew; simp only [decide_eq_true_eq] at hfew; exact hfew.1
  have cF := fuseFuse_ok l h12
  have cG := refFuse_ok l h12
  have nb := fuseL_nb h12
  have cR := fuseRight_ok (fuseL l) nb
  rw [fuseL_right] at cR
  have hB := fuseL_b h12
  have cS := netSame_ok (fuseL l) ⟨by have := hB.s; omega, by have := hB.o; omega, by have := hB.l; omega, by have := hB.f; omega, fun x hx => by have := fuseL_fe h12 x hx; omega, by have := hB.t; omega⟩
  generalize fuseL l = n at *
  repeat (first | (refine PC.seq fun K hK => ?_) | (refine PC.block ?_) | (refine PC.region ?_) | (refine PL.k rfl fun KK hKK => ?_; simp (disch := omega) [go_sem, stepK, hfew]; refine hKK _ ?_; clear hKK KK) | (refine PL.k rfl fun KK hKK => ?_; simp [go_sem, stepK, hfew]; refine hKK _ ?_; clear hKK KK) | (refine PL.g rfl rfl fun KK hKK => ?_; simp (disch := omega) [go_sem, L.stepG, hfew]; refine hKK _ ?_; clear hKK KK) | (refine PL.g rfl rfl fun KK hKK => ?_; simp [go_sem, L.stepG, hfew]; refine hKK _ ?_; clear hKK KK) | (refine PL.done hK ?_; clear hK) | (refine PC.skip (hK _ _ ?_); clear hK) | (refine PC.condT ?_ ?_; focus (simp [go_sem, hfew]; done)) | (refine PC.condF ?_ ?_; focus (simp [go_sem, hfew]; done)) | (refine PC.exit ?_; first | (refine hK _ _ ?_; clear hK) | (clear hK; refine hK _ _ ?_; clear hK) | (clear hK; clear hK; refine hK _ _ ?_; clear hK)))
  (refine PL.callB rfl rfl (by kernel_rfl) (cF) (by simp [go_sem]) (by simp [go_sem]) (by simp [go_sem]) ?_)
  refine PL.allocA 3 (d := 3) rfl rfl rfl (by simp) zeroC_61 rfl rfl fun v1 H1 b1 o1 => ?_
  refine PL.storeA (id := 3) (off := 0) rfl rfl (by simp [dstOk]) (by simp [go_sem]) b1 asz_61 (v := netV n) (by simp [go_sem]) (by simp [go_sem, okC]) rfl (by simp [go_sem]) (by simp) (cs' := [slS n.sets, slI n.of_, slB n.last, slLL n.follow, slI n.first]) rfl fun H2 b2 o2 => ?_
  repeat (first | (refine PC.seq fun K hK => ?_) | (refine PC.block ?_) | (refine PC.region ?_) | (refine PL.k rfl fun KK hKK => ?_; simp (disch := omega) [go_sem, stepK]; refine hKK _ ?_; clear hKK KK) | (refine PL.k rfl fun KK hKK => ?_; simp [go_sem, stepK]; refine hKK _ ?_; clear hKK KK) | (refine PL.g rfl rfl fun KK hKK => ?_; simp (disch := omega) [go_sem, L.stepG]; refine hKK _ ?_; clear hKK KK) | (refine PL.g rfl rfl fun KK hKK => ?_; simp [go_sem, L.stepG]; refine hKK _ ?_; clear hKK KK) | (refine PL.done hK ?_; clear hK) | (refine PC.skip (hK _ _ ?_); clear hK) | (refine PC.condT ?_ ?_; focus (simp [go_sem]; done)) | (refine PC.condF ?_ ?_; focus (simp [go_sem]; done)) | (refine PC.exit ?_; first | (refine hK _ _ ?_; clear hK) | (clear hK; refine hK _ _ ?_; clear hK) | (clear hK; clear hK; refine hK _ _ ?_; clear hK)))
  refine PC.regionQ mixed (by kernel_rfl) ?_
  repeat (first | (refine QF.k rfl fun KK hKK => ?_; simp (disch := omega) [go_sem, stepK, b2]; refine hKK _ ?_; clear hKK KK) | (refine QF.k rfl fun KK hKK => ?_; simp [go_sem, stepK, b2]; refine hKK _ ?_; clear hKK KK) | (refine QF.g rfl rfl fun KK hKK => ?_; simp (disch := omega) [go_sem, L.stepG, b2]; refine hKK _ ?_; clear hKK KK) | (refine QF.g rfl rfl fun KK hKK => ?_; simp [go_sem, L.stepG, b2]; refine hKK _ ?_; clear hKK KK))
  (refine QF.callB rfl rfl (by kernel_rfl) (cG) (by simp [go_sem]) (by simp [go_sem]) (by simp [go_sem]) ?_)
  (refine QF.callB rfl rfl (by kernel_rfl) (cS) (by simp [go_sem]) (by simp [go_sem]) (by simp [go_sem]) ?_)
  repeat (first | (refine QF.k rfl fun KK hKK => ?_; simp (disch := omega) [go_sem, stepK, b2]; refine hKK _ ?_; clear hKK KK) | (refine QF.k rfl fun KK hKK => ?_; simp [go_sem, stepK, b2]; refine hKK _ ?_; clear hKK KK) | (refine QF.g rfl rfl fun KK hKK => ?_; simp (disch := omega) [go_sem, L.stepG, b2]; refine hKK _ ?_; clear hKK KK) | (refine QF.g rfl rfl fun KK hKK => ?_; simp [go_sem, L.stepG, b2]; refine hKK _ ?_; clear hKK KK))
  (refine QF.callg rfl rfl (by simp [go_sem]) (by simp [dstOk]) (PQ.callB rfl (target_func _ _ _) (by kernel_rfl) (by simp [go_sem]) (by simp [go_sem]) (cR)) ?_)
  repeat (first | (refine QF.k rfl fun KK hKK => ?_; simp (disch := omega) [go_sem, stepK, b2]; refine hKK _ ?_; clear hKK KK) | (refine QF.k rfl fun KK hKK => ?_; simp [go_sem, stepK, b2]; refine hKK _ ?_; clear hKK KK) | (refine QF.g rfl rfl fun KK hKK => ?_; simp (disch := omega) [go_sem, L.stepG, b2]; refine hKK _ ?_; clear hKK KK) | (refine QF.g rfl rfl fun KK hKK => ?_; simp [go_sem, L.stepG, b2]; refine hKK _ ?_; clear hKK KK))
  (refine QF.callg rfl rfl (by simp [go_sem]) (by simp [dstOk]) (PQ.callB rfl (target_func _ _ _) (by kernel_rfl) (by simp [go_sem]) (by simp [go_sem]) (knows12_ok)) ?_)
  repeat (first | (refine QF.k rfl fun KK hKK => ?_; simp (disch := omega) [go_sem, stepK]; refine hKK _ ?_; clear hKK KK) | (refine QF.k rfl fun KK hKK => ?_; simp [go_sem, stepK]; refine hKK _ ?_; clear hKK KK) | (refine QF.g rfl rfl fun KK hKK => ?_; simp (disch := omega) [go_sem, L.stepG]; refine hKK _ ?_; clear hKK KK) | (refine QF.g rfl rfl fun KK hKK => ?_; simp [go_sem, L.stepG]; refine hKK _ ?_; clear hKK KK))
  refine QF.done hK ?_; clear hK
  (refine PC.ret ?_; refine fin (.inr rfl) (by simp [resP, resP1, Try.results8, go_sem]) (by simp [go_sem]))
end Go.Proofs.Ytficeeaaaijgcaa

/-
  FuseParts, of chapter 12, over pure values.
-/
namespace Go.Proofs.Ytficeeaaaijgcaa
open Go Go.RowKit L
set_option linter.unusedVariables false
set_option linter.unusedSimpArgs false

@[go_sem] theorem binP_addS {P : Program} {t : TypeId} {x y : Operand} {a b : ByteArray} (h : a.size + b.size ≤ 9223372036854775807) : binP P .add t x y (.u (.string a)) (.u (.string b)) = some (.u (.string (a ++ b))) := by
  have h' : ¬ ((a.size + b.size : Nat) : Int) > IntKind.i64.max := by simp [IntKind.max, IntKind.signed, IntKind.bits]; omega
  simp only [binP, PV.val2, eqGuard, binOp, Op.stringOp, val_bind, val_pure]
  rw [if_neg h']
  rfl
@[go_sem] theorem sliceP_sto {P : Program} {t : TypeId} {s : ByteArray} {kd : IntKind} {z : Int} (he : isStr P t = true) (h0 : 0 ≤ z) (h1 : z.toNat ≤ s.size) : sliceP P t (.u (.string s)) none (some (.u (.int kd z))) = some (.u (.string (s.extract 0 z.toNat))) := by
  simp [sliceP, boundP, h0, he, h1]
theorem byteAt_app (v w : ByteArray) (i : Nat) : byteAt (v ++ w) i = if i < v.size then byteAt v i else byteAt w (i - v.size) := by
  unfold byteAt
  have e : (v ++ w).data = v.data ++ w.data := ByteArray.data_append ..
  rw [e]
  simp only [Array.getD_eq_getD_getElem?]
  split
  · rename_i h
    have h' : i < v.data.size := h
    rw [Array.getElem?_append_left h']
  · rename_i h
    have h' : v.data.size ≤ i := by have : ¬ i < v.data.size := h; omega
    rw [Array.getElem?_append_right h']
    rfl
theorem byteAt_one (v : ByteArray) (h : 0 < v.size) : byteAt (v.extract 0 1) 0 = byteAt v 0 := by
  unfold byteAt
  have e : (v.extract 0 1).data = v.data.extract 0 1 := ByteArray.data_extract ..
  have h' : 0 < v.data.size := h
  rw [e]
  simp only [Array.getD_eq_getD_getElem?]
  rw [Array.getElem?_extract, if_pos (by omega)]
theorem runK_app (n : Net) (v w : ByteArray) : ∀ k, k ≤ v.size → runK n (v ++ w) k = runK n v k := by
  intro k
  induction k with
  | zero => intro _; rfl
  | succ k ih =>
    intro hk
    have h0 : byteAt (v ++ w) 0 = byteAt v 0 := by rw [byteAt_app, if_pos (by omega)]
    have h1 : byteAt (v ++ w) k = byteAt v k := by rw [byteAt_app, if_pos (by omega)]
    rw [runK, runK, ih (by omega), h0, h1]
theorem runK_more (n : Net) (v w : ByteArray) (hv : 0 < v.size) (k : Nat) : runK n (v ++ w) (v.size + (k + 1)) = stepN n (runK n (v ++ w) (v.size + k)) (byteAt w k) := by
  rw [show v.size + (k + 1) = (v.size + k) + 1 by omega, runK, if_neg (by omega), byteAt_app, if_neg (by omega), Nat.add_sub_cancel_left]
theorem stepN_rise (n : Net) (l : List Int) (b : Nat) : Rising (stepN n l b) := by unfold stepN; split; exact withL_rise _ _ _; simp [Rising]
theorem runK_rise (n : Net) (w : ByteArray) (k : Nat) : Rising (runK n w k) := by
  cases k with
  | zero => simp [runK, Rising]
  | succ k =>
    rw [runK]
    split
    · unfold startN; split; exact withL_rise _ _ _; simp [Rising]
    · exact stepN_rise _ _ _

set_option maxRecDepth 20000 in
set_option maxHeartbeats 4000000 in
theorem FuseParts_ok (l : List Tok) (v w : ByteArray) (hl : l.length ≤ 9223372036854775807) (hnn : ∀ t ∈ l, ∀ x ∈ t.rex, x.nn) : PCall Try.prog 11 [slT l, S v, S w] (· = B true) := by
  refine PCall.intro' Try.func11 rfl Try.ntmps11 (by simp) fun W => ?_
  repeat (first | (refine PC.seq fun K hK => ?_) | (refine PC.block ?_) | (refine PC.region ?_) | (refine PL.k rfl fun KK hKK => ?_; simp (disch := omega) [go_sem, stepK]; refine hKK _ ?_; clear hKK KK) | (refine PL.k rfl fun KK hKK => ?_; simp [go_sem, stepK]; refine hKK _ ?_; clear hKK KK) | (refine PL.g rfl rfl fun KK hKK => ?_; simp (disch := omega) [go_sem, L.stepG]; refine hKK _ ?_; clear hKK KK) | (refine PL.g rfl rfl fun KK hKK => ?_; simp [go_sem, L.stepG]; refine hKK _ ?_; clear hKK KK) | (refine PL.done hK ?_; clear hK) | (refine PC.skip (hK _ _ ?_); clear hK) | (refine PC.condT ?_ ?_; focus (simp [go_sem]; done)) | (refine PC.condF ?_ ?_; focus (simp [go_sem]; done)) | (refine PC.exit ?_; first | (refine hK _ _ ?_; clear hK) | (clear hK; refine hK _ _ ?_; clear hK) | (clear hK; clear hK; refine hK _ _ ?_; clear hK)))
  (refine PL.callB rfl rfl (by kernel_rfl) (Few_ok l hl) (by simp [go_sem]) (by simp [go_sem]) (by simp [go_sem]) ?_)
  cases hfew : fewL l
  · repeat (first | (refine PC.seq fun K hK => ?_) | (refine PC.block ?_) | (refine PC.region ?_) | (refine PL.k rfl fun KK hKK => ?_; simp (disch := omega) [go_sem, stepK, hfew]; refine hKK _ ?_; clear hKK KK) | (refine PL.k rfl fun KK hKK => ?_; simp [go_sem, stepK, hfew]; refine hKK _ ?_; clear hKK KK) | (refine PL.g rfl rfl fun KK hKK => ?_; simp (disch := omega) [go_sem, L.stepG, hfew]; refine hKK _ ?_; clear hKK KK) | (refine PL.g rfl rfl fun KK hKK => ?_; simp [go_sem, L.stepG, hfew]; refine hKK _ ?_; clear hKK KK) | (refine PL.done hK ?_; clear hK) | (refine PC.skip (hK _ _ ?_); clear hK) | (refine PC.condT ?_ ?_; focus (simp [go_sem, hfew]; done)) | (refine PC.condF ?_ ?_; focus (simp [go_sem, hfew]; done)) | (refine PC.exit ?_; first | (refine hK _ _ ?_; clear hK) | (clear hK; refine hK _ _ ?_; clear hK) | (clear hK; clear hK; refine hK _ _ ?_; clear hK)))
    (refine PL.callB rfl rfl (by kernel_rfl) (knows12_ok) (by simp [go_sem]) (by simp [go_sem]) (by simp [go_sem]) ?_)
    repeat (first | (refine PC.seq fun K hK => ?_) | (refine PC.block ?_) | (refine PC.region ?_) | (refine PL.k rfl fun KK hKK => ?_; simp (disch := omega) [go_sem, stepK]; refine hKK _ ?_; clear hKK KK) | (refine PL.k rfl fun KK hKK => ?_; simp [go_sem, stepK]; refine hKK _ ?_; clear hKK KK) | (refine PL.g rfl rfl fun KK hKK => ?_; simp (disch := omega) [go_sem, L.stepG]; refine hKK _ ?_; clear hKK KK) | (refine PL.g rfl rfl fun KK hKK => ?_; simp [go_sem, L.stepG]; refine hKK _ ?_; clear hKK KK) | (refine PL.done hK ?_; clear hK) | (refine PC.skip (hK _ _ ?_); clear hK) | (refine PC.condT ?_ ?_; focus (simp [go_sem]; done)) | (refine PC.condF ?_ ?_; focus (simp [go_sem]; done)) | (refine PC.exit ?_; first | (refine hK _ _ ?_; clear hK) | (clear hK; refine hK _ _ ?_; clear hK) | (clear hK; clear hK; refine hK _ _ ?_; clear hK)))
    (refine PC.ret ?_; refine fin (.inr rfl) (by simp [resP, resP1, Try.results11, go_sem]) (by simp [go_sem]))
  by_cases h1 : v.size ≤ 30
  rotate_left
  · have h1' : (30 : Int) < v.size := by omega
    repeat (first | (refine PC.seq fun K hK => ?_) | (refine PC.block ?_) | (refine PC.region ?_) | (refine PL.k rfl fun KK hKK => ?_; simp (disch := omega) [go_sem, stepK, hfew, h1']; refine hKK _ ?_; clear hKK KK) | (refine PL.k rfl fun KK hKK => ?_; simp [go_sem, stepK, hfew, h1']; refine hKK _ ?_; clear hKK KK) | (refine PL.g rfl rfl fun KK hKK => ?_; simp (disch := omega) [go_sem, L.stepG, hfew, h1']; refine hKK _ ?_; clear hKK KK) | (refine PL.g rfl rfl fun KK hKK => ?_; simp [go_sem, L.stepG, hfew, h1']; refine hKK _ ?_; clear hKK KK) | (refine PL.done hK ?_; clear hK) | (refine PC.skip (hK _ _ ?_); clear hK) | (refine PC.condT ?_ ?_; focus (simp [go_sem, hfew, h1']; done)) | (refine PC.condF ?_ ?_; focus (simp [go_sem, hfew, h1']; done)) | (refine PC.exit ?_; first | (refine hK _ _ ?_; clear hK) | (clear hK; refine hK _ _ ?_; clear hK) | (clear hK; clear hK; refine hK _ _ ?_; clear hK)))
    (refine PL.callB rfl rfl (by kernel_rfl) (knows12_ok) (by simp [go_sem]) (by simp [go_sem]) (by simp [go_sem]) ?_)
    repeat (first | (refine PC.seq fun K hK => ?_) | (refine PC.block ?_) | (refine PC.region ?_) | (refine PL.k rfl fun KK hKK => ?_; simp (disch := omega) [go_sem, stepK]; refine hKK _ ?_; clear hKK KK) | (refine PL.k rfl fun KK hKK => ?_; simp [go_sem, stepK]; refine hKK _ ?_; clear hKK KK) | (refine PL.g rfl rfl fun KK hKK => ?_; simp (disch := omega) [go_sem, L.stepG]; refine hKK _ ?_; clear hKK KK) | (refine PL.g rfl rfl fun KK hKK => ?_; simp [go_sem, L.stepG]; refine hKK _ ?_; clear hKK KK) | (refine PL.done hK ?_; clear hK) | (refine PC.skip (hK _ _ ?_); clear hK) | (refine PC.condT ?_ ?_; focus (simp [go_sem]; done)) | (refine PC.condF ?_ ?_; focus (simp [go_sem]; done)) | (refine PC.exit ?_; first | (refine hK _ _ ?_; clear hK) | (clear hK; refine hK _ _ ?_; clear hK) | (clear hK; clear hK; refine hK _ _ ?_; clear hK)))
    (refine PC.ret ?_; refine fin (.inr rfl) (by simp [resP, resP1, Try.results11, go_sem]) (by simp [go_sem]))
  have h1' : ¬ (30 : Int) < v.size := by omega
  by_cases h2 : w.size ≤ 30
  rotate_left
  · have h2' : (30 : Int) < w.size := by omega
    repeat (first | (refine PC.seq fun K hK => ?_) | (refine PC.block ?_) | (refine PC.region ?_) | (refine PL.k rfl fun KK hKK => ?_; simp (disch := omega) [go_sem, stepK, hfew, h1', h2']; refine hKK _ ?_; clear hKK KK) | (refine PL.k rfl fun KK hKK => ?_; simp [go_sem, stepK, hfew, h1', h2']; refine hKK _ ?_; clear hKK KK) | (refine PL.g rfl rfl fun KK hKK => ?_; simp (disch := omega) [go_sem, L.stepG, hfew, h1', h2']; refine hKK _ ?_; clear hKK KK) | (refine PL.g rfl rfl fun KK hKK => ?_; simp [go_sem, L.stepG, hfew, h1', h2']; refine hKK _ ?_; clear hKK KK) | (refine PL.done hK ?_; clear hK) | (refine PC.skip (hK _ _ ?_); clear hK) | (refine PC.condT ?_ ?_; focus (simp [go_sem, hfew, h1', h2']; done)) | (refine PC.condF ?_ ?_; focus (simp [go_sem, hfew, h1', h2']; done)) | (refine PC.exit ?_; first | (refine hK _ _ ?_; clear hK) | (clear hK; refine hK _ _ ?_; clear hK) | (clear hK; clear hK; refine hK _ _ ?_; clear hK)))
    (refine PL.callB rfl rfl (by kernel_rfl) (knows12_ok) (by simp [go_sem]) (by simp [go_sem]) (by simp [go_sem]) ?_)
    repeat (first | (refine PC.seq fun K hK => ?_) | (refine PC.block ?_) | (refine PC.region ?_) | (refine PL.k rfl fun KK hKK => ?_; simp (disch := omega) [go_sem, stepK]; refine hKK _ ?_; clear hKK KK) | (refine PL.k rfl fun KK hKK => ?_; simp [go_sem, stepK]; refine hKK _ ?_; clear hKK KK) | (refine PL.g rfl rfl fun KK hKK => ?_; simp (disch := omega) [go_sem, L.stepG]; refine hKK _ ?_; clear hKK KK) | (refine PL.g rfl rfl fun KK hKK => ?_; simp [go_sem, L.stepG]; refine hKK _ ?_; clear hKK KK) | (refine PL.done hK ?_; clear hK) | (refine PC.skip (hK _ _ ?_); clear hK) | (refine PC.condT ?_ ?_; focus (simp [go_sem]; done)) | (refine PC.condF ?_ ?_; focus (simp [go_sem]; done)) | (refine PC.exit ?_; first | (refine hK _ _ ?_; clear hK) | (clear hK; refine hK _ _ ?_; clear hK) | (clear hK; clear hK; refine hK _ _ ?_; clear hK)))
    (refine PC.ret ?_; refine fin (.inr rfl) (by simp [resP, resP1, Try.results11, go_sem]) (by simp [go_sem]))
  have h2' : ¬ (30 : Int) < w.size := by omega
  by_cases h3 : v.size = 0
  · have hsn : v = ByteArray.empty := by simpa using h3
    subst hsn
    repeat (first | (refine PC.seq fun K hK => ?_) | (refine PC.block ?_) | (refine PC.region ?_) | (refine PL.k rfl fun KK hKK => ?_; simp (disch := omega) [go_sem, stepK, hfew, h2']; refine hKK _ ?_; clear hKK KK) | (refine PL.k rfl fun KK hKK => ?_; simp [go_sem, stepK, hfew, h2']; refine hKK _ ?_; clear hKK KK) | (refine PL.g rfl rfl fun KK hKK => ?_; simp (disch := omega) [go_sem, L.stepG, hfew, h2']; refine hKK _ ?_; clear hKK KK) | (refine PL.g rfl rfl fun KK hKK => ?_; simp [go_sem, L.stepG, hfew, h2']; refine hKK _ ?_; clear hKK KK) | (refine PL.done hK ?_; clear hK) | (refine PC.skip (hK _ _ ?_); clear hK) | (refine PC.condT ?_ ?_; focus (simp [go_sem, hfew, h2']; done)) | (refine PC.condF ?_ ?_; focus (simp [go_sem, hfew, h2']; done)) | (refine PC.exit ?_; first | (refine hK _ _ ?_; clear hK) | (clear hK; refine hK _ _ ?_; clear hK) | (clear hK; clear hK; refine hK _ _ ?_; clear hK)))
    (refine PL.callB rfl rfl (by kernel_rfl) (knows12_ok) (by simp [go_sem]) (by simp [go_sem]) (by simp [go_sem]) ?_)
    repeat (first | (refine PC.seq fun K hK => ?_) | (refine PC.block ?_) | (refine PC.region ?_) | (refine PL.k rfl fun KK hKK => ?_; simp (disch := omega) [go_sem, stepK]; refine hKK _ ?_; clear hKK KK) | (refine PL.k rfl fun KK hKK => ?_; simp [go_sem, stepK]; refine hKK _ ?_; clear hKK KK) | (refine PL.g rfl rfl fun KK hKK => ?_; simp (disch := omega) [go_sem, L.stepG]; refine hKK _ ?_; clear hKK KK) | (refine PL.g rfl rfl fun KK hKK => ?_; simp [go_sem, L.stepG]; refine hKK _ ?_; clear hKK KK) | (refine PL.done hK ?_; clear hK) | (refine PC.skip (hK _ _ ?_); clear hK) | (refine PC.condT ?_ ?_; focus (simp [go_sem]; done)) | (refine PC.condF ?_ ?_; focus (simp [go_sem]; done)) | (refine PC.exit ?_; first | (refine hK _ _ ?_; clear hK) | (clear hK; refine hK _ _ ?_; clear hK) | (clear hK; clear hK; refine hK _ _ ?_; clear hK)))
    (refine PC.ret ?_; refine fin (.inr rfl) (by simp [resP, resP1, Try.results11, go_sem]) (by simp [go_sem]))
  have hsn := str_ne h3
  have hv0 : 0 < v.size := by omega
  have h12 : l.length ≤ 12 := by unfold fewL at hfew; simp only [decide_eq_true_eq] at hfew; exact hfew.1
  have cF := fuseFuse_ok l h12
  have nb := fuseL_nb h12
  have hs : NetR (fuseL l) → (fuseL l).sets.length ≤ 1000 := fun _ => by have := few_sets hfew; omega
  have nn := fuseL_nn hnn
  generalize fuseL l = n at *
  repeat (first | (refine PC.seq fun K hK => ?_) | (refine PC.block ?_) | (refine PC.region ?_) | (refine PL.k rfl fun KK hKK => ?_; simp (disch := omega) [go_sem, stepK, hfew, h1', h2', hsn]; refine hKK _ ?_; clear hKK KK) | (refine PL.k rfl fun KK hKK => ?_; simp [go_sem, stepK, hfew, h1', h2', hsn]; refine hKK _ ?_; clear hKK KK) | (refine PL.g rfl rfl fun KK hKK => ?_; simp (disch := omega) [go_sem, L.stepG, hfew, h1', h2', hsn]; refine hKK _ ?_; clear hKK KK) | (refine PL.g rfl rfl fun KK hKK => ?_; simp [go_sem, L.stepG, hfew, h1', h2', hsn]; refine hKK _ ?_; clear hKK KK) | (refine PL.done hK ?_; clear hK) | (refine PC.skip (hK _ _ ?_); clear hK) | (refine PC.condT ?_ ?_; focus (simp [go_sem, hfew, h1', h2', hsn]; done)) | (refine PC.condF ?_ ?_; focus (simp [go_sem, hfew, h1', h2', hsn]; done)) | (refine PC.exit ?_; first | (refine hK _ _ ?_; clear hK) | (clear hK; refine hK _ _ ?_; clear hK) | (clear hK; clear hK; refine hK _ _ ?_; clear hK)))
  (refine PL.callB rfl rfl (by kernel_rfl) (cF) (by simp [go_sem]) (by simp [go_sem]) (by simp [go_sem]) ?_)
  refine PL.allocA 3 (d := 7) rfl rfl rfl (by simp) zeroC_61 rfl rfl fun v1 H1 b1 o1 => ?_
  refine PL.storeA (id := 3) (off := 0) rfl rfl (by simp [dstOk]) (by simp [go_sem]) b1 asz_61 (v := netV n) (by simp [go_sem]) (by simp [go_sem, okC]) rfl (by simp [go_sem]) (by simp) (cs' := [slS n.sets, slI n.of_, slB n.last, slLL n.follow, slI n.first]) rfl fun H2 b2 o2 => ?_
  repeat (first | (refine PC.seq fun K hK => ?_) | (refine PC.block ?_) | (refine PC.region ?_) | (refine PL.k rfl fun KK hKK => ?_; simp (disch := omega) [go_sem, stepK, b2]; refine hKK _ ?_; clear hKK KK) | (refine PL.k rfl fun KK hKK => ?_; simp [go_sem, stepK, b2]; refine hKK _ ?_; clear hKK KK) | (refine PL.g rfl rfl fun KK hKK => ?_; simp (disch := omega) [go_sem, L.stepG, b2]; refine hKK _ ?_; clear hKK KK) | (refine PL.g rfl rfl fun KK hKK => ?_; simp [go_sem, L.stepG, b2]; refine hKK _ ?_; clear hKK KK) | (refine PL.done hK ?_; clear hK) | (refine PC.skip (hK _ _ ?_); clear hK) | (refine PC.condT ?_ ?_; focus (simp [go_sem, b2]; done)) | (refine PC.condF ?_ ?_; focus (simp [go_sem, b2]; done)) | (refine PC.exit ?_; first | (refine hK _ _ ?_; clear hK) | (clear hK; refine hK _ _ ?_; clear hK) | (clear hK; clear hK; refine hK _ _ ?_; clear hK)))
  (refine PL.callB rfl rfl (by kernel_rfl) (fuseRun_ok n v (by omega) nb hs nn) (by simp [go_sem]) (by simp [go_sem]) (by simp [go_sem]) ?_)
  rw [← runK_app n v w v.size (Nat.le_refl _)]
  repeat (first | (refine PC.seq fun K hK => ?_) | (refine PC.block ?_) | (refine PC.region ?_) | (refine PL.k rfl fun KK hKK => ?_; simp (disch := omega) [go_sem, stepK]; refine hKK _ ?_; clear hKK KK) | (refine PL.k rfl fun KK hKK => ?_; simp [go_sem, stepK]; refine hKK _ ?_; clear hKK KK) | (refine PL.g rfl rfl fun KK hKK => ?_; simp (disch := omega) [go_sem, L.stepG]; refine hKK _ ?_; clear hKK KK) | (refine PL.g rfl rfl fun KK hKK => ?_; simp [go_sem, L.stepG]; refine hKK _ ?_; clear hKK KK) | (refine PL.done hK ?_; clear hK) | (refine PC.skip (hK _ _ ?_); clear hK) | (refine PC.condT ?_ ?_; focus (simp [go_sem]; done)) | (refine PC.condF ?_ ?_; focus (simp [go_sem]; done)) | (refine PC.exit ?_; first | (refine hK _ _ ?_; clear hK) | (clear hK; refine hK _ _ ?_; clear hK) | (clear hK; clear hK; refine hK _ _ ?_; clear hK)))
  refine PC.loop (fun m F H' => ∃ k : Nat, k ≤ w.size ∧ m = w.size - k ∧ F 1 = S v ∧ F 2 = S w ∧ F 7 = .pp 3 0 v1 ∧ F 8 = slI (runK n (v ++ w) (v.size + k)) ∧ F 9 = I k ∧ H' = H2) (m := w.size) ⟨0, by omega, by omega, by simp [go_sem], by simp [go_sem], by simp [go_sem], by simp [go_sem], by simp [go_sem], rfl⟩ fun m F H' hI => ?_
  obtain ⟨k, hk, hm, f1, f2, f7, f8, f9, rfl⟩ := hI
  have hlen := runK_len2 n (v ++ w) (v.size + k) hs
  by_cases hlt : k < w.size
  · have hlt' : (k : Int) < w.size := by omega
    have hby := byte_get hlt
    repeat (first | (refine PC.seq fun K hK => ?_) | (refine PC.block ?_) | (refine PC.region ?_) | (refine PL.k rfl fun KK hKK => ?_; simp (disch := omega) [go_sem, stepK, f2, f9, hlt']; refine hKK _ ?_; clear hKK KK) | (refine PL.k rfl fun KK hKK => ?_; simp [go_sem, stepK, f2, f9, hlt']; refine hKK _ ?_; clear hKK KK) | (refine PL.g rfl rfl fun KK hKK => ?_; simp (disch := omega) [go_sem, L.stepG, f2, f9, hlt']; refine hKK _ ?_; clear hKK KK) | (refine PL.g rfl rfl fun KK hKK => ?_; simp [go_sem, L.stepG, f2, f9, hlt']; refine hKK _ ?_; clear hKK KK) | (refine PL.done hK ?_; clear hK) | (refine PC.skip (hK _ _ ?_); clear hK) | (refine PC.condT ?_ ?_; focus (simp [go_sem, f2, f9, hlt']; done)) | (refine PC.condF ?_ ?_; focus (simp [go_sem, f2, f9, hlt']; done)) | (refine PC.exit ?_; first | (refine hK _ _ ?_; clear hK) | (clear hK; refine hK _ _ ?_; clear hK) | (clear hK; clear hK; refine hK _ _ ?_; clear hK)))
    refine PC.regionQ mixed (by kernel_rfl) ?_
    repeat (first | (refine QF.k rfl fun KK hKK => ?_; simp (disch := omega) [go_sem, stepK, f2, f7, f8, f9, b2, hlt, hlt', hby]; refine hKK _ ?_; clear hKK KK) | (refine QF.k rfl fun KK hKK => ?_; simp [go_sem, stepK, f2, f7, f8, f9, b2, hlt, hlt', hby]; refine hKK _ ?_; clear hKK KK) | (refine QF.g rfl rfl fun KK hKK => ?_; simp (disch := omega) [go_sem, L.stepG, f2, f7, f8, f9, b2, hlt, hlt', hby]; refine hKK _ ?_; clear hKK KK) | (refine QF.g rfl rfl fun KK hKK => ?_; simp [go_sem, L.stepG, f2, f7, f8, f9, b2, hlt, hlt', hby]; refine hKK _ ?_; clear hKK KK))
    (refine QF.callB rfl rfl (by kernel_rfl) (fuseStep_ok n (runK n (v ++ w) (v.size + k)) (byteAt w k) (byteAt_lt _ _) (by omega) nb hs nn) (by simp [go_sem]) (by simp [go_sem]) (by simp [go_sem]) ?_)
    repeat (first | (refine QF.k rfl fun KK hKK => ?_; simp (disch := omega) [go_sem, stepK]; refine hKK _ ?_; clear hKK KK) | (refine QF.k rfl fun KK hKK => ?_; simp [go_sem, stepK]; refine hKK _ ?_; clear hKK KK) | (refine QF.g rfl rfl fun KK hKK => ?_; simp (disch := omega) [go_sem, L.stepG]; refine hKK _ ?_; clear hKK KK) | (refine QF.g rfl rfl fun KK hKK => ?_; simp [go_sem, L.stepG]; refine hKK _ ?_; clear hKK KK))
    refine QF.done hK ?_; clear hK
    repeat (first | (refine PC.seq fun K hK => ?_) | (refine PC.block ?_) | (refine PC.region ?_) | (refine PL.k rfl fun KK hKK => ?_; simp (disch := omega) [go_sem, stepK, f9]; refine hKK _ ?_; clear hKK KK) | (refine PL.k rfl fun KK hKK => ?_; simp [go_sem, stepK, f9]; refine hKK _ ?_; clear hKK KK) | (refine PL.g rfl rfl fun KK hKK => ?_; simp (disch := omega) [go_sem, L.stepG, f9]; refine hKK _ ?_; clear hKK KK) | (refine PL.g rfl rfl fun KK hKK => ?_; simp [go_sem, L.stepG, f9]; refine hKK _ ?_; clear hKK KK) | (refine PL.done hK ?_; clear hK) | (refine PC.skip (hK _ _ ?_); clear hK) | (refine PC.condT ?_ ?_; focus (simp [go_sem, f9]; done)) | (refine PC.condF ?_ ?_; focus (simp [go_sem, f9]; done)) | (refine PC.exit ?_; first | (refine hK _ _ ?_; clear hK) | (clear hK; refine hK _ _ ?_; clear hK) | (clear hK; clear hK; refine hK _ _ ?_; clear hK)))
    refine PL.nil ⟨w.size - (k + 1), by omega, k + 1, by omega, by omega, by simp [go_sem, f1], by simp [go_sem, f2], by simp [go_sem, f7], by simp [go_sem, runK_more n v w hv0 k], by simp [go_sem], rfl⟩
  have hlt' : ¬ (k : Int) < w.size := by omega
  have hke : k = w.size := by omega
  have hsz : (v ++ w).size = v.size + w.size := ByteArray.size_append ..
  have hle : (v.extract 0 1).size = 1 := by simp [ByteArray.size_extract]; omega
  have cR1 := fuseRun_ok n (v ++ w) (by omega) nb hs nn
  have cR2 := fuseRun_ok n (v.extract 0 1) (by omega) nb hs nn
  have cS := fuseStart_ok n (byteAt v 0) (byteAt_lt _ _) nb hs nn
  have e1 : runK n (v.extract 0 1) (v.extract 0 1).size = startN n (byteAt v 0) := by rw [hle, runK, if_pos rfl, byteAt_one v hv0]
  rw [e1] at cR2
  rw [hsz] at cR1
  rw [hke] at f8
  have cSame := same_refl (runK_lenS hs (v ++ w) (v.size + w.size))
  have cSame2 := same_refl (startN_lenS hs (byteAt v 0))
  have cRt := ref11Right_ok (runK n (v ++ w) (v.size + w.size)) (by have := runK_lenS hs (v ++ w) (v.size + w.size); omega)
  rw [(rightL_rise _).2 (runK_rise n (v ++ w) (v.size + w.size))] at cRt
  generalize runK n (v ++ w) (v.size + w.size) = A at *
  have hby := byte_get hv0
  have hvw : v.size + w.size ≤ 9223372036854775807 := by omega
  have hv1 : 1 ≤ v.size := hv0
  repeat (first | (refine PC.seq fun K hK => ?_) | (refine PC.block ?_) | (refine PC.region ?_) | (refine PL.k rfl fun KK hKK => ?_; simp (disch := omega) [go_sem, stepK, f1, f2, f9, hlt']; refine hKK _ ?_; clear hKK KK) | (refine PL.k rfl fun KK hKK => ?_; simp [go_sem, stepK, f1, f2, f9, hlt']; refine hKK _ ?_; clear hKK KK) | (refine PL.g rfl rfl fun KK hKK => ?_; simp (disch := omega) [go_sem, L.stepG, f1, f2, f9, hlt']; refine hKK _ ?_; clear hKK KK) | (refine PL.g rfl rfl fun KK hKK => ?_; simp [go_sem, L.stepG, f1, f2, f9, hlt']; refine hKK _ ?_; clear hKK KK) | (refine PL.done hK ?_; clear hK) | (refine PC.skip (hK _ _ ?_); clear hK) | (refine PC.condT ?_ ?_; focus (simp [go_sem, f1, f2, f9, hlt']; done)) | (refine PC.condF ?_ ?_; focus (simp [go_sem, f1, f2, f9, hlt']; done)) | (refine PC.exit ?_; first | (refine hK _ _ ?_; clear hK) | (clear hK; refine hK _ _ ?_; clear hK) | (clear hK; clear hK; refine hK _ _ ?_; clear hK)))
  refine PC.regionQ mixed (by kernel_rfl) ?_
  repeat (first | (refine QF.k rfl fun KK hKK => ?_; simp (disch := omega) [go_sem, stepK, f1, f2, f7, b2, hvw]; refine hKK _ ?_; clear hKK KK) | (refine QF.k rfl fun KK hKK => ?_; simp [go_sem, stepK, f1, f2, f7, b2, hvw]; refine hKK _ ?_; clear hKK KK) | (refine QF.g rfl rfl fun KK hKK => ?_; simp (disch := omega) [go_sem, L.stepG, f1, f2, f7, b2, hvw]; refine hKK _ ?_; clear hKK KK) | (refine QF.g rfl rfl fun KK hKK => ?_; simp [go_sem, L.stepG, f1, f2, f7, b2, hvw]; refine hKK _ ?_; clear hKK KK))
  (refine QF.callB rfl rfl (by kernel_rfl) (cR1) (by simp [go_sem]) (by simp [go_sem]) (by simp [go_sem]) ?_)
  repeat (first | (refine QF.k rfl fun KK hKK => ?_; simp (disch := omega) [go_sem, stepK, f8]; refine hKK _ ?_; clear hKK KK) | (refine QF.k rfl fun KK hKK => ?_; simp [go_sem, stepK, f8]; refine hKK _ ?_; clear hKK KK) | (refine QF.g rfl rfl fun KK hKK => ?_; simp (disch := omega) [go_sem, L.stepG, f8]; refine hKK _ ?_; clear hKK KK) | (refine QF.g rfl rfl fun KK hKK => ?_; simp [go_sem, L.stepG, f8]; refine hKK _ ?_; clear hKK KK))
  (refine QF.callB rfl rfl (by kernel_rfl) (cSame) (by simp [go_sem]) (by simp [go_sem]) (by simp [go_sem]) ?_)
  repeat (first | (refine QF.k rfl fun KK hKK => ?_; simp (disch := omega) [go_sem, stepK, f1, f7, b2, hv0, hby]; refine hKK _ ?_; clear hKK KK) | (refine QF.k rfl fun KK hKK => ?_; simp [go_sem, stepK, f1, f7, b2, hv0, hby]; refine hKK _ ?_; clear hKK KK) | (refine QF.g rfl rfl fun KK hKK => ?_; simp (disch := omega) [go_sem, L.stepG, f1, f7, b2, hv0, hby]; refine hKK _ ?_; clear hKK KK) | (refine QF.g rfl rfl fun KK hKK => ?_; simp [go_sem, L.stepG, f1, f7, b2, hv0, hby]; refine hKK _ ?_; clear hKK KK))
  (refine QF.callg rfl rfl (by simp [go_sem]) (by simp [dstOk]) (PQ.callB rfl (target_func _ _ _) (by kernel_rfl) (by simp [go_sem]) (by simp [go_sem]) (cS)) ?_)
  repeat (first | (refine QF.k rfl fun KK hKK => ?_; simp (disch := omega) [go_sem, stepK, f1, f7, b2, hv1]; refine hKK _ ?_; clear hKK KK) | (refine QF.k rfl fun KK hKK => ?_; simp [go_sem, stepK, f1, f7, b2, hv1]; refine hKK _ ?_; clear hKK KK) | (refine QF.g rfl rfl fun KK hKK => ?_; simp (disch := omega) [go_sem, L.stepG, f1, f7, b2, hv1]; refine hKK _ ?_; clear hKK KK) | (refine QF.g rfl rfl fun KK hKK => ?_; simp [go_sem, L.stepG, f1, f7, b2, hv1]; refine hKK _ ?_; clear hKK KK))
  (refine QF.callg rfl rfl (by simp [go_sem]) (by simp [dstOk]) (PQ.callB rfl (target_func _ _ _) (by kernel_rfl) (by simp [go_sem]) (by simp [go_sem]) (cR2)) ?_)
  (refine QF.callg rfl rfl (by simp [go_sem]) (by simp [dstOk]) (PQ.callB rfl (target_func _ _ _) (by kernel_rfl) (by simp [go_sem]) (by simp [go_sem]) (cSame2)) ?_)
  repeat (first | (refine QF.k rfl fun KK hKK => ?_; simp (disch := omega) [go_sem, stepK, f8]; refine hKK _ ?_; clear hKK KK) | (refine QF.k rfl fun KK hKK => ?_; simp [go_sem, stepK, f8]; refine hKK _ ?_; clear hKK KK) | (refine QF.g rfl rfl fun KK hKK => ?_; simp (disch := omega) [go_sem, L.stepG, f8]; refine hKK _ ?_; clear hKK KK) | (refine QF.g rfl rfl fun KK hKK => ?_; simp [go_sem, L.stepG, f8]; refine hKK _ ?_; clear hKK KK))
  (refine QF.callg rfl rfl (by simp [go_sem]) (by simp [dstOk]) (PQ.callB rfl (target_func _ _ _) (by kernel_rfl) (by simp [go_sem]) (by simp [go_sem]) (cRt)) ?_)
  repeat (first | (refine QF.k rfl fun KK hKK => ?_; simp (disch := omega) [go_sem, stepK]; refine hKK _ ?_; clear hKK KK) | (refine QF.k rfl fun KK hKK => ?_; simp [go_sem, stepK]; refine hKK _ ?_; clear hKK KK) | (refine QF.g rfl rfl fun KK hKK => ?_; simp (disch := omega) [go_sem, L.stepG]; refine hKK _ ?_; clear hKK KK) | (refine QF.g rfl rfl fun KK hKK => ?_; simp [go_sem, L.stepG]; refine hKK _ ?_; clear hKK KK))
  (refine QF.callg rfl rfl (by simp [go_sem]) (by simp [dstOk]) (PQ.callB rfl (target_func _ _ _) (by kernel_rfl) (by simp [go_sem]) (by simp [go_sem]) (knows12_ok)) ?_)
  repeat (first | (refine QF.k rfl fun KK hKK => ?_; simp (disch := omega) [go_sem, stepK]; refine hKK _ ?_; clear hKK KK) | (refine QF.k rfl fun KK hKK => ?_; simp [go_sem, stepK]; refine hKK _ ?_; clear hKK KK) | (refine QF.g rfl rfl fun KK hKK => ?_; simp (disch := omega) [go_sem, L.stepG]; refine hKK _ ?_; clear hKK KK) | (refine QF.g rfl rfl fun KK hKK => ?_; simp [go_sem, L.stepG]; refine hKK _ ?_; clear hKK KK))
  refine QF.done hK ?_; clear hK
  (refine PC.ret ?_; refine fin (.inr rfl) (by simp [resP, resP1, Try.results11, go_sem]) (by simp [go_sem]))
end Go.Proofs.Ytficeeaaaijgcaa

/-
  The spots of tokens together, and those of each: plain facts; no program here.
-/
namespace Go.Proofs.Ytficeeaaaijgcaa
open Go Go.RowKit L
set_option linter.unusedVariables false
set_option linter.unusedSimpArgs false

/-- where the spots of token t begin -/
def byT (l : List Tok) (t : Nat) : Nat := (fuseK l t).sets.length
theorem byT_succ (l : List Tok) (t : Nat) (h : t < l.length) : byT l (t + 1) = byT l t + (spSets l[t].rex).length := by
  unfold byT; rw [fuseK_succ l t h]; simp [fuseS, fuseI]
theorem byT_mono (l : List Tok) : ∀ (t u : Nat), t ≤ u → u ≤ l.length → byT l t ≤ byT l u := by
  intro t u
  induction u with
  | zero => intro h _; obtain rfl : t = 0 := (by omega); exact Nat.le_refl _
  | succ u ih =>
    intro h hu
    by_cases e : t = u + 1
    · subst e; exact Nat.le_refl _
    · have := ih (by omega) (by omega); have := byT_succ l u (by omega); omega
/-- what the net tells of spot i of token t -/
structure SpotAt (n : Net) (t b i : Nat) (r : List Rx) : Prop where
  s : n.sets[b + i]? = (spSets r)[i]?
  o : n.of_[b + i]? = some (t : Int)
  l : n.last[b + i]? = some (decide ((i : Int) ∈ spLast r))
  f : n.follow[b + i]? = some (moreL (spFollow r i) b)
theorem spotAt (l : List Tok) : ∀ (k : Nat), k ≤ l.length → ∀ (t : Nat) (ht : t < l.length), t < k → ∀ i, i < (spSets l[t].rex).length → SpotAt (fuseK l k) t (byT l t) i l[t].rex := by
  intro k
  induction k with
  | zero => intro _ t ht h; omega
  | succ k ih =>
    intro hk t ht htk i hi
    have hR := fuseK_R l k
    have hmono := byT_mono l t k (by omega) (by omega)
    rw [fuseK_succ l k (by omega)]
    by_cases e : t = k
    · subst e
      have e1 : (fuseK l t).of_.length = byT l t := hR.o
      have e2 : (fuseK l t).last.length = byT l t := hR.l
      have e3 : (fuseK l t).follow.length = byT l t := hR.f
      have e0 : (fuseK l t).sets.length = byT l t := rfl
      refine ⟨?_, ?_, ?_, ?_⟩
      · simp only [fuseS, fuseI]
        rw [List.getElem?_append_right (by omega), e0, Nat.add_sub_cancel_left, List.take_length]
      · simp only [fuseS, fuseI]
        rw [List.getElem?_append_right (by omega), e1, Nat.add_sub_cancel_left]
        simp [hi]
      · simp only [fuseS, fuseI]
        rw [List.getElem?_append_right (by omega), e2, Nat.add_sub_cancel_left]
        simp [hi]
      · simp only [fuseS, fuseI]
        rw [List.getElem?_append_right (by omega), e3, Nat.add_sub_cancel_left]
        simp [hi, e0]
    · have hb := byT_succ l t ht
      have hm2 := byT_mono l (t + 1) k (by omega) (by omega)
      have e0 : (fuseK l k).sets.length = byT l k := rfl
      obtain ⟨a, b, c, d⟩ := ih (by omega) t ht (by omega) i hi
      have h1 : byT l t + i < byT l k := by omega
      refine ⟨?_, ?_, ?_, ?_⟩
      · simp only [fuseS, fuseI]; rw [List.getElem?_append_left (by omega)]; exact a
      · simp only [fuseS, fuseI]; rw [List.getElem?_append_left (by rw [hR.o]; omega)]; exact b
      · simp only [fuseS, fuseI]; rw [List.getElem?_append_left (by rw [hR.l]; omega)]; exact c
      · simp only [fuseS, fuseI]; rw [List.getElem?_append_left (by rw [hR.f]; omega)]; exact d
theorem cover (l : List Tok) : ∀ (k : Nat), k ≤ l.length → ∀ x : Nat, x < byT l k → ∃ (t : Nat) (ht : t < l.length) (i : Nat), t < k ∧ i < (spSets l[t].rex).length ∧ x = byT l t + i := by
  intro k
  induction k with
  | zero => intro _ x hx; simp [byT, fuseK] at hx
  | succ k ih =>
    intro hk x hx
    rw [byT_succ l k (by omega)] at hx
    by_cases h : x < byT l k
    · obtain ⟨t, ht, i, h1, h2, h3⟩ := ih (by omega) x h
      exact ⟨t, ht, i, by omega, h2, h3⟩
    · exact ⟨k, by omega, x - byT l k, by omega, by omega, by omega⟩
theorem first_mem (l : List Tok) : ∀ (k : Nat), k ≤ l.length → ∀ x : Int, x ∈ (fuseK l k).first ↔ ∃ (t : Nat) (ht : t < l.length), t < k ∧ ∃ i ∈ spFirst l[t].rex, x = i + byT l t := by
  intro k
  induction k with
  | zero => intro _ x; simp [fuseK]
  | succ k ih =>
    intro hk x
    rw [fuseK_succ l k (by omega)]
    simp only [fuseS, List.mem_append, ih (by omega) x, moreL, List.mem_map]
    constructor
    · rintro (⟨t, ht, h1, h2⟩ | ⟨i, h1, h2⟩)
      · exact ⟨t, ht, by omega, h2⟩
      · exact ⟨k, by omega, by omega, i, h1, h2.symm⟩
    · rintro ⟨t, ht, h1, i, h2, h3⟩
      by_cases e : t = k
      · subst e; exact .inr ⟨i, h2, h3.symm⟩
      · exact .inl ⟨t, ht, by omega, i, h2, h3⟩
/-- one token and one spot of it -/
theorem spot_one (l : List Tok) {t u i j : Nat} (ht : t < l.length) (hu : u < l.length) (hi : i < (spSets l[t].rex).length) (hj : j < (spSets l[u].rex).length) (h : byT l t + i = byT l u + j) : t = u ∧ i = j := by
  have a := byT_succ l t ht
  have b := byT_succ l u hu
  by_cases e : t = u
  · subst e; exact ⟨rfl, by omega⟩
  · rcases Nat.lt_or_gt_of_ne e with e | e
    · have := byT_mono l (t + 1) u e (by omega); omega
    · have := byT_mono l (u + 1) t e (by omega); omega

/-- the spots of one expression that a word leads to -/
def NowP (r : List Rx) (w : ByteArray) : Nat → Int → Prop
  | 0, _ => False
  | k + 1, i => (if k = 0 then i ∈ spFirst r else ∃ j, NowP r w k j ∧ i ∈ spFollow r j) ∧ hasI (spSets r) i (byteAt w k) = true
theorem NowP.range {r : List Rx} {w : ByteArray} {k : Nat} {i : Int} (h : NowP r w k i) : 0 ≤ i ∧ i < (spSets r).length := by
  have hr := sp_facts r
  cases k with
  | zero => exact h.elim
  | succ k =>
    obtain ⟨h1, _⟩ := h
    split at h1
    · exact hr.first.2 i h1
    · obtain ⟨j, _, h2⟩ := h1; exact (hr.fol j).2 i h2
theorem hasI_at {n : Net} {t b : Nat} {r : List Rx} {i : Nat} (h : SpotAt n t b i r) (c : Nat) : hasI n.sets ((i : Int) + b) c = hasI (spSets r) i c := by
  unfold hasI
  rw [show ((i : Int) + b).toNat = b + i by omega, show ((i : Int)).toNat = i by omega, List.getD_eq_getElem?_getD, List.getD_eq_getElem?_getD, h.s]
theorem sets_lt {l : List Tok} {t : Nat} (ht : t < l.length) {i : Int} (h : 0 ≤ i ∧ i < (spSets l[t].rex).length) : 0 ≤ i + (byT l t : Int) ∧ i + (byT l t : Int) < (fuseL l).sets.length := by
  have a := byT_succ l t ht
  have b := byT_mono l (t + 1) l.length ht (Nat.le_refl _)
  have c : byT l l.length = (fuseL l).sets.length := rfl
  omega
theorem run_mem (l : List Tok) (w : ByteArray) : ∀ (k : Nat) (x : Int), x ∈ runK (fuseL l) w k ↔ ∃ (t : Nat) (ht : t < l.length) (i : Int), NowP l[t].rex w k i ∧ x = i + byT l t := by
  have hR := fuseL_right l
  have at_ := spotAt l l.length (Nat.le_refl _)
  intro k
  induction k with
  | zero => intro x; simp [runK, NowP]
  | succ k ih =>
    intro x
    rw [runK]
    by_cases hk : k = 0
    · subst hk
      rw [if_pos rfl]
      unfold startN
      rw [if_pos hR, withL_mem, show (fuseL l).first = (fuseK l l.length).first from rfl, first_mem l _ (Nat.le_refl _)]
      constructor
      · rintro ⟨_, ⟨t, ht, _, i, h1, rfl⟩, h2⟩
        have hi := (sp_facts l[t].rex).first.2 i h1
        have hs := at_ t ht ht i.toNat (by omega)
        have he := hasI_at hs (byteAt w 0)
        rw [show ((i.toNat : Nat) : Int) = i by omega] at he
        have he : hasI (fuseL l).sets (i + (byT l t : Int)) (byteAt w 0) = hasI (spSets l[t].rex) i (byteAt w 0) := he
        rw [he] at h2
        exact ⟨t, ht, i, ⟨by rw [if_pos rfl]; exact h1, h2⟩, rfl⟩
      · rintro ⟨t, ht, i, hN, rfl⟩
        have hi := hN.range
        obtain ⟨h1, h2⟩ := hN
        rw [if_pos rfl] at h1
        have hs := at_ t ht ht i.toNat (by omega)
        have he := hasI_at hs (byteAt w 0)
        rw [show ((i.toNat : Nat) : Int) = i by omega] at he
        have he : hasI (fuseL l).sets (i + (byT l t : Int)) (byteAt w 0) = hasI (spSets l[t].rex) i (byteAt w 0) := he
        exact ⟨sets_lt ht hi, ⟨t, ht, ht, i, h1, rfl⟩, by rw [he]; exact h2⟩
    · rw [if_neg hk]
      unfold stepN
      rw [if_pos hR]
      unfold stepW
      rw [withL_mem]
      have fol : ∀ (t : Nat) (ht : t < l.length) (j : Int), 0 ≤ j ∧ j < (spSets l[t].rex).length → folN (fuseL l) (j + byT l t) = moreL (spFollow l[t].rex j) (byT l t) := fun t ht j hj => by
        have hs := at_ t ht ht j.toNat (by omega)
        unfold folN
        rw [if_pos (sets_lt ht hj), List.getD_eq_getElem?_getD, show (j + (byT l t : Int)).toNat = byT l t + j.toNat by omega]
        have hf : (fuseL l).follow[byT l t + j.toNat]? = _ := hs.f
        rw [hf, show ((j.toNat : Nat) : Int) = j by omega]
        rfl
      have all : ∀ y, y ∈ allR (fuseL l) (runK (fuseL l) w k) ↔ ∃ (t : Nat) (ht : t < l.length) (j : Int), NowP l[t].rex w k j ∧ y ∈ moreL (spFollow l[t].rex j) (byT l t) := fun y => by
        unfold allR
        rw [List.mem_flatMap]
        constructor
        · rintro ⟨z, hz, hy⟩
          obtain ⟨t, ht, j, h1, rfl⟩ := (ih z).1 hz
          rw [fol t ht j h1.range] at hy
          exact ⟨t, ht, j, h1, hy⟩
        · rintro ⟨t, ht, j, h1, hy⟩
          exact ⟨_, (ih _).2 ⟨t, ht, j, h1, rfl⟩, by rw [fol t ht j h1.range]; exact hy⟩
      rw [all]
      constructor
      · rintro ⟨_, ⟨t, ht, j, h1, hy⟩, h2⟩
        obtain ⟨i, hi, rfl⟩ := List.mem_map.1 hy
        have hir := ((sp_facts l[t].rex).fol j).2 i hi
        have hs := at_ t ht ht i.toNat (by omega)
        have he := hasI_at hs (byteAt w k)
        rw [show ((i.toNat : Nat) : Int) = i by omega] at he
        have he : hasI (fuseL l).sets (i + (byT l t : Int)) (byteAt w k) = hasI (spSets l[t].rex) i (byteAt w k) := he
        rw [he] at h2
        exact ⟨t, ht, i, ⟨by rw [if_neg hk]; exact ⟨j, h1, hi⟩, h2⟩, rfl⟩
      · rintro ⟨t, ht, i, hN, rfl⟩
        have hir := hN.range
        obtain ⟨h1, h2⟩ := hN
        rw [if_neg hk] at h1
        obtain ⟨j, h3, h4⟩ := h1
        have hs := at_ t ht ht i.toNat (by omega)
        have he := hasI_at hs (byteAt w k)
        rw [show ((i.toNat : Nat) : Int) = i by omega] at he
        have he : hasI (fuseL l).sets (i + (byT l t : Int)) (byteAt w k) = hasI (spSets l[t].rex) i (byteAt w k) := he
        exact ⟨sets_lt ht hir, ⟨t, ht, j, h3, List.mem_map.2 ⟨i, h4, rfl⟩⟩, by rw [he]; exact h2⟩

/-- whether a word is said, by the spots -/
def SaysP (r : List Rx) (w : ByteArray) : Prop := ∃ i, NowP r w w.size i ∧ i ∈ spLast r
def saysR (r : List Rx) (w : ByteArray) : Bool := if checkL r = 0 then (match runT w r with | [m] => m 0 w.size | _ => false) else false
theorem saysR_good {r : List Rx} {e : E} (he : WfX r e) (w : ByteArray) : saysR r w = saysT e w := by
  unfold saysR
  rw [if_pos he.check]
  have hr : runT w r = [tabT w e] := by rw [he.2]; simpa [runT] using runT_post w e []
  rw [hr]
  rfl
theorem says_spots (r : List Rx) (w : ByteArray) (hw : 0 < w.size) : saysR r w = true ↔ SaysP r w := by
  by_cases h : checkL r = 0
  · obtain ⟨e, he⟩ := wfx_of r h
    obtain ⟨hS, hF, hL, hE, hO⟩ := sp_of he
    rw [saysR_good he, ← words_law]
    have now : ∀ k i, i ∈ nowN e w k ↔ NowP r w k i := by
      intro k
      induction k with
      | zero => intro i; simp [nowN, NowP]
      | succ k ih =>
        intro i
        rw [nowN, filtL_mem, NowP, hS]
        unfold nextN
        by_cases hk : k = 0
        · subst hk; simp [hF]
        · rw [if_neg hk, if_neg hk, List.mem_flatMap]
          constructor
          · rintro ⟨⟨j, h1, h2⟩, h3⟩; exact ⟨⟨j, (ih j).1 h1, by rw [hO]; exact h2⟩, h3⟩
          · rintro ⟨⟨j, h1, h2⟩, h3⟩; exact ⟨⟨j, (ih j).2 h1, by rw [hO] at h2; exact h2⟩, h3⟩
    have hz : decide (w.size = 0) = false := decide_eq_false (by omega)
    rw [hz, Bool.false_and, Bool.false_or, List.any_eq_true]
    unfold SaysP
    simp only [decide_eq_true_eq, hL]
    constructor
    · rintro ⟨x, h1, h2⟩; exact ⟨x, (now _ x).1 h1, h2⟩
    · rintro ⟨x, h1, h2⟩; exact ⟨x, (now _ x).2 h1, h2⟩
  · have e3 : spLast r = [] := by unfold spLast; rw [if_neg h]
    unfold saysR SaysP
    rw [if_neg h, e3]
    simp

/-! the token of some spots -/
theorem tokK_spec (n : Net) (hop : ∀ x, 0 ≤ ofT n x) : ∀ (at_ : List Int), (tokK n at_ = -1 ∧ ∀ x ∈ at_, okT n x = false) ∨ ∃ x ∈ at_, okT n x = true ∧ tokK n at_ = ofT n x ∧ ∀ y ∈ at_, okT n y = true → ofT n x ≤ ofT n y := by
  suffices ∀ (at_ : List Int) (k : Nat), k ≤ at_.length → (tokK n (at_.take k) = -1 ∧ ∀ x ∈ at_.take k, okT n x = false) ∨ ∃ x ∈ at_.take k, okT n x = true ∧ tokK n (at_.take k) = ofT n x ∧ ∀ y ∈ at_.take k, okT n y = true → ofT n x ≤ ofT n y by
    intro at_
    have := this at_ at_.length (Nat.le_refl _)
    rwa [List.take_length] at this
  intro at_ k
  induction k with
  | zero => intro _; left; simp [tokK]
  | succ k ih =>
    intro hk
    have hs := tokK_succ n at_ k (by omega)
    have ht : at_.take (k + 1) = at_.take k ++ [at_[k]] := by rw [List.take_succ_eq_append_getElem (by omega)]
    rw [hs, ht]
    have hz := hop at_[k]
    generalize at_[k] = z at *
    unfold tokF
    cases hok : okT n z
    · rw [if_neg (by simp)]
      rcases ih (by omega) with ⟨h1, h2⟩ | ⟨x, hx, h1, h2, h3⟩
      · left
        refine ⟨h1, fun x hx => ?_⟩
        simp only [List.mem_append, List.mem_singleton] at hx
        rcases hx with hx | rfl
        · exact h2 x hx
        · exact hok
      · right
        refine ⟨x, List.mem_append_left _ hx, h1, h2, fun y hy hy2 => ?_⟩
        simp only [List.mem_append, List.mem_singleton] at hy
        rcases hy with hy | rfl
        · exact h3 y hy hy2
        · rw [hok] at hy2; cases hy2
    · rw [if_pos rfl]
      right
      rcases ih (by omega) with ⟨h1, h2⟩ | ⟨x, hx, h1, h2, h3⟩
      · refine ⟨z, by simp, hok, by rw [h1]; simp, fun y hy hy2 => ?_⟩
        simp only [List.mem_append, List.mem_singleton] at hy
        rcases hy with hy | rfl
        · rw [h2 y hy] at hy2; cases hy2
        · exact Int.le_refl _
      · have hx0 := hop x
        by_cases hc : ofT n z < ofT n x
        · refine ⟨z, by simp, hok, by rw [h2, if_pos (.inr hc)], fun y hy hy2 => ?_⟩
          simp only [List.mem_append, List.mem_singleton] at hy
          rcases hy with hy | rfl
          · have := h3 y hy hy2; omega
          · exact Int.le_refl _
        · refine ⟨x, List.mem_append_left _ hx, h1, by rw [h2, if_neg (by omega)], fun y hy hy2 => ?_⟩
          simp only [List.mem_append, List.mem_singleton] at hy
          rcases hy with hy | rfl
          · exact h3 y hy hy2
          · omega
end Go.Proofs.Ytficeeaaaijgcaa
