/-
  Texts of this proof, put together: Fi, Fj, Fk, Fl, Fm, Fn, Fo, Fp, Row, OpX, OpN.
-/
import Derived.ProofKit
import Derived.OpenShut
import Derived.Deep.Slices
import Derived.Test.YtficeeaaaijgcaaQ5FuseLeads

/-
  Where a word leads in a net, and the token that is read: the package fuse and chapter 12's reference.
-/
namespace Go.Proofs.Ytficeeaaaijgcaa
open Go Go.RowKit L
set_option linter.unusedVariables false
set_option linter.unusedSimpArgs false

def runK (n : Net) (w : ByteArray) : Nat → List Int
  | 0 => []
  | k + 1 => if k = 0 then startN n (byteAt w 0) else stepN n (runK n w k) (byteAt w k)
theorem withL_len (sets : List Rx) (l : List Int) (b : Nat) : (withL sets l b).length ≤ sets.length := withK_len sets l b _
theorem startN_len (n : Net) (b : Nat) : (startN n b).length ≤ n.sets.length := by unfold startN; split; exact withL_len _ _ _; simp
theorem stepN_len (n : Net) (l : List Int) (b : Nat) : (stepN n l b).length ≤ n.sets.length := by unfold stepN; split; exact withL_len _ _ _; simp
theorem runK_len (n : Net) (w : ByteArray) (k : Nat) : (runK n w k).length ≤ n.sets.length := by
  cases k with
  | zero => simp [runK]
  | succ k => rw [runK]; split; exact startN_len _ _; exact stepN_len _ _ _
theorem stepN_nil (n : Net) (b : Nat) : stepN n [] b = [] := by
  unfold stepN
  split
  · simp [stepW, allR, withL]
  · rfl
theorem startN_len2 (n : Net) (b : Nat) (hs : NetR n → n.sets.length ≤ 1000) : (startN n b).length ≤ 1000 := by
  unfold startN
  split
  · rename_i h; have := withL_len n.sets n.first b; have := hs ((rightN_iff n).1 h); omega
  · simp
theorem stepN_len2 (n : Net) (l : List Int) (b : Nat) (hs : NetR n → n.sets.length ≤ 1000) : (stepN n l b).length ≤ 1000 := by
  unfold stepN
  split
  · rename_i h; have := withL_len n.sets (allR n l) b; have := hs ((rightN_iff n).1 h); unfold stepW; omega
  · simp
theorem runK_len2 (n : Net) (w : ByteArray) (k : Nat) (hs : NetR n → n.sets.length ≤ 1000) : (runK n w k).length ≤ 1000 := by
  cases k with
  | zero => simp [runK]
  | succ k => rw [runK]; split; exact startN_len2 _ _ hs; exact stepN_len2 _ _ _ hs
theorem runK_nil (n : Net) (w : ByteArray) (k : Nat) (hk : 1 ≤ k) (h : runK n w k = []) : ∀ j, k ≤ j → runK n w j = [] := by
  intro j
  induction j with
  | zero => intro hj; omega
  | succ j ih =>
    intro hj
    by_cases e : j + 1 = k
    · rw [e]; exact h
    · rw [runK, if_neg (by omega), ih (by omega), stepN_nil]

set_option maxRecDepth 20000 in
set_option maxHeartbeats 4000000 in
theorem refRun_ok (n : Net) (w : ByteArray) (hw : w.size ≤ 1000) (hn : Nb n) (hs : NetR n → n.sets.length ≤ 1000) : PCall Try.prog 55 [netV n, S w] (· = slI (runK n w w.size)) := by
  refine PCall.intro' Try.func55 rfl Try.ntmps55 (by simp) fun W => ?_
  refine PC.seq fun K hK => ?_
  refine PC.region ?_
  refine PL.boxA 1 (d := 2) rfl rfl rfl (by simp) (v := netV n) (by simp [go_sem]) (by simp [go_sem, okC]) rfl fun v H1 b1 o1 => ?_
  have b1 := netBox b1
  repeat (first | (refine PC.seq fun K hK => ?_) | (refine PC.block ?_) | (refine PC.region ?_) | (refine PL.k rfl fun KK hKK => ?_; simp (disch := omega) [go_sem, stepK, b1]; refine hKK _ ?_; clear hKK KK) | (refine PL.k rfl fun KK hKK => ?_; simp [go_sem, stepK, b1]; refine hKK _ ?_; clear hKK KK) | (refine PL.g rfl rfl fun KK hKK => ?_; simp (disch := omega) [go_sem, L.stepG, b1]; refine hKK _ ?_; clear hKK KK) | (refine PL.g rfl rfl fun KK hKK => ?_; simp [go_sem, L.stepG, b1]; refine hKK _ ?_; clear hKK KK) | (refine PL.done hK ?_; clear hK) | (refine PC.skip (hK _ _ ?_); clear hK) | (refine PC.condT ?_ ?_; focus (simp [go_sem, b1]; done)) | (refine PC.condF ?_ ?_; focus (simp [go_sem, b1]; done)) | (refine PC.exit ?_; first | (refine hK _ _ ?_; clear hK) | (clear hK; refine hK _ _ ?_; clear hK) | (clear hK; clear hK; refine hK _ _ ?_; clear hK)))
  refine PL.buildSliceR (d := 7) rfl rfl rfl (by simp) selem_30 rfl (by omega) (ips := []) (by simp [go_sem]) (by simp [litOk]) (ps := []) rfl ?_
  repeat (first | (refine PC.seq fun K hK => ?_) | (refine PC.block ?_) | (refine PC.region ?_) | (refine PL.k rfl fun KK hKK => ?_; simp (disch := omega) [go_sem, stepK]; refine hKK _ ?_; clear hKK KK) | (refine PL.k rfl fun KK hKK => ?_; simp [go_sem, stepK]; refine hKK _ ?_; clear hKK KK) | (refine PL.g rfl rfl fun KK hKK => ?_; simp (disch := omega) [go_sem, L.stepG]; refine hKK _ ?_; clear hKK KK) | (refine PL.g rfl rfl fun KK hKK => ?_; simp [go_sem, L.stepG]; refine hKK _ ?_; clear hKK KK) | (refine PL.done hK ?_; clear hK) | (refine PC.skip (hK _ _ ?_); clear hK) | (refine PC.condT ?_ ?_; focus (simp [go_sem]; done)) | (refine PC.condF ?_ ?_; focus (simp [go_sem]; done)) | (refine PC.exit ?_; first | (refine hK _ _ ?_; clear hK) | (clear hK; refine hK _ _ ?_; clear hK) | (clear hK; clear hK; refine hK _ _ ?_; clear hK)))
  refine PC.loop (fun m F H' => ∃ k : Nat, k ≤ w.size ∧ m = w.size - k ∧ F 1 = S w ∧ F 2 = .pp 1 0 v ∧ F 5 = slI (runK n w k) ∧ F 6 = I k ∧ H' = H1) (m := w.size) ⟨0, by omega, by omega, by simp [go_sem], by simp [go_sem], by simp [go_sem, runK, slI], by simp [go_sem], rfl⟩ fun m F H' hI => ?_
  obtain ⟨k, hk, hm, f1, f2, f5, f6, rfl⟩ := hI
  by_cases hlt : k < w.size
  · have hlt' : (k : Int) < w.size := by omega
    by_cases hk0 : k = 0
    · subst hk0
      have hby := byte_get hlt
      repeat (first | (refine PC.seq fun K hK => ?_) | (refine PC.block ?_) | (refine PC.region ?_) | (refine PL.k rfl fun KK hKK => ?_; simp (disch := omega) [go_sem, stepK, f1, f6, hlt, hlt']; refine hKK _ ?_; clear hKK KK) | (refine PL.k rfl fun KK hKK => ?_; simp [go_sem, stepK, f1, f6, hlt, hlt']; refine hKK _ ?_; clear hKK KK) | (refine PL.g rfl rfl fun KK hKK => ?_; simp (disch := omega) [go_sem, L.stepG, f1, f6, hlt, hlt']; refine hKK _ ?_; clear hKK KK) | (refine PL.g rfl rfl fun KK hKK => ?_; simp [go_sem, L.stepG, f1, f6, hlt, hlt']; refine hKK _ ?_; clear hKK KK) | (refine PL.done hK ?_; clear hK) | (refine PC.skip (hK _ _ ?_); clear hK) | (refine PC.condT ?_ ?_; focus (simp [go_sem, f1, f6, hlt, hlt']; done)) | (refine PC.condF ?_ ?_; focus (simp [go_sem, f1, f6, hlt, hlt']; done)) | (refine PC.exit ?_; first | (refine hK _ _ ?_; clear hK) | (clear hK; refine hK _ _ ?_; clear hK) | (clear hK; clear hK; refine hK _ _ ?_; clear hK)))
      refine PC.regionQ mixed (by kernel_rfl) ?_
      repeat (first | (refine QF.k rfl fun KK hKK => ?_; simp (disch := omega) [go_sem, stepK, f1, f2, b1, hlt, hby]; refine hKK _ ?_; clear hKK KK) | (refine QF.k rfl fun KK hKK => ?_; simp [go_sem, stepK, f1, f2, b1, hlt, hby]; refine hKK _ ?_; clear hKK KK) | (refine QF.g rfl rfl fun KK hKK => ?_; simp (disch := omega) [go_sem, L.stepG, f1, f2, b1, hlt, hby]; refine hKK _ ?_; clear hKK KK) | (refine QF.g rfl rfl fun KK hKK => ?_; simp [go_sem, L.stepG, f1, f2, b1, hlt, hby]; refine hKK _ ?_; clear hKK KK))
      refine QF.callB rfl rfl (by kernel_rfl) (refStart_ok n (byteAt w 0) (byteAt_lt _ _) hn hs) (by simp [go_sem]) (by simp [go_sem]) (by simp [go_sem]) ?_
      repeat (first | (refine QF.k rfl fun KK hKK => ?_; simp (disch := omega) [go_sem, stepK]; refine hKK _ ?_; clear hKK KK) | (refine QF.k rfl fun KK hKK => ?_; simp [go_sem, stepK]; refine hKK _ ?_; clear hKK KK) | (refine QF.g rfl rfl fun KK hKK => ?_; simp (disch := omega) [go_sem, L.stepG]; refine hKK _ ?_; clear hKK KK) | (refine QF.g rfl rfl fun KK hKK => ?_; simp [go_sem, L.stepG]; refine hKK _ ?_; clear hKK KK))
      refine QF.done hK ?_; clear hK
      repeat (first | (refine PC.seq fun K hK => ?_) | (refine PC.block ?_) | (refine PC.region ?_) | (refine PL.k rfl fun KK hKK => ?_; simp (disch := omega) [go_sem, stepK, f6]; refine hKK _ ?_; clear hKK KK) | (refine PL.k rfl fun KK hKK => ?_; simp [go_sem, stepK, f6]; refine hKK _ ?_; clear hKK KK) | (refine PL.g rfl rfl fun KK hKK => ?_; simp (disch := omega) [go_sem, L.stepG, f6]; refine hKK _ ?_; clear hKK KK) | (refine PL.g rfl rfl fun KK hKK => ?_; simp [go_sem, L.stepG, f6]; refine hKK _ ?_; clear hKK KK) | (refine PL.done hK ?_; clear hK) | (refine PC.skip (hK _ _ ?_); clear hK) | (refine PC.condT ?_ ?_; focus (simp [go_sem, f6]; done)) | (refine PC.condF ?_ ?_; focus (simp [go_sem, f6]; done)) | (refine PC.exit ?_; first | (refine hK _ _ ?_; clear hK) | (clear hK; refine hK _ _ ?_; clear hK) | (clear hK; clear hK; refine hK _ _ ?_; clear hK)))
      refine PL.nil ⟨w.size - 1, by omega, 1, by omega, by omega, by simp [go_sem, f1], by simp [go_sem, f2], by simp [go_sem, runK], by simp [go_sem], rfl⟩
    · have hk0' : ¬ (k : Int) = 0 := by omega
      have hby := byte_get hlt
      have hl := runK_len2 n w k hs
      repeat (first | (refine PC.seq fun K hK => ?_) | (refine PC.block ?_) | (refine PC.region ?_) | (refine PL.k rfl fun KK hKK => ?_; simp (disch := omega) [go_sem, stepK, f1, f6, hlt, hlt', hk0, hk0']; refine hKK _ ?_; clear hKK KK) | (refine PL.k rfl fun KK hKK => ?_; simp [go_sem, stepK, f1, f6, hlt, hlt', hk0, hk0']; refine hKK _ ?_; clear hKK KK) | (refine PL.g rfl rfl fun KK hKK => ?_; simp (disch := omega) [go_sem, L.stepG, f1, f6, hlt, hlt', hk0, hk0']; refine hKK _ ?_; clear hKK KK) | (refine PL.g rfl rfl fun KK hKK => ?_; simp [go_sem, L.stepG, f1, f6, hlt, hlt', hk0, hk0']; refine hKK _ ?_; clear hKK KK) | (refine PL.done hK ?_; clear hK) | (refine PC.skip (hK _ _ ?_); clear hK) | (refine PC.condT ?_ ?_; focus (simp [go_sem, f1, f6, hlt, hlt', hk0, hk0']; done)) | (refine PC.condF ?_ ?_; focus (simp [go_sem, f1, f6, hlt, hlt', hk0, hk0']; done)) | (refine PC.exit ?_; first | (refine hK _ _ ?_; clear hK) | (clear hK; refine hK _ _ ?_; clear hK) | (clear hK; clear hK; refine hK _ _ ?_; clear hK)))
      refine PC.regionQ mixed (by kernel_rfl) ?_
      repeat (first | (refine QF.k rfl fun KK hKK => ?_; simp (disch := omega) [go_sem, stepK, f1, f2, f5, f6, b1, hlt, hby]; refine hKK _ ?_; clear hKK KK) | (refine QF.k rfl fun KK hKK => ?_; simp [go_sem, stepK, f1, f2, f5, f6, b1, hlt, hby]; refine hKK _ ?_; clear hKK KK) | (refine QF.g rfl rfl fun KK hKK => ?_; simp (disch := omega) [go_sem, L.stepG, f1, f2, f5, f6, b1, hlt, hby]; refine hKK _ ?_; clear hKK KK) | (refine QF.g rfl rfl fun KK hKK => ?_; simp [go_sem, L.stepG, f1, f2, f5, f6, b1, hlt, hby]; refine hKK _ ?_; clear hKK KK))
      refine QF.callB rfl rfl (by kernel_rfl) (refStep_ok n (runK n w k) (byteAt w k) (byteAt_lt _ _) (by omega) hn hs) (by simp [go_sem]) (by simp [go_sem]) (by simp [go_sem]) ?_
      repeat (first | (refine QF.k rfl fun KK hKK => ?_; simp (disch := omega) [go_sem, stepK]; refine hKK _ ?_; clear hKK KK) | (refine QF.k rfl fun KK hKK => ?_; simp [go_sem, stepK]; refine hKK _ ?_; clear hKK KK) | (refine QF.g rfl rfl fun KK hKK => ?_; simp (disch := omega) [go_sem, L.stepG]; refine hKK _ ?_; clear hKK KK) | (refine QF.g rfl rfl fun KK hKK => ?_; simp [go_sem, L.stepG]; refine hKK _ ?_; clear hKK KK))
      refine QF.done hK ?_; clear hK
      repeat (first | (refine PC.seq fun K hK => ?_) | (refine PC.block ?_) | (refine PC.region ?_) | (refine PL.k rfl fun KK hKK => ?_; simp (disch := omega) [go_sem, stepK, f6]; refine hKK _ ?_; clear hKK KK) | (refine PL.k rfl fun KK hKK => ?_; simp [go_sem, stepK, f6]; refine hKK _ ?_; clear hKK KK) | (refine PL.g rfl rfl fun KK hKK => ?_; simp (disch := omega) [go_sem, L.stepG, f6]; refine hKK _ ?_; clear hKK KK) | (refine PL.g rfl rfl fun KK hKK => ?_; simp [go_sem, L.stepG, f6]; refine hKK _ ?_; clear hKK KK) | (refine PL.done hK ?_; clear hK) | (refine PC.skip (hK _ _ ?_); clear hK) | (refine PC.condT ?_ ?_; focus (simp [go_sem, f6]; done)) | (refine PC.condF ?_ ?_; focus (simp [go_sem, f6]; done)) | (refine PC.exit ?_; first | (refine hK _ _ ?_; clear hK) | (clear hK; refine hK _ _ ?_; clear hK) | (clear hK; clear hK; refine hK _ _ ?_; clear hK)))
      refine PL.nil ⟨w.size - (k + 1), by omega, k + 1, by omega, by omega, by simp [go_sem, f1], by simp [go_sem, f2], by simp [go_sem, runK, hk0], by simp [go_sem], rfl⟩
  · have hlt' : ¬ (k : Int) < w.size := by omega
    have hke : k = w.size := by omega
    repeat (first | (refine PC.seq fun K hK => ?_) | (refine PC.block ?_) | (refine PC.region ?_) | (refine PL.k rfl fun KK hKK => ?_; simp (disch := omega) [go_sem, stepK, f1, f5, f6, hlt, hlt']; refine hKK _ ?_; clear hKK KK) | (refine PL.k rfl fun KK hKK => ?_; simp [go_sem, stepK, f1, f5, f6, hlt, hlt']; refine hKK _ ?_; clear hKK KK) | (refine PL.g rfl rfl fun KK hKK => ?_; simp (disch := omega) [go_sem, L.stepG, f1, f5, f6, hlt, hlt']; refine hKK _ ?_; clear hKK KK) | (refine PL.g rfl rfl fun KK hKK => ?_; simp [go_sem, L.stepG, f1, f5, f6, hlt, hlt']; refine hKK _ ?_; clear hKK KK) | (refine PL.done hK ?_; clear hK) | (refine PC.skip (hK _ _ ?_); clear hK) | (refine PC.condT ?_ ?_; focus (simp [go_sem, f1, f5, f6, hlt, hlt']; done)) | (refine PC.condF ?_ ?_; focus (simp [go_sem, f1, f5, f6, hlt, hlt']; done)) | (refine PC.exit ?_; first | (refine hK _ _ ?_; clear hK) | (clear hK; refine hK _ _ ?_; clear hK) | (clear hK; clear hK; refine hK _ _ ?_; clear hK)))
    (refine PC.ret ?_; refine fin (.inr rfl) (by simp [resP, resP1, Try.results55, go_sem, hke]) (by simp [go_sem, hke]))

theorem toList_len (w : ByteArray) : ∀ (m i : Nat) (r : List UInt8), m = w.size - i → (ByteArray.toList.loop w i r).length = r.length + m := by
  intro m
  induction m with
  | zero =>
    intro i r h
    rw [ByteArray.toList.loop, if_neg (by omega)]
    simp
  | succ m ih =>
    intro i r h
    rw [ByteArray.toList.loop, if_pos (by omega), ih (i + 1) _ (by omega)]
    simp
    omega
theorem str_ne {w : ByteArray} (h : ¬ w.size = 0) : ¬ w.toList = [] := fun e => by
  have := toList_len w w.size 0 [] (by omega)
  rw [show ByteArray.toList.loop w 0 [] = w.toList from rfl, e] at this
  simp at this
  omega

set_option maxRecDepth 20000 in
set_option maxHeartbeats 4000000 in
theorem fuseRun_ok (n : Net) (w : ByteArray) (hw : w.size ≤ 1000) (hn : Nb n) (hs : NetR n → n.sets.length ≤ 1000) (hnn : ∀ x ∈ n.sets, x.nn) : PCall Try.prog 46 [netV n, S w] (· = slI (runK n w w.size)) := by
  refine PCall.intro' Try.func46 rfl Try.ntmps46 (by simp) fun W => ?_
  refine PC.seq fun K hK => ?_
  refine PC.region ?_
  refine PL.boxA 1 (d := 2) rfl rfl rfl (by simp) (v := netV n) (by simp [go_sem]) (by simp [go_sem, okC]) rfl fun v H1 b1 o1 => ?_
  have b1 := netBox b1
  by_cases h0 : w.size = 0
  · have hsn : w = ByteArray.empty := by simpa using h0
    subst hsn
    repeat (first | (refine PC.seq fun K hK => ?_) | (refine PC.block ?_) | (refine PC.region ?_) | (refine PL.k rfl fun KK hKK => ?_; simp (disch := omega) [go_sem, stepK, b1]; refine hKK _ ?_; clear hKK KK) | (refine PL.k rfl fun KK hKK => ?_; simp [go_sem, stepK, b1]; refine hKK _ ?_; clear hKK KK) | (refine PL.g rfl rfl fun KK hKK => ?_; simp (disch := omega) [go_sem, L.stepG, b1]; refine hKK _ ?_; clear hKK KK) | (refine PL.g rfl rfl fun KK hKK => ?_; simp [go_sem, L.stepG, b1]; refine hKK _ ?_; clear hKK KK) | (refine PL.done hK ?_; clear hK) | (refine PC.skip (hK _ _ ?_); clear hK) | (refine PC.condT ?_ ?_; focus (simp [go_sem, b1]; done)) | (refine PC.condF ?_ ?_; focus (simp [go_sem, b1]; done)) | (refine PC.exit ?_; first | (refine hK _ _ ?_; clear hK) | (clear hK; refine hK _ _ ?_; clear hK) | (clear hK; clear hK; refine hK _ _ ?_; clear hK)))
    (refine PC.ret ?_; refine ⟨.inr rfl, .u (.slice none 0 0), slI [], by simp [resP, resP1, Try.results46, go_sem], View.nil _ _ _, noP_slI _, by simp [runK]⟩)
  have hpos : 0 < w.size := by omega
  have hby0 := byte_get hpos
  have hsn := str_ne h0
  repeat (first | (refine PC.seq fun K hK => ?_) | (refine PC.block ?_) | (refine PC.region ?_) | (refine PL.k rfl fun KK hKK => ?_; simp (disch := omega) [go_sem, stepK, b1, hsn]; refine hKK _ ?_; clear hKK KK) | (refine PL.k rfl fun KK hKK => ?_; simp [go_sem, stepK, b1, hsn]; refine hKK _ ?_; clear hKK KK) | (refine PL.g rfl rfl fun KK hKK => ?_; simp (disch := omega) [go_sem, L.stepG, b1, hsn]; refine hKK _ ?_; clear hKK KK) | (refine PL.g rfl rfl fun KK hKK => ?_; simp [go_sem, L.stepG, b1, hsn]; refine hKK _ ?_; clear hKK KK) | (refine PL.done hK ?_; clear hK) | (refine PC.skip (hK _ _ ?_); clear hK) | (refine PC.condT ?_ ?_; focus (simp [go_sem, b1, hsn]; done)) | (refine PC.condF ?_ ?_; focus (simp [go_sem, b1, hsn]; done)) | (refine PC.exit ?_; first | (refine hK _ _ ?_; clear hK) | (clear hK; refine hK _ _ ?_; clear hK) | (clear hK; clear hK; refine hK _ _ ?_; clear hK)))
  refine PL.callBg rfl rfl rfl (by simp [go_sem, hsn]) (by kernel_rfl) (fuseRight_ok n hn) (by simp [go_sem]) (by simp [go_sem]) (by simp [go_sem]) ?_
  cases hr : rightN n
  · have hall : runK n w w.size = [] := by
      refine runK_nil n w 1 (by omega) ?_ _ (by omega)
      simp [runK, startN, hr]
    repeat (first | (refine PC.seq fun K hK => ?_) | (refine PC.block ?_) | (refine PC.region ?_) | (refine PL.k rfl fun KK hKK => ?_; simp (disch := omega) [go_sem, stepK, hr, hsn]; refine hKK _ ?_; clear hKK KK) | (refine PL.k rfl fun KK hKK => ?_; simp [go_sem, stepK, hr, hsn]; refine hKK _ ?_; clear hKK KK) | (refine PL.g rfl rfl fun KK hKK => ?_; simp (disch := omega) [go_sem, L.stepG, hr, hsn]; refine hKK _ ?_; clear hKK KK) | (refine PL.g rfl rfl fun KK hKK => ?_; simp [go_sem, L.stepG, hr, hsn]; refine hKK _ ?_; clear hKK KK) | (refine PL.done hK ?_; clear hK) | (refine PC.skip (hK _ _ ?_); clear hK) | (refine PC.condT ?_ ?_; focus (simp [go_sem, hr, hsn]; done)) | (refine PC.condF ?_ ?_; focus (simp [go_sem, hr, hsn]; done)) | (refine PC.exit ?_; first | (refine hK _ _ ?_; clear hK) | (clear hK; refine hK _ _ ?_; clear hK) | (clear hK; clear hK; refine hK _ _ ?_; clear hK)))
    (refine PC.ret ?_; refine ⟨.inr rfl, .u (.slice none 0 0), slI [], by simp [resP, resP1, Try.results46, go_sem], View.nil _ _ _, noP_slI _, by simp [hall]⟩)
  have hR := (rightN_iff n).1 hr
  have hh := having_ok n n.first (byteAt w 0) (byteAt_lt _ _) (by have := rising_len2 hR.t; have := hs hR; omega) (fun x hx => hR.t.2 x hx) hnn
  rw [start_have hR] at hh
  repeat (first | (refine PC.seq fun K hK => ?_) | (refine PC.block ?_) | (refine PC.region ?_) | (refine PL.k rfl fun KK hKK => ?_; simp (disch := omega) [go_sem, stepK, hr, hsn]; refine hKK _ ?_; clear hKK KK) | (refine PL.k rfl fun KK hKK => ?_; simp [go_sem, stepK, hr, hsn]; refine hKK _ ?_; clear hKK KK) | (refine PL.g rfl rfl fun KK hKK => ?_; simp (disch := omega) [go_sem, L.stepG, hr, hsn]; refine hKK _ ?_; clear hKK KK) | (refine PL.g rfl rfl fun KK hKK => ?_; simp [go_sem, L.stepG, hr, hsn]; refine hKK _ ?_; clear hKK KK) | (refine PL.done hK ?_; clear hK) | (refine PC.skip (hK _ _ ?_); clear hK) | (refine PC.condT ?_ ?_; focus (simp [go_sem, hr, hsn]; done)) | (refine PC.condF ?_ ?_; focus (simp [go_sem, hr, hsn]; done)) | (refine PC.exit ?_; first | (refine hK _ _ ?_; clear hK) | (clear hK; refine hK _ _ ?_; clear hK) | (clear hK; clear hK; refine hK _ _ ?_; clear hK)))
  refine PC.regionQ mixed (by kernel_rfl) ?_
  repeat (first | (refine QF.k rfl fun KK hKK => ?_; simp (disch := omega) [go_sem, stepK, b1, hpos, hby0]; refine hKK _ ?_; clear hKK KK) | (refine QF.k rfl fun KK hKK => ?_; simp [go_sem, stepK, b1, hpos, hby0]; refine hKK _ ?_; clear hKK KK) | (refine QF.g rfl rfl fun KK hKK => ?_; simp (disch := omega) [go_sem, L.stepG, b1, hpos, hby0]; refine hKK _ ?_; clear hKK KK) | (refine QF.g rfl rfl fun KK hKK => ?_; simp [go_sem, L.stepG, b1, hpos, hby0]; refine hKK _ ?_; clear hKK KK))
  refine QF.callB rfl rfl (by kernel_rfl) hh (by simp [go_sem]) (by simp [go_sem]) (by simp [go_sem]) ?_
  repeat (first | (refine QF.k rfl fun KK hKK => ?_; simp (disch := omega) [go_sem, stepK]; refine hKK _ ?_; clear hKK KK) | (refine QF.k rfl fun KK hKK => ?_; simp [go_sem, stepK]; refine hKK _ ?_; clear hKK KK) | (refine QF.g rfl rfl fun KK hKK => ?_; simp (disch := omega) [go_sem, L.stepG]; refine hKK _ ?_; clear hKK KK) | (refine QF.g rfl rfl fun KK hKK => ?_; simp [go_sem, L.stepG]; refine hKK _ ?_; clear hKK KK))
  refine QF.done hK ?_; clear hK
  repeat (first | (refine PC.seq fun K hK => ?_) | (refine PC.block ?_) | (refine PC.region ?_) | (refine PL.k rfl fun KK hKK => ?_; simp (disch := omega) [go_sem, stepK]; refine hKK _ ?_; clear hKK KK) | (refine PL.k rfl fun KK hKK => ?_; simp [go_sem, stepK]; refine hKK _ ?_; clear hKK KK) | (refine PL.g rfl rfl fun KK hKK => ?_; simp (disch := omega) [go_sem, L.stepG]; refine hKK _ ?_; clear hKK KK) | (refine PL.g rfl rfl fun KK hKK => ?_; simp [go_sem, L.stepG]; refine hKK _ ?_; clear hKK KK) | (refine PL.done hK ?_; clear hK) | (refine PC.skip (hK _ _ ?_); clear hK) | (refine PC.condT ?_ ?_; focus (simp [go_sem]; done)) | (refine PC.condF ?_ ?_; focus (simp [go_sem]; done)) | (refine PC.exit ?_; first | (refine hK _ _ ?_; clear hK) | (clear hK; refine hK _ _ ?_; clear hK) | (clear hK; clear hK; refine hK _ _ ?_; clear hK)))
  refine PC.loop (fun m F H' => ∃ k : Nat, 1 ≤ k ∧ k ≤ w.size ∧ m = w.size - k ∧ F 1 = S w ∧ F 2 = .pp 1 0 v ∧ F 5 = slI (runK n w k) ∧ F 6 = I k ∧ H' = H1) (m := w.size - 1) ⟨1, by omega, by omega, by omega, by simp [go_sem], by simp [go_sem], by simp [go_sem, runK, startN, hr], by simp [go_sem], rfl⟩ fun m F H' hI => ?_
  obtain ⟨k, hk1, hk, hm, f1, f2, f5, f6, rfl⟩ := hI
  have hl := runK_len2 n w k hs
  by_cases hlt : k < w.size
  · have hlt' : (k : Int) < w.size := by omega
    by_cases hne : 0 < (runK n w k).length
    · have hne' : (0 : Int) < (runK n w k).length := by omega
      have hby := byte_get hlt
      have ho := on_ok n (runK n w k) (byteAt w k) (byteAt_lt _ _) (by omega) (hs hR) hR hnn
      have hsucc : runK n w (k + 1) = stepW n (runK n w k) (byteAt w k) := by rw [runK, if_neg (by omega)]; simp [stepN, hr]
      repeat (first | (refine PC.seq fun K hK => ?_) | (refine PC.block ?_) | (refine PC.region ?_) | (refine PL.k rfl fun KK hKK => ?_; simp (disch := omega) [go_sem, stepK, f1, f5, f6, hlt, hlt', hne, hne']; refine hKK _ ?_; clear hKK KK) | (refine PL.k rfl fun KK hKK => ?_; simp [go_sem, stepK, f1, f5, f6, hlt, hlt', hne, hne']; refine hKK _ ?_; clear hKK KK) | (refine PL.g rfl rfl fun KK hKK => ?_; simp (disch := omega) [go_sem, L.stepG, f1, f5, f6, hlt, hlt', hne, hne']; refine hKK _ ?_; clear hKK KK) | (refine PL.g rfl rfl fun KK hKK => ?_; simp [go_sem, L.stepG, f1, f5, f6, hlt, hlt', hne, hne']; refine hKK _ ?_; clear hKK KK) | (refine PL.done hK ?_; clear hK) | (refine PC.skip (hK _ _ ?_); clear hK) | (refine PC.condT ?_ ?_; focus (simp [go_sem, f1, f5, f6, hlt, hlt', hne, hne']; done)) | (refine PC.condF ?_ ?_; focus (simp [go_sem, f1, f5, f6, hlt, hlt', hne, hne']; done)) | (refine PC.exit ?_; first | (refine hK _ _ ?_; clear hK) | (clear hK; refine hK _ _ ?_; clear hK) | (clear hK; clear hK; refine hK _ _ ?_; clear hK)))
      refine PC.regionQ mixed (by kernel_rfl) ?_
      repeat (first | (refine QF.k rfl fun KK hKK => ?_; simp (disch := omega) [go_sem, stepK, f1, f2, f5, f6, b1, hlt, hby]; refine hKK _ ?_; clear hKK KK) | (refine QF.k rfl fun KK hKK => ?_; simp [go_sem, stepK, f1, f2, f5, f6, b1, hlt, hby]; refine hKK _ ?_; clear hKK KK) | (refine QF.g rfl rfl fun KK hKK => ?_; simp (disch := omega) [go_sem, L.stepG, f1, f2, f5, f6, b1, hlt, hby]; refine hKK _ ?_; clear hKK KK) | (refine QF.g rfl rfl fun KK hKK => ?_; simp [go_sem, L.stepG, f1, f2, f5, f6, b1, hlt, hby]; refine hKK _ ?_; clear hKK KK))
      refine QF.callB rfl rfl (by kernel_rfl) ho (by simp [go_sem]) (by simp [go_sem]) (by simp [go_sem]) ?_
      repeat (first | (refine QF.k rfl fun KK hKK => ?_; simp (disch := omega) [go_sem, stepK]; refine hKK _ ?_; clear hKK KK) | (refine QF.k rfl fun KK hKK => ?_; simp [go_sem, stepK]; refine hKK _ ?_; clear hKK KK) | (refine QF.g rfl rfl fun KK hKK => ?_; simp (disch := omega) [go_sem, L.stepG]; refine hKK _ ?_; clear hKK KK) | (refine QF.g rfl rfl fun KK hKK => ?_; simp [go_sem, L.stepG]; refine hKK _ ?_; clear hKK KK))
      refine QF.done hK ?_; clear hK
      repeat (first | (refine PC.seq fun K hK => ?_) | (refine PC.block ?_) | (refine PC.region ?_) | (refine PL.k rfl fun KK hKK => ?_; simp (disch := omega) [go_sem, stepK, f6]; refine hKK _ ?_; clear hKK KK) | (refine PL.k rfl fun KK hKK => ?_; simp [go_sem, stepK, f6]; refine hKK _ ?_; clear hKK KK) | (refine PL.g rfl rfl fun KK hKK => ?_; simp (disch := omega) [go_sem, L.stepG, f6]; refine hKK _ ?_; clear hKK KK) | (refine PL.g rfl rfl fun KK hKK => ?_; simp [go_sem, L.stepG, f6]; refine hKK _ ?_; clear hKK KK) | (refine PL.done hK ?_; clear hK) | (refine PC.skip (hK _ _ ?_); clear hK) | (refine PC.condT ?_ ?_; focus (simp [go_sem, f6]; done)) | (refine PC.condF ?_ ?_; focus (simp [go_sem, f6]; done)) | (refine PC.exit ?_; first | (refine hK _ _ ?_; clear hK) | (clear hK; refine hK _ _ ?_; clear hK) | (clear hK; clear hK; refine hK _ _ ?_; clear hK)))
      refine PL.nil ⟨w.size - (k + 1), by omega, k + 1, by omega, by omega, by omega, by simp [go_sem, f1], by simp [go_sem, f2], by simp [go_sem, hsucc], by simp [go_sem], rfl⟩
    · have hnil : runK n w k = [] := List.eq_nil_of_length_eq_zero (by omega)
      have hall := runK_nil n w k hk1 hnil w.size hk
      rw [hnil] at f5
      repeat (first | (refine PC.seq fun K hK => ?_) | (refine PC.block ?_) | (refine PC.region ?_) | (refine PL.k rfl fun KK hKK => ?_; simp (disch := omega) [go_sem, stepK, f1, f5, f6, hlt, hlt']; refine hKK _ ?_; clear hKK KK) | (refine PL.k rfl fun KK hKK => ?_; simp [go_sem, stepK, f1, f5, f6, hlt, hlt']; refine hKK _ ?_; clear hKK KK) | (refine PL.g rfl rfl fun KK hKK => ?_; simp (disch := omega) [go_sem, L.stepG, f1, f5, f6, hlt, hlt']; refine hKK _ ?_; clear hKK KK) | (refine PL.g rfl rfl fun KK hKK => ?_; simp [go_sem, L.stepG, f1, f5, f6, hlt, hlt']; refine hKK _ ?_; clear hKK KK) | (refine PL.done hK ?_; clear hK) | (refine PC.skip (hK _ _ ?_); clear hK) | (refine PC.condT ?_ ?_; focus (simp [go_sem, f1, f5, f6, hlt, hlt']; done)) | (refine PC.condF ?_ ?_; focus (simp [go_sem, f1, f5, f6, hlt, hlt']; done)) | (refine PC.exit ?_; first | (refine hK _ _ ?_; clear hK) | (clear hK; refine hK _ _ ?_; clear hK) | (clear hK; clear hK; refine hK _ _ ?_; clear hK)))
      (refine PC.ret ?_; refine fin (.inr rfl) (by simp [resP, resP1, Try.results46, go_sem, hall]) (by simp [go_sem, hall]))
  · have hlt' : ¬ (k : Int) < w.size := by omega
    have hke : k = w.size := by omega
    repeat (first | (refine PC.seq fun K hK => ?_) | (refine PC.block ?_) | (refine PC.region ?_) | (refine PL.k rfl fun KK hKK => ?_; simp (disch := omega) [go_sem, stepK, f1, f5, f6, hlt, hlt']; refine hKK _ ?_; clear hKK KK) | (refine PL.k rfl fun KK hKK => ?_; simp [go_sem, stepK, f1, f5, f6, hlt, hlt']; refine hKK _ ?_; clear hKK KK) | (refine PL.g rfl rfl fun KK hKK => ?_; simp (disch := omega) [go_sem, L.stepG, f1, f5, f6, hlt, hlt']; refine hKK _ ?_; clear hKK KK) | (refine PL.g rfl rfl fun KK hKK => ?_; simp [go_sem, L.stepG, f1, f5, f6, hlt, hlt']; refine hKK _ ?_; clear hKK KK) | (refine PL.done hK ?_; clear hK) | (refine PC.skip (hK _ _ ?_); clear hK) | (refine PC.condT ?_ ?_; focus (simp [go_sem, f1, f5, f6, hlt, hlt']; done)) | (refine PC.condF ?_ ?_; focus (simp [go_sem, f1, f5, f6, hlt, hlt']; done)) | (refine PC.exit ?_; first | (refine hK _ _ ?_; clear hK) | (clear hK; refine hK _ _ ?_; clear hK) | (clear hK; clear hK; refine hK _ _ ?_; clear hK)))
    (refine PC.ret ?_; refine fin (.inr rfl) (by simp [resP, resP1, Try.results46, go_sem, hke]) (by simp [go_sem, hke]))
end Go.Proofs.Ytficeeaaaijgcaa

/-
  The token that is read at some spots: the package fuse and chapter 12's reference.
-/
namespace Go.Proofs.Ytficeeaaaijgcaa
open Go Go.RowKit L
set_option linter.unusedVariables false
set_option linter.unusedSimpArgs false

@[go_sem] theorem bltP_min {P : Program} {t : Array TypeId} {ty : TypeId} {k : IntKind} {a b : Int} : bltP P .min t ty [.u (.int k a), .u (.int k b)] = some (.u (.int k (min a b))) := by
  simp [bltP, PV.val2, Builtin.min_, Builtin.min2, val_pure, ofV]
  split <;> omega
@[go_sem] theorem bltP_max {P : Program} {t : Array TypeId} {ty : TypeId} {k : IntKind} {a b : Int} : bltP P .max t ty [.u (.int k a), .u (.int k b)] = some (.u (.int k (max a b))) := by
  simp [bltP, PV.val2, Builtin.max_, Builtin.max2, val_pure, ofV]
  split <;> omega

def okT (n : Net) (i : Int) : Bool := decide (0 ≤ i ∧ i < n.sets.length) && n.last.getD i.toNat false
def ofT (n : Net) (i : Int) : Int := n.of_.getD i.toNat 0
def tokF (n : Net) (t i : Int) : Int := if okT n i = true then (if t < 0 ∨ ofT n i < t then ofT n i else t) else t
def tokK (n : Net) (at_ : List Int) : Int := at_.foldl (tokF n) (-1)
def tokN (n : Net) (at_ : List Int) : Int := if rightN n = true then tokK n at_ else -1
theorem tokK_succ (n : Net) (at_ : List Int) (k : Nat) (h : k < at_.length) : tokK n (at_.take (k + 1)) = tokF n (tokK n (at_.take k)) at_[k] := by
  unfold tokK; rw [List.take_succ_eq_append_getElem h, List.foldl_append]; rfl

set_option maxRecDepth 20000 in
set_option maxHeartbeats 4000000 in
theorem fuseToken_ok (n : Net) (at_ : List Int) (hl : at_.length ≤ 1000000) (hn : Nb n) : PCall Try.prog 47 [netV n, slI at_] (· = I (tokN n at_)) := by
  refine PCall.intro' Try.func47 rfl Try.ntmps47 (by simp) fun W => ?_
  refine PC.seq fun K hK => ?_
  refine PC.region ?_
  refine PL.boxA 1 (d := 2) rfl rfl rfl (by simp) (v := netV n) (by simp [go_sem]) (by simp [go_sem, okC]) rfl fun v H1 b1 o1 => ?_
  have b1 := netBox b1
  repeat (first | (refine PC.seq fun K hK => ?_) | (refine PC.block ?_) | (refine PC.region ?_) | (refine PL.k rfl fun KK hKK => ?_; simp (disch := omega) [go_sem, stepK, b1]; refine hKK _ ?_; clear hKK KK) | (refine PL.k rfl fun KK hKK => ?_; simp [go_sem, stepK, b1]; refine hKK _ ?_; clear hKK KK) | (refine PL.g rfl rfl fun KK hKK => ?_; simp (disch := omega) [go_sem, L.stepG, b1]; refine hKK _ ?_; clear hKK KK) | (refine PL.g rfl rfl fun KK hKK => ?_; simp [go_sem, L.stepG, b1]; refine hKK _ ?_; clear hKK KK) | (refine PL.done hK ?_; clear hK) | (refine PC.skip (hK _ _ ?_); clear hK) | (refine PC.condT ?_ ?_; focus (simp [go_sem, b1]; done)) | (refine PC.condF ?_ ?_; focus (simp [go_sem, b1]; done)) | (refine PC.exit ?_; first | (refine hK _ _ ?_; clear hK) | (clear hK; refine hK _ _ ?_; clear hK) | (clear hK; clear hK; refine hK _ _ ?_; clear hK)))
  refine PL.callB rfl rfl (by kernel_rfl) (fuseRight_ok n hn) (by simp [go_sem]) (by simp [go_sem]) (by simp [go_sem]) ?_
  cases hr : rightN n
  · repeat (first | (refine PC.seq fun K hK => ?_) | (refine PC.block ?_) | (refine PC.region ?_) | (refine PL.k rfl fun KK hKK => ?_; simp (disch := omega) [go_sem, stepK, hr]; refine hKK _ ?_; clear hKK KK) | (refine PL.k rfl fun KK hKK => ?_; simp [go_sem, stepK, hr]; refine hKK _ ?_; clear hKK KK) | (refine PL.g rfl rfl fun KK hKK => ?_; simp (disch := omega) [go_sem, L.stepG, hr]; refine hKK _ ?_; clear hKK KK) | (refine PL.g rfl rfl fun KK hKK => ?_; simp [go_sem, L.stepG, hr]; refine hKK _ ?_; clear hKK KK) | (refine PL.done hK ?_; clear hK) | (refine PC.skip (hK _ _ ?_); clear hK) | (refine PC.condT ?_ ?_; focus (simp [go_sem, hr]; done)) | (refine PC.condF ?_ ?_; focus (simp [go_sem, hr]; done)) | (refine PC.exit ?_; first | (refine hK _ _ ?_; clear hK) | (clear hK; refine hK _ _ ?_; clear hK) | (clear hK; clear hK; refine hK _ _ ?_; clear hK)))
    (refine PC.ret ?_; refine fin (.inr rfl) (by simp [resP, resP1, Try.results47, go_sem, tokN, hr]) (by simp [go_sem, tokN, hr]))
  have hR := (rightN_iff n).1 hr
  repeat (first | (refine PC.seq fun K hK => ?_) | (refine PC.block ?_) | (refine PC.region ?_) | (refine PL.k rfl fun KK hKK => ?_; simp (disch := omega) [go_sem, stepK, hr]; refine hKK _ ?_; clear hKK KK) | (refine PL.k rfl fun KK hKK => ?_; simp [go_sem, stepK, hr]; refine hKK _ ?_; clear hKK KK) | (refine PL.g rfl rfl fun KK hKK => ?_; simp (disch := omega) [go_sem, L.stepG, hr]; refine hKK _ ?_; clear hKK KK) | (refine PL.g rfl rfl fun KK hKK => ?_; simp [go_sem, L.stepG, hr]; refine hKK _ ?_; clear hKK KK) | (refine PL.done hK ?_; clear hK) | (refine PC.skip (hK _ _ ?_); clear hK) | (refine PC.condT ?_ ?_; focus (simp [go_sem, hr]; done)) | (refine PC.condF ?_ ?_; focus (simp [go_sem, hr]; done)) | (refine PC.exit ?_; first | (refine hK _ _ ?_; clear hK) | (clear hK; refine hK _ _ ?_; clear hK) | (clear hK; clear hK; refine hK _ _ ?_; clear hK)))
  refine PC.loop (fun m F H' => ∃ k : Nat, k ≤ at_.length ∧ m = at_.length - k ∧ F 2 = .pp 1 0 v ∧ F 5 = I (tokK n (at_.take k)) ∧ F 12 = slI at_ ∧ F 13 = I at_.length ∧ F 14 = I k ∧ H' = H1) (m := at_.length) ⟨0, by omega, by omega, by simp [go_sem], by simp [go_sem, tokK], by simp [go_sem], by simp [go_sem], by simp [go_sem], rfl⟩ fun m F H' hI => ?_
  obtain ⟨k, hk, hm, f2, f5, f12, f13, f14, rfl⟩ := hI
  by_cases hlt : k < at_.length
  · have hlt' : (k : Int) < at_.length := by omega
    have hsucc := tokK_succ n at_ k hlt
    obtain ⟨x, ex⟩ : ∃ x, at_[k] = x := ⟨_, rfl⟩
    rw [ex] at hsucc
    generalize tokK n (at_.take k) = t at *
    have iO : (n.of_.length : Int) = n.sets.length := by have := hR.o; omega
    by_cases h0 : x < 0
    · have hF : tokF n t x = t := by unfold tokF okT; rw [if_neg]; simp; omega
      rw [hF] at hsucc
      repeat (first | (refine PC.seq fun K hK => ?_) | (refine PC.block ?_) | (refine PC.region ?_) | (refine PL.k rfl fun KK hKK => ?_; simp (disch := omega) [go_sem, stepK, f12, f13, f14, hlt', hlt, ex, h0]; refine hKK _ ?_; clear hKK KK) | (refine PL.k rfl fun KK hKK => ?_; simp [go_sem, stepK, f12, f13, f14, hlt', hlt, ex, h0]; refine hKK _ ?_; clear hKK KK) | (refine PL.g rfl rfl fun KK hKK => ?_; simp (disch := omega) [go_sem, L.stepG, f12, f13, f14, hlt', hlt, ex, h0]; refine hKK _ ?_; clear hKK KK) | (refine PL.g rfl rfl fun KK hKK => ?_; simp [go_sem, L.stepG, f12, f13, f14, hlt', hlt, ex, h0]; refine hKK _ ?_; clear hKK KK) | (refine PL.done hK ?_; clear hK) | (refine PC.skip (hK _ _ ?_); clear hK) | (refine PC.condT ?_ ?_; focus (simp [go_sem, f12, f13, f14, hlt', hlt, ex, h0]; done)) | (refine PC.condF ?_ ?_; focus (simp [go_sem, f12, f13, f14, hlt', hlt, ex, h0]; done)) | (refine PC.exit ?_; first | (refine hK _ _ ?_; clear hK) | (clear hK; refine hK _ _ ?_; clear hK) | (clear hK; clear hK; refine hK _ _ ?_; clear hK)))
      refine PL.nil ⟨at_.length - (k + 1), by omega, k + 1, by omega, by omega, by simp [go_sem, f2], by simp [go_sem, f5, hsucc], by simp [go_sem, f12], by simp [go_sem, f13], by simp [go_sem], rfl⟩
    by_cases h1 : (n.of_.length : Int) ≤ x
    · have hF : tokF n t x = t := by unfold tokF okT; rw [if_neg]; simp; omega
      rw [hF] at hsucc
      repeat (first | (refine PC.seq fun K hK => ?_) | (refine PC.block ?_) | (refine PC.region ?_) | (refine PL.k rfl fun KK hKK => ?_; simp (disch := omega) [go_sem, stepK, f2, f12, f13, f14, hlt', hlt, ex, h0, h1, b1]; refine hKK _ ?_; clear hKK KK) | (refine PL.k rfl fun KK hKK => ?_; simp [go_sem, stepK, f2, f12, f13, f14, hlt', hlt, ex, h0, h1, b1]; refine hKK _ ?_; clear hKK KK) | (refine PL.g rfl rfl fun KK hKK => ?_; simp (disch := omega) [go_sem, L.stepG, f2, f12, f13, f14, hlt', hlt, ex, h0, h1, b1]; refine hKK _ ?_; clear hKK KK) | (refine PL.g rfl rfl fun KK hKK => ?_; simp [go_sem, L.stepG, f2, f12, f13, f14, hlt', hlt, ex, h0, h1, b1]; refine hKK _ ?_; clear hKK KK) | (refine PL.done hK ?_; clear hK) | (refine PC.skip (hK _ _ ?_); clear hK) | (refine PC.condT ?_ ?_; focus (simp [go_sem, f2, f12, f13, f14, hlt', hlt, ex, h0, h1, b1]; done)) | (refine PC.condF ?_ ?_; focus (simp [go_sem, f2, f12, f13, f14, hlt', hlt, ex, h0, h1, b1]; done)) | (refine PC.exit ?_; first | (refine hK _ _ ?_; clear hK) | (clear hK; refine hK _ _ ?_; clear hK) | (clear hK; clear hK; refine hK _ _ ?_; clear hK)))
      refine PL.nil ⟨at_.length - (k + 1), by omega, k + 1, by omega, by omega, by simp [go_sem, f2], by simp [go_sem, f5, hsucc], by simp [go_sem, f12], by simp [go_sem, f13], by simp [go_sem], rfl⟩
    have hx0 : 0 ≤ x := by omega
    have hll : x.toNat < n.last.length := by have := hR.l; omega
    have hol : x.toNat < n.of_.length := by have := hR.o; omega
    obtain ⟨y, ey⟩ : ∃ y, n.last[x.toNat] = y := ⟨_, rfl⟩
    obtain ⟨z, ez⟩ : ∃ z, n.of_[x.toNat] = z := ⟨_, rfl⟩
    have hzp : 0 ≤ z := hR.op z (ez ▸ List.getElem_mem hol)
    have hok : okT n x = y := by unfold okT; simp [List.getD, hll, ey]; omega
    have hoz : ofT n x = z := by unfold ofT; simp [List.getD, hol, ez]
    unfold tokF at hsucc
    rw [hok, hoz] at hsucc
    cases y
    · repeat (first | (refine PC.seq fun K hK => ?_) | (refine PC.block ?_) | (refine PC.region ?_) | (refine PL.k rfl fun KK hKK => ?_; simp (disch := omega) [go_sem, stepK, f2, f12, f13, f14, hlt', hlt, ex, h0, h1, hx0, hll, ey, b1]; refine hKK _ ?_; clear hKK KK) | (refine PL.k rfl fun KK hKK => ?_; simp [go_sem, stepK, f2, f12, f13, f14, hlt', hlt, ex, h0, h1, hx0, hll, ey, b1]; refine hKK _ ?_; clear hKK KK) | (refine PL.g rfl rfl fun KK hKK => ?_; simp (disch := omega) [go_sem, L.stepG, f2, f12, f13, f14, hlt', hlt, ex, h0, h1, hx0, hll, ey, b1]; refine hKK _ ?_; clear hKK KK) | (refine PL.g rfl rfl fun KK hKK => ?_; simp [go_sem, L.stepG, f2, f12, f13, f14, hlt', hlt, ex, h0, h1, hx0, hll, ey, b1]; refine hKK _ ?_; clear hKK KK) | (refine PL.done hK ?_; clear hK) | (refine PC.skip (hK _ _ ?_); clear hK) | (refine PC.condT ?_ ?_; focus (simp [go_sem, f2, f12, f13, f14, hlt', hlt, ex, h0, h1, hx0, hll, ey, b1]; done)) | (refine PC.condF ?_ ?_; focus (simp [go_sem, f2, f12, f13, f14, hlt', hlt, ex, h0, h1, hx0, hll, ey, b1]; done)) | (refine PC.exit ?_; first | (refine hK _ _ ?_; clear hK) | (clear hK; refine hK _ _ ?_; clear hK) | (clear hK; clear hK; refine hK _ _ ?_; clear hK)))
      refine PL.nil ⟨at_.length - (k + 1), by omega, k + 1, by omega, by omega, by simp [go_sem, f2], by simp [go_sem, f5, hsucc], by simp [go_sem, f12], by simp [go_sem, f13], by simp [go_sem], rfl⟩
    · by_cases ht : t < 0
      · have hmin : min z z = z := by omega
        have : t < 0 ∨ z < t := .inl ht
        repeat (first | (refine PC.seq fun K hK => ?_) | (refine PC.block ?_) | (refine PC.region ?_) | (refine PL.k rfl fun KK hKK => ?_; simp (disch := omega) [go_sem, stepK, f2, f5, f12, f13, f14, hlt', hlt, ex, h0, h1, hx0, hll, ey, hol, ez, ht, b1]; refine hKK _ ?_; clear hKK KK) | (refine PL.k rfl fun KK hKK => ?_; simp [go_sem, stepK, f2, f5, f12, f13, f14, hlt', hlt, ex, h0, h1, hx0, hll, ey, hol, ez, ht, b1]; refine hKK _ ?_; clear hKK KK) | (refine PL.g rfl rfl fun KK hKK => ?_; simp (disch := omega) [go_sem, L.stepG, f2, f5, f12, f13, f14, hlt', hlt, ex, h0, h1, hx0, hll, ey, hol, ez, ht, b1]; refine hKK _ ?_; clear hKK KK) | (refine PL.g rfl rfl fun KK hKK => ?_; simp [go_sem, L.stepG, f2, f5, f12, f13, f14, hlt', hlt, ex, h0, h1, hx0, hll, ey, hol, ez, ht, b1]; refine hKK _ ?_; clear hKK KK) | (refine PL.done hK ?_; clear hK) | (refine PC.skip (hK _ _ ?_); clear hK) | (refine PC.condT ?_ ?_; focus (simp [go_sem, f2, f5, f12, f13, f14, hlt', hlt, ex, h0, h1, hx0, hll, ey, hol, ez, ht, b1]; done)) | (refine PC.condF ?_ ?_; focus (simp [go_sem, f2, f5, f12, f13, f14, hlt', hlt, ex, h0, h1, hx0, hll, ey, hol, ez, ht, b1]; done)) | (refine PC.exit ?_; first | (refine hK _ _ ?_; clear hK) | (clear hK; refine hK _ _ ?_; clear hK) | (clear hK; clear hK; refine hK _ _ ?_; clear hK)))
        refine PL.nil ⟨at_.length - (k + 1), by omega, k + 1, by omega, by omega, by simp [go_sem, f2], by simp [go_sem, hsucc, ht], by simp [go_sem, f12], by simp [go_sem, f13], by simp [go_sem], rfl⟩
      · repeat (first | (refine PC.seq fun K hK => ?_) | (refine PC.block ?_) | (refine PC.region ?_) | (refine PL.k rfl fun KK hKK => ?_; simp (disch := omega) [go_sem, stepK, f2, f5, f12, f13, f14, hlt', hlt, ex, h0, h1, hx0, hll, ey, hol, ez, ht, b1]; refine hKK _ ?_; clear hKK KK) | (refine PL.k rfl fun KK hKK => ?_; simp [go_sem, stepK, f2, f5, f12, f13, f14, hlt', hlt, ex, h0, h1, hx0, hll, ey, hol, ez, ht, b1]; refine hKK _ ?_; clear hKK KK) | (refine PL.g rfl rfl fun KK hKK => ?_; simp (disch := omega) [go_sem, L.stepG, f2, f5, f12, f13, f14, hlt', hlt, ex, h0, h1, hx0, hll, ey, hol, ez, ht, b1]; refine hKK _ ?_; clear hKK KK) | (refine PL.g rfl rfl fun KK hKK => ?_; simp [go_sem, L.stepG, f2, f5, f12, f13, f14, hlt', hlt, ex, h0, h1, hx0, hll, ey, hol, ez, ht, b1]; refine hKK _ ?_; clear hKK KK) | (refine PL.done hK ?_; clear hK) | (refine PC.skip (hK _ _ ?_); clear hK) | (refine PC.condT ?_ ?_; focus (simp [go_sem, f2, f5, f12, f13, f14, hlt', hlt, ex, h0, h1, hx0, hll, ey, hol, ez, ht, b1]; done)) | (refine PC.condF ?_ ?_; focus (simp [go_sem, f2, f5, f12, f13, f14, hlt', hlt, ex, h0, h1, hx0, hll, ey, hol, ez, ht, b1]; done)) | (refine PC.exit ?_; first | (refine hK _ _ ?_; clear hK) | (clear hK; refine hK _ _ ?_; clear hK) | (clear hK; clear hK; refine hK _ _ ?_; clear hK)))
        refine PL.nil ⟨at_.length - (k + 1), by omega, k + 1, by omega, by omega, by simp [go_sem, f2], ?_, by simp [go_sem, f12], by simp [go_sem, f13], by simp [go_sem], rfl⟩
        simp [go_sem, hsucc, ht]
        split <;> omega
  · have hlt' : ¬ (k : Int) < at_.length := by omega
    have hke : k = at_.length := by omega
    rw [hke, List.take_length] at f5
    repeat (first | (refine PC.seq fun K hK => ?_) | (refine PC.block ?_) | (refine PC.region ?_) | (refine PL.k rfl fun KK hKK => ?_; simp (disch := omega) [go_sem, stepK, f5, f13, f14, hlt']; refine hKK _ ?_; clear hKK KK) | (refine PL.k rfl fun KK hKK => ?_; simp [go_sem, stepK, f5, f13, f14, hlt']; refine hKK _ ?_; clear hKK KK) | (refine PL.g rfl rfl fun KK hKK => ?_; simp (disch := omega) [go_sem, L.stepG, f5, f13, f14, hlt']; refine hKK _ ?_; clear hKK KK) | (refine PL.g rfl rfl fun KK hKK => ?_; simp [go_sem, L.stepG, f5, f13, f14, hlt']; refine hKK _ ?_; clear hKK KK) | (refine PL.done hK ?_; clear hK) | (refine PC.skip (hK _ _ ?_); clear hK) | (refine PC.condT ?_ ?_; focus (simp [go_sem, f5, f13, f14, hlt']; done)) | (refine PC.condF ?_ ?_; focus (simp [go_sem, f5, f13, f14, hlt']; done)) | (refine PC.exit ?_; first | (refine hK _ _ ?_; clear hK) | (clear hK; refine hK _ _ ?_; clear hK) | (clear hK; clear hK; refine hK _ _ ?_; clear hK)))
    (refine PC.ret ?_; refine fin (.inr rfl) (by simp [resP, resP1, Try.results47, go_sem, tokN, hr]) (by simp [go_sem, tokN, hr]))

set_option maxRecDepth 20000 in
set_option maxHeartbeats 4000000 in
theorem refToken_ok (n : Net) (at_ : List Int) (hl : at_.length ≤ 1000000) (hn : Nb n) : PCall Try.prog 56 [netV n, slI at_] (· = I (tokN n at_)) := by
  refine PCall.intro' Try.func56 rfl Try.ntmps56 (by simp) fun W => ?_
  refine PC.seq fun K hK => ?_
  refine PC.region ?_
  refine PL.boxA 1 (d := 2) rfl rfl rfl (by simp) (v := netV n) (by simp [go_sem]) (by simp [go_sem, okC]) rfl fun v H1 b1 o1 => ?_
  have b1 := netBox b1
  repeat (first | (refine PC.seq fun K hK => ?_) | (refine PC.block ?_) | (refine PC.region ?_) | (refine PL.k rfl fun KK hKK => ?_; simp (disch := omega) [go_sem, stepK, b1]; refine hKK _ ?_; clear hKK KK) | (refine PL.k rfl fun KK hKK => ?_; simp [go_sem, stepK, b1]; refine hKK _ ?_; clear hKK KK) | (refine PL.g rfl rfl fun KK hKK => ?_; simp (disch := omega) [go_sem, L.stepG, b1]; refine hKK _ ?_; clear hKK KK) | (refine PL.g rfl rfl fun KK hKK => ?_; simp [go_sem, L.stepG, b1]; refine hKK _ ?_; clear hKK KK) | (refine PL.done hK ?_; clear hK) | (refine PC.skip (hK _ _ ?_); clear hK) | (refine PC.condT ?_ ?_; focus (simp [go_sem, b1]; done)) | (refine PC.condF ?_ ?_; focus (simp [go_sem, b1]; done)) | (refine PC.exit ?_; first | (refine hK _ _ ?_; clear hK) | (clear hK; refine hK _ _ ?_; clear hK) | (clear hK; clear hK; refine hK _ _ ?_; clear hK)))
  refine PL.callB rfl rfl (by kernel_rfl) (refRight_ok n hn) (by simp [go_sem]) (by simp [go_sem]) (by simp [go_sem]) ?_
  cases hr : rightN n
  · repeat (first | (refine PC.seq fun K hK => ?_) | (refine PC.block ?_) | (refine PC.region ?_) | (refine PL.k rfl fun KK hKK => ?_; simp (disch := omega) [go_sem, stepK, hr]; refine hKK _ ?_; clear hKK KK) | (refine PL.k rfl fun KK hKK => ?_; simp [go_sem, stepK, hr]; refine hKK _ ?_; clear hKK KK) | (refine PL.g rfl rfl fun KK hKK => ?_; simp (disch := omega) [go_sem, L.stepG, hr]; refine hKK _ ?_; clear hKK KK) | (refine PL.g rfl rfl fun KK hKK => ?_; simp [go_sem, L.stepG, hr]; refine hKK _ ?_; clear hKK KK) | (refine PL.done hK ?_; clear hK) | (refine PC.skip (hK _ _ ?_); clear hK) | (refine PC.condT ?_ ?_; focus (simp [go_sem, hr]; done)) | (refine PC.condF ?_ ?_; focus (simp [go_sem, hr]; done)) | (refine PC.exit ?_; first | (refine hK _ _ ?_; clear hK) | (clear hK; refine hK _ _ ?_; clear hK) | (clear hK; clear hK; refine hK _ _ ?_; clear hK)))
    (refine PC.ret ?_; refine fin (.inr rfl) (by simp [resP, resP1, Try.results56, go_sem, tokN, hr]) (by simp [go_sem, tokN, hr]))
  have hR := (rightN_iff n).1 hr
  repeat (first | (refine PC.seq fun K hK => ?_) | (refine PC.block ?_) | (refine PC.region ?_) | (refine PL.k rfl fun KK hKK => ?_; simp (disch := omega) [go_sem, stepK, hr]; refine hKK _ ?_; clear hKK KK) | (refine PL.k rfl fun KK hKK => ?_; simp [go_sem, stepK, hr]; refine hKK _ ?_; clear hKK KK) | (refine PL.g rfl rfl fun KK hKK => ?_; simp (disch := omega) [go_sem, L.stepG, hr]; refine hKK _ ?_; clear hKK KK) | (refine PL.g rfl rfl fun KK hKK => ?_; simp [go_sem, L.stepG, hr]; refine hKK _ ?_; clear hKK KK) | (refine PL.done hK ?_; clear hK) | (refine PC.skip (hK _ _ ?_); clear hK) | (refine PC.condT ?_ ?_; focus (simp [go_sem, hr]; done)) | (refine PC.condF ?_ ?_; focus (simp [go_sem, hr]; done)) | (refine PC.exit ?_; first | (refine hK _ _ ?_; clear hK) | (clear hK; refine hK _ _ ?_; clear hK) | (clear hK; clear hK; refine hK _ _ ?_; clear hK)))
  refine PC.loop (fun m F H' => ∃ k : Nat, k ≤ at_.length ∧ m = at_.length - k ∧ F 1 = slI at_ ∧ F 2 = .pp 1 0 v ∧ F 5 = I (tokK n (at_.take k)) ∧ F 6 = I k ∧ H' = H1) (m := at_.length) ⟨0, by omega, by omega, by simp [go_sem], by simp [go_sem], by simp [go_sem, tokK], by simp [go_sem], rfl⟩ fun m F H' hI => ?_
  obtain ⟨k, hk, hm, f1, f2, f5, f6, rfl⟩ := hI
  by_cases hlt : k < at_.length
  · have hlt' : (k : Int) < at_.length := by omega
    have hsucc := tokK_succ n at_ k hlt
    obtain ⟨x, ex⟩ : ∃ x, at_[k] = x := ⟨_, rfl⟩
    rw [ex] at hsucc
    generalize tokK n (at_.take k) = t at *
    have fin : ∀ F2 : PFrame, F2 1 = slI at_ → F2 2 = .pp 1 0 v → F2 5 = I (tokF n t x) → F2 6 = I ((k : Int) + 1) → ∃ m', m' < m ∧ ∃ k : Nat, k ≤ at_.length ∧ m' = at_.length - k ∧ F2 1 = slI at_ ∧ F2 2 = .pp 1 0 v ∧ F2 5 = I (tokK n (at_.take k)) ∧ F2 6 = I k ∧ H' = H' := fun F2 g1 g2 g5 g6 =>
      ⟨at_.length - (k + 1), by omega, k + 1, by omega, by omega, g1, g2, by rw [hsucc]; exact g5, by rw [g6]; rfl, rfl⟩
    by_cases h0 : x < 0
    · have hF : tokF n t x = t := by unfold tokF okT; rw [if_neg]; simp; omega
      rw [hF] at fin
      have h0' : ¬ 0 ≤ x := by omega
      repeat (first | (refine PC.seq fun K hK => ?_) | (refine PC.block ?_) | (refine PC.region ?_) | (refine PL.k rfl fun KK hKK => ?_; simp (disch := omega) [go_sem, stepK, f1, f6, hlt']; refine hKK _ ?_; clear hKK KK) | (refine PL.k rfl fun KK hKK => ?_; simp [go_sem, stepK, f1, f6, hlt']; refine hKK _ ?_; clear hKK KK) | (refine PL.g rfl rfl fun KK hKK => ?_; simp (disch := omega) [go_sem, L.stepG, f1, f6, hlt']; refine hKK _ ?_; clear hKK KK) | (refine PL.g rfl rfl fun KK hKK => ?_; simp [go_sem, L.stepG, f1, f6, hlt']; refine hKK _ ?_; clear hKK KK) | (refine PL.done hK ?_; clear hK) | (refine PC.skip (hK _ _ ?_); clear hK) | (refine PC.condT ?_ ?_; focus (simp [go_sem, f1, f6, hlt']; done)) | (refine PC.condF ?_ ?_; focus (simp [go_sem, f1, f6, hlt']; done)) | (refine PC.exit ?_; first | (refine hK _ _ ?_; clear hK) | (clear hK; refine hK _ _ ?_; clear hK) | (clear hK; clear hK; refine hK _ _ ?_; clear hK)))
      refine PC.regionQ mixed (by kernel_rfl) ?_
      repeat (first | (refine QF.k rfl fun KK hKK => ?_; simp (disch := omega) [go_sem, stepK, f1, f2, f5, f6, hlt', hlt, ex, h0']; refine hKK _ ?_; clear hKK KK) | (refine QF.k rfl fun KK hKK => ?_; simp [go_sem, stepK, f1, f2, f5, f6, hlt', hlt, ex, h0']; refine hKK _ ?_; clear hKK KK) | (refine QF.g rfl rfl fun KK hKK => ?_; simp (disch := omega) [go_sem, L.stepG, f1, f2, f5, f6, hlt', hlt, ex, h0']; refine hKK _ ?_; clear hKK KK) | (refine QF.g rfl rfl fun KK hKK => ?_; simp [go_sem, L.stepG, f1, f2, f5, f6, hlt', hlt, ex, h0']; refine hKK _ ?_; clear hKK KK))
      refine QF.done hK ?_; clear hK
      repeat (first | (refine PC.seq fun K hK => ?_) | (refine PC.block ?_) | (refine PC.region ?_) | (refine PL.k rfl fun KK hKK => ?_; simp (disch := omega) [go_sem, stepK, f6]; refine hKK _ ?_; clear hKK KK) | (refine PL.k rfl fun KK hKK => ?_; simp [go_sem, stepK, f6]; refine hKK _ ?_; clear hKK KK) | (refine PL.g rfl rfl fun KK hKK => ?_; simp (disch := omega) [go_sem, L.stepG, f6]; refine hKK _ ?_; clear hKK KK) | (refine PL.g rfl rfl fun KK hKK => ?_; simp [go_sem, L.stepG, f6]; refine hKK _ ?_; clear hKK KK) | (refine PL.done hK ?_; clear hK) | (refine PC.skip (hK _ _ ?_); clear hK) | (refine PC.condT ?_ ?_; focus (simp [go_sem, f6]; done)) | (refine PC.condF ?_ ?_; focus (simp [go_sem, f6]; done)) | (refine PC.exit ?_; first | (refine hK _ _ ?_; clear hK) | (clear hK; refine hK _ _ ?_; clear hK) | (clear hK; clear hK; refine hK _ _ ?_; clear hK)))
      exact PL.nil (fin _ (by simp [go_sem, f1]) (by simp [go_sem, f2]) (by simp [go_sem, f5]) (by simp [go_sem]))
    have hx0 : 0 ≤ x := by omega
    by_cases h1 : (n.sets.length : Int) ≤ x
    · have hF : tokF n t x = t := by unfold tokF okT; rw [if_neg]; simp; omega
      rw [hF] at fin
      have h1' : ¬ x < (n.sets.length : Int) := by omega
      repeat (first | (refine PC.seq fun K hK => ?_) | (refine PC.block ?_) | (refine PC.region ?_) | (refine PL.k rfl fun KK hKK => ?_; simp (disch := omega) [go_sem, stepK, f1, f6, hlt']; refine hKK _ ?_; clear hKK KK) | (refine PL.k rfl fun KK hKK => ?_; simp [go_sem, stepK, f1, f6, hlt']; refine hKK _ ?_; clear hKK KK) | (refine PL.g rfl rfl fun KK hKK => ?_; simp (disch := omega) [go_sem, L.stepG, f1, f6, hlt']; refine hKK _ ?_; clear hKK KK) | (refine PL.g rfl rfl fun KK hKK => ?_; simp [go_sem, L.stepG, f1, f6, hlt']; refine hKK _ ?_; clear hKK KK) | (refine PL.done hK ?_; clear hK) | (refine PC.skip (hK _ _ ?_); clear hK) | (refine PC.condT ?_ ?_; focus (simp [go_sem, f1, f6, hlt']; done)) | (refine PC.condF ?_ ?_; focus (simp [go_sem, f1, f6, hlt']; done)) | (refine PC.exit ?_; first | (refine hK _ _ ?_; clear hK) | (clear hK; refine hK _ _ ?_; clear hK) | (clear hK; clear hK; refine hK _ _ ?_; clear hK)))
      refine PC.regionQ mixed (by kernel_rfl) ?_
      repeat (first | (refine QF.k rfl fun KK hKK => ?_; simp (disch := omega) [go_sem, stepK, f1, f2, f5, f6, hlt', hlt, ex, hx0, h1', b1]; refine hKK _ ?_; clear hKK KK) | (refine QF.k rfl fun KK hKK => ?_; simp [go_sem, stepK, f1, f2, f5, f6, hlt', hlt, ex, hx0, h1', b1]; refine hKK _ ?_; clear hKK KK) | (refine QF.g rfl rfl fun KK hKK => ?_; simp (disch := omega) [go_sem, L.stepG, f1, f2, f5, f6, hlt', hlt, ex, hx0, h1', b1]; refine hKK _ ?_; clear hKK KK) | (refine QF.g rfl rfl fun KK hKK => ?_; simp [go_sem, L.stepG, f1, f2, f5, f6, hlt', hlt, ex, hx0, h1', b1]; refine hKK _ ?_; clear hKK KK))
      refine QF.done hK ?_; clear hK
      repeat (first | (refine PC.seq fun K hK => ?_) | (refine PC.block ?_) | (refine PC.region ?_) | (refine PL.k rfl fun KK hKK => ?_; simp (disch := omega) [go_sem, stepK, f6]; refine hKK _ ?_; clear hKK KK) | (refine PL.k rfl fun KK hKK => ?_; simp [go_sem, stepK, f6]; refine hKK _ ?_; clear hKK KK) | (refine PL.g rfl rfl fun KK hKK => ?_; simp (disch := omega) [go_sem, L.stepG, f6]; refine hKK _ ?_; clear hKK KK) | (refine PL.g rfl rfl fun KK hKK => ?_; simp [go_sem, L.stepG, f6]; refine hKK _ ?_; clear hKK KK) | (refine PL.done hK ?_; clear hK) | (refine PC.skip (hK _ _ ?_); clear hK) | (refine PC.condT ?_ ?_; focus (simp [go_sem, f6]; done)) | (refine PC.condF ?_ ?_; focus (simp [go_sem, f6]; done)) | (refine PC.exit ?_; first | (refine hK _ _ ?_; clear hK) | (clear hK; refine hK _ _ ?_; clear hK) | (clear hK; clear hK; refine hK _ _ ?_; clear hK)))
      exact PL.nil (fin _ (by simp [go_sem, f1]) (by simp [go_sem, f2]) (by simp [go_sem, f5]) (by simp [go_sem]))
    have h1' : x < (n.sets.length : Int) := by omega
    have hll : x.toNat < n.last.length := by have := hR.l; omega
    have hol : x.toNat < n.of_.length := by have := hR.o; omega
    obtain ⟨y, ey⟩ : ∃ y, n.last[x.toNat] = y := ⟨_, rfl⟩
    obtain ⟨z, ez⟩ : ∃ z, n.of_[x.toNat] = z := ⟨_, rfl⟩
    have hok : okT n x = y := by unfold okT; simp [List.getD, hll, ey]; omega
    have hoz : ofT n x = z := by unfold ofT; simp [List.getD, hol, ez]
    unfold tokF at fin
    rw [hok, hoz] at fin
    cases y
    · repeat (first | (refine PC.seq fun K hK => ?_) | (refine PC.block ?_) | (refine PC.region ?_) | (refine PL.k rfl fun KK hKK => ?_; simp (disch := omega) [go_sem, stepK, f1, f6, hlt']; refine hKK _ ?_; clear hKK KK) | (refine PL.k rfl fun KK hKK => ?_; simp [go_sem, stepK, f1, f6, hlt']; refine hKK _ ?_; clear hKK KK) | (refine PL.g rfl rfl fun KK hKK => ?_; simp (disch := omega) [go_sem, L.stepG, f1, f6, hlt']; refine hKK _ ?_; clear hKK KK) | (refine PL.g rfl rfl fun KK hKK => ?_; simp [go_sem, L.stepG, f1, f6, hlt']; refine hKK _ ?_; clear hKK KK) | (refine PL.done hK ?_; clear hK) | (refine PC.skip (hK _ _ ?_); clear hK) | (refine PC.condT ?_ ?_; focus (simp [go_sem, f1, f6, hlt']; done)) | (refine PC.condF ?_ ?_; focus (simp [go_sem, f1, f6, hlt']; done)) | (refine PC.exit ?_; first | (refine hK _ _ ?_; clear hK) | (clear hK; refine hK _ _ ?_; clear hK) | (clear hK; clear hK; refine hK _ _ ?_; clear hK)))
      refine PC.regionQ mixed (by kernel_rfl) ?_
      repeat (first | (refine QF.k rfl fun KK hKK => ?_; simp (disch := omega) [go_sem, stepK, f1, f2, f5, f6, hlt', hlt, ex, hx0, h1', hll, ey, b1]; refine hKK _ ?_; clear hKK KK) | (refine QF.k rfl fun KK hKK => ?_; simp [go_sem, stepK, f1, f2, f5, f6, hlt', hlt, ex, hx0, h1', hll, ey, b1]; refine hKK _ ?_; clear hKK KK) | (refine QF.g rfl rfl fun KK hKK => ?_; simp (disch := omega) [go_sem, L.stepG, f1, f2, f5, f6, hlt', hlt, ex, hx0, h1', hll, ey, b1]; refine hKK _ ?_; clear hKK KK) | (refine QF.g rfl rfl fun KK hKK => ?_; simp [go_sem, L.stepG, f1, f2, f5, f6, hlt', hlt, ex, hx0, h1', hll, ey, b1]; refine hKK _ ?_; clear hKK KK))
      refine QF.done hK ?_; clear hK
      repeat (first | (refine PC.seq fun K hK => ?_) | (refine PC.block ?_) | (refine PC.region ?_) | (refine PL.k rfl fun KK hKK => ?_; simp (disch := omega) [go_sem, stepK, f6]; refine hKK _ ?_; clear hKK KK) | (refine PL.k rfl fun KK hKK => ?_; simp [go_sem, stepK, f6]; refine hKK _ ?_; clear hKK KK) | (refine PL.g rfl rfl fun KK hKK => ?_; simp (disch := omega) [go_sem, L.stepG, f6]; refine hKK _ ?_; clear hKK KK) | (refine PL.g rfl rfl fun KK hKK => ?_; simp [go_sem, L.stepG, f6]; refine hKK _ ?_; clear hKK KK) | (refine PL.done hK ?_; clear hK) | (refine PC.skip (hK _ _ ?_); clear hK) | (refine PC.condT ?_ ?_; focus (simp [go_sem, f6]; done)) | (refine PC.condF ?_ ?_; focus (simp [go_sem, f6]; done)) | (refine PC.exit ?_; first | (refine hK _ _ ?_; clear hK) | (clear hK; refine hK _ _ ?_; clear hK) | (clear hK; clear hK; refine hK _ _ ?_; clear hK)))
      exact PL.nil (fin _ (by simp [go_sem, f1]) (by simp [go_sem, f2]) (by simp [go_sem, f5]) (by simp [go_sem]))
    · by_cases ht : t < 0
      · rw [if_pos rfl, if_pos (.inl ht)] at fin
        repeat (first | (refine PC.seq fun K hK => ?_) | (refine PC.block ?_) | (refine PC.region ?_) | (refine PL.k rfl fun KK hKK => ?_; simp (disch := omega) [go_sem, stepK, f1, f6, hlt']; refine hKK _ ?_; clear hKK KK) | (refine PL.k rfl fun KK hKK => ?_; simp [go_sem, stepK, f1, f6, hlt']; refine hKK _ ?_; clear hKK KK) | (refine PL.g rfl rfl fun KK hKK => ?_; simp (disch := omega) [go_sem, L.stepG, f1, f6, hlt']; refine hKK _ ?_; clear hKK KK) | (refine PL.g rfl rfl fun KK hKK => ?_; simp [go_sem, L.stepG, f1, f6, hlt']; refine hKK _ ?_; clear hKK KK) | (refine PL.done hK ?_; clear hK) | (refine PC.skip (hK _ _ ?_); clear hK) | (refine PC.condT ?_ ?_; focus (simp [go_sem, f1, f6, hlt']; done)) | (refine PC.condF ?_ ?_; focus (simp [go_sem, f1, f6, hlt']; done)) | (refine PC.exit ?_; first | (refine hK _ _ ?_; clear hK) | (clear hK; refine hK _ _ ?_; clear hK) | (clear hK; clear hK; refine hK _ _ ?_; clear hK)))
        refine PC.regionQ mixed (by kernel_rfl) ?_
        repeat (first | (refine QF.k rfl fun KK hKK => ?_; simp (disch := omega) [go_sem, stepK, f1, f2, f5, f6, hlt', hlt, ex, hx0, h1', hll, ey, ht, b1]; refine hKK _ ?_; clear hKK KK) | (refine QF.k rfl fun KK hKK => ?_; simp [go_sem, stepK, f1, f2, f5, f6, hlt', hlt, ex, hx0, h1', hll, ey, ht, b1]; refine hKK _ ?_; clear hKK KK) | (refine QF.g rfl rfl fun KK hKK => ?_; simp (disch := omega) [go_sem, L.stepG, f1, f2, f5, f6, hlt', hlt, ex, hx0, h1', hll, ey, ht, b1]; refine hKK _ ?_; clear hKK KK) | (refine QF.g rfl rfl fun KK hKK => ?_; simp [go_sem, L.stepG, f1, f2, f5, f6, hlt', hlt, ex, hx0, h1', hll, ey, ht, b1]; refine hKK _ ?_; clear hKK KK))
        refine QF.done hK ?_; clear hK
        repeat (first | (refine PC.seq fun K hK => ?_) | (refine PC.block ?_) | (refine PC.region ?_) | (refine PL.k rfl fun KK hKK => ?_; simp (disch := omega) [go_sem, stepK]; refine hKK _ ?_; clear hKK KK) | (refine PL.k rfl fun KK hKK => ?_; simp [go_sem, stepK]; refine hKK _ ?_; clear hKK KK) | (refine PL.g rfl rfl fun KK hKK => ?_; simp (disch := omega) [go_sem, L.stepG]; refine hKK _ ?_; clear hKK KK) | (refine PL.g rfl rfl fun KK hKK => ?_; simp [go_sem, L.stepG]; refine hKK _ ?_; clear hKK KK) | (refine PL.done hK ?_; clear hK) | (refine PC.skip (hK _ _ ?_); clear hK) | (refine PC.condT ?_ ?_; focus (simp [go_sem]; done)) | (refine PC.condF ?_ ?_; focus (simp [go_sem]; done)) | (refine PC.exit ?_; first | (refine hK _ _ ?_; clear hK) | (clear hK; refine hK _ _ ?_; clear hK) | (clear hK; clear hK; refine hK _ _ ?_; clear hK)))
        refine PC.regionQ mixed (by kernel_rfl) ?_
        repeat (first | (refine QF.k rfl fun KK hKK => ?_; simp (disch := omega) [go_sem, stepK, f1, f2, f5, f6, hlt', hlt, ex, hx0, h1', hol, ez, b1]; refine hKK _ ?_; clear hKK KK) | (refine QF.k rfl fun KK hKK => ?_; simp [go_sem, stepK, f1, f2, f5, f6, hlt', hlt, ex, hx0, h1', hol, ez, b1]; refine hKK _ ?_; clear hKK KK) | (refine QF.g rfl rfl fun KK hKK => ?_; simp (disch := omega) [go_sem, L.stepG, f1, f2, f5, f6, hlt', hlt, ex, hx0, h1', hol, ez, b1]; refine hKK _ ?_; clear hKK KK) | (refine QF.g rfl rfl fun KK hKK => ?_; simp [go_sem, L.stepG, f1, f2, f5, f6, hlt', hlt, ex, hx0, h1', hol, ez, b1]; refine hKK _ ?_; clear hKK KK))
        refine QF.nil (hK _ _ ?_); clear hK
        repeat (first | (refine PC.seq fun K hK => ?_) | (refine PC.block ?_) | (refine PC.region ?_) | (refine PL.k rfl fun KK hKK => ?_; simp (disch := omega) [go_sem, stepK, f6]; refine hKK _ ?_; clear hKK KK) | (refine PL.k rfl fun KK hKK => ?_; simp [go_sem, stepK, f6]; refine hKK _ ?_; clear hKK KK) | (refine PL.g rfl rfl fun KK hKK => ?_; simp (disch := omega) [go_sem, L.stepG, f6]; refine hKK _ ?_; clear hKK KK) | (refine PL.g rfl rfl fun KK hKK => ?_; simp [go_sem, L.stepG, f6]; refine hKK _ ?_; clear hKK KK) | (refine PL.done hK ?_; clear hK) | (refine PC.skip (hK _ _ ?_); clear hK) | (refine PC.condT ?_ ?_; focus (simp [go_sem, f6]; done)) | (refine PC.condF ?_ ?_; focus (simp [go_sem, f6]; done)) | (refine PC.exit ?_; first | (refine hK _ _ ?_; clear hK) | (clear hK; refine hK _ _ ?_; clear hK) | (clear hK; clear hK; refine hK _ _ ?_; clear hK)))
        exact PL.nil (fin _ (by simp [go_sem, f1]) (by simp [go_sem, f2]) (by simp [go_sem]) (by simp [go_sem]))
      · by_cases hz : z < t
        · rw [if_pos rfl, if_pos (.inr hz)] at fin
          repeat (first | (refine PC.seq fun K hK => ?_) | (refine PC.block ?_) | (refine PC.region ?_) | (refine PL.k rfl fun KK hKK => ?_; simp (disch := omega) [go_sem, stepK, f1, f6, hlt']; refine hKK _ ?_; clear hKK KK) | (refine PL.k rfl fun KK hKK => ?_; simp [go_sem, stepK, f1, f6, hlt']; refine hKK _ ?_; clear hKK KK) | (refine PL.g rfl rfl fun KK hKK => ?_; simp (disch := omega) [go_sem, L.stepG, f1, f6, hlt']; refine hKK _ ?_; clear hKK KK) | (refine PL.g rfl rfl fun KK hKK => ?_; simp [go_sem, L.stepG, f1, f6, hlt']; refine hKK _ ?_; clear hKK KK) | (refine PL.done hK ?_; clear hK) | (refine PC.skip (hK _ _ ?_); clear hK) | (refine PC.condT ?_ ?_; focus (simp [go_sem, f1, f6, hlt']; done)) | (refine PC.condF ?_ ?_; focus (simp [go_sem, f1, f6, hlt']; done)) | (refine PC.exit ?_; first | (refine hK _ _ ?_; clear hK) | (clear hK; refine hK _ _ ?_; clear hK) | (clear hK; clear hK; refine hK _ _ ?_; clear hK)))
          refine PC.regionQ mixed (by kernel_rfl) ?_
          repeat (first | (refine QF.k rfl fun KK hKK => ?_; simp (disch := omega) [go_sem, stepK, f1, f2, f5, f6, hlt', hlt, ex, hx0, h1', hll, ey, hol, ez, ht, hz, b1]; refine hKK _ ?_; clear hKK KK) | (refine QF.k rfl fun KK hKK => ?_; simp [go_sem, stepK, f1, f2, f5, f6, hlt', hlt, ex, hx0, h1', hll, ey, hol, ez, ht, hz, b1]; refine hKK _ ?_; clear hKK KK) | (refine QF.g rfl rfl fun KK hKK => ?_; simp (disch := omega) [go_sem, L.stepG, f1, f2, f5, f6, hlt', hlt, ex, hx0, h1', hll, ey, hol, ez, ht, hz, b1]; refine hKK _ ?_; clear hKK KK) | (refine QF.g rfl rfl fun KK hKK => ?_; simp [go_sem, L.stepG, f1, f2, f5, f6, hlt', hlt, ex, hx0, h1', hll, ey, hol, ez, ht, hz, b1]; refine hKK _ ?_; clear hKK KK))
          refine QF.done hK ?_; clear hK
          repeat (first | (refine PC.seq fun K hK => ?_) | (refine PC.block ?_) | (refine PC.region ?_) | (refine PL.k rfl fun KK hKK => ?_; simp (disch := omega) [go_sem, stepK]; refine hKK _ ?_; clear hKK KK) | (refine PL.k rfl fun KK hKK => ?_; simp [go_sem, stepK]; refine hKK _ ?_; clear hKK KK) | (refine PL.g rfl rfl fun KK hKK => ?_; simp (disch := omega) [go_sem, L.stepG]; refine hKK _ ?_; clear hKK KK) | (refine PL.g rfl rfl fun KK hKK => ?_; simp [go_sem, L.stepG]; refine hKK _ ?_; clear hKK KK) | (refine PL.done hK ?_; clear hK) | (refine PC.skip (hK _ _ ?_); clear hK) | (refine PC.condT ?_ ?_; focus (simp [go_sem]; done)) | (refine PC.condF ?_ ?_; focus (simp [go_sem]; done)) | (refine PC.exit ?_; first | (refine hK _ _ ?_; clear hK) | (clear hK; refine hK _ _ ?_; clear hK) | (clear hK; clear hK; refine hK _ _ ?_; clear hK)))
          refine PC.regionQ mixed (by kernel_rfl) ?_
          repeat (first | (refine QF.k rfl fun KK hKK => ?_; simp (disch := omega) [go_sem, stepK, f1, f2, f5, f6, hlt', hlt, ex, hx0, h1', hol, ez, b1]; refine hKK _ ?_; clear hKK KK) | (refine QF.k rfl fun KK hKK => ?_; simp [go_sem, stepK, f1, f2, f5, f6, hlt', hlt, ex, hx0, h1', hol, ez, b1]; refine hKK _ ?_; clear hKK KK) | (refine QF.g rfl rfl fun KK hKK => ?_; simp (disch := omega) [go_sem, L.stepG, f1, f2, f5, f6, hlt', hlt, ex, hx0, h1', hol, ez, b1]; refine hKK _ ?_; clear hKK KK) | (refine QF.g rfl rfl fun KK hKK => ?_; simp [go_sem, L.stepG, f1, f2, f5, f6, hlt', hlt, ex, hx0, h1', hol, ez, b1]; refine hKK _ ?_; clear hKK KK))
          refine QF.nil (hK _ _ ?_); clear hK
          repeat (first | (refine PC.seq fun K hK => ?_) | (refine PC.block ?_) | (refine PC.region ?_) | (refine PL.k rfl fun KK hKK => ?_; simp (disch := omega) [go_sem, stepK, f6]; refine hKK _ ?_; clear hKK KK) | (refine PL.k rfl fun KK hKK => ?_; simp [go_sem, stepK, f6]; refine hKK _ ?_; clear hKK KK) | (refine PL.g rfl rfl fun KK hKK => ?_; simp (disch := omega) [go_sem, L.stepG, f6]; refine hKK _ ?_; clear hKK KK) | (refine PL.g rfl rfl fun KK hKK => ?_; simp [go_sem, L.stepG, f6]; refine hKK _ ?_; clear hKK KK) | (refine PL.done hK ?_; clear hK) | (refine PC.skip (hK _ _ ?_); clear hK) | (refine PC.condT ?_ ?_; focus (simp [go_sem, f6]; done)) | (refine PC.condF ?_ ?_; focus (simp [go_sem, f6]; done)) | (refine PC.exit ?_; first | (refine hK _ _ ?_; clear hK) | (clear hK; refine hK _ _ ?_; clear hK) | (clear hK; clear hK; refine hK _ _ ?_; clear hK)))
          exact PL.nil (fin _ (by simp [go_sem, f1]) (by simp [go_sem, f2]) (by simp [go_sem]) (by simp [go_sem]))
        · rw [if_pos rfl, if_neg (by omega)] at fin
          repeat (first | (refine PC.seq fun K hK => ?_) | (refine PC.block ?_) | (refine PC.region ?_) | (refine PL.k rfl fun KK hKK => ?_; simp (disch := omega) [go_sem, stepK, f1, f6, hlt']; refine hKK _ ?_; clear hKK KK) | (refine PL.k rfl fun KK hKK => ?_; simp [go_sem, stepK, f1, f6, hlt']; refine hKK _ ?_; clear hKK KK) | (refine PL.g rfl rfl fun KK hKK => ?_; simp (disch := omega) [go_sem, L.stepG, f1, f6, hlt']; refine hKK _ ?_; clear hKK KK) | (refine PL.g rfl rfl fun KK hKK => ?_; simp [go_sem, L.stepG, f1, f6, hlt']; refine hKK _ ?_; clear hKK KK) | (refine PL.done hK ?_; clear hK) | (refine PC.skip (hK _ _ ?_); clear hK) | (refine PC.condT ?_ ?_; focus (simp [go_sem, f1, f6, hlt']; done)) | (refine PC.condF ?_ ?_; focus (simp [go_sem, f1, f6, hlt']; done)) | (refine PC.exit ?_; first | (refine hK _ _ ?_; clear hK) | (clear hK; refine hK _ _ ?_; clear hK) | (clear hK; clear hK; refine hK _ _ ?_; clear hK)))
          refine PC.regionQ mixed (by kernel_rfl) ?_
          repeat (first | (refine QF.k rfl fun KK hKK => ?_; simp (disch := omega) [go_sem, stepK, f1, f2, f5, f6, hlt', hlt, ex, hx0, h1', hll, ey, hol, ez, ht, hz, b1]; refine hKK _ ?_; clear hKK KK) | (refine QF.k rfl fun KK hKK => ?_; simp [go_sem, stepK, f1, f2, f5, f6, hlt', hlt, ex, hx0, h1', hll, ey, hol, ez, ht, hz, b1]; refine hKK _ ?_; clear hKK KK) | (refine QF.g rfl rfl fun KK hKK => ?_; simp (disch := omega) [go_sem, L.stepG, f1, f2, f5, f6, hlt', hlt, ex, hx0, h1', hll, ey, hol, ez, ht, hz, b1]; refine hKK _ ?_; clear hKK KK) | (refine QF.g rfl rfl fun KK hKK => ?_; simp [go_sem, L.stepG, f1, f2, f5, f6, hlt', hlt, ex, hx0, h1', hll, ey, hol, ez, ht, hz, b1]; refine hKK _ ?_; clear hKK KK))
          refine QF.done hK ?_; clear hK
          repeat (first | (refine PC.seq fun K hK => ?_) | (refine PC.block ?_) | (refine PC.region ?_) | (refine PL.k rfl fun KK hKK => ?_; simp (disch := omega) [go_sem, stepK, f6]; refine hKK _ ?_; clear hKK KK) | (refine PL.k rfl fun KK hKK => ?_; simp [go_sem, stepK, f6]; refine hKK _ ?_; clear hKK KK) | (refine PL.g rfl rfl fun KK hKK => ?_; simp (disch := omega) [go_sem, L.stepG, f6]; refine hKK _ ?_; clear hKK KK) | (refine PL.g rfl rfl fun KK hKK => ?_; simp [go_sem, L.stepG, f6]; refine hKK _ ?_; clear hKK KK) | (refine PL.done hK ?_; clear hK) | (refine PC.skip (hK _ _ ?_); clear hK) | (refine PC.condT ?_ ?_; focus (simp [go_sem, f6]; done)) | (refine PC.condF ?_ ?_; focus (simp [go_sem, f6]; done)) | (refine PC.exit ?_; first | (refine hK _ _ ?_; clear hK) | (clear hK; refine hK _ _ ?_; clear hK) | (clear hK; clear hK; refine hK _ _ ?_; clear hK)))
          exact PL.nil (fin _ (by simp [go_sem, f1]) (by simp [go_sem, f2]) (by simp [go_sem, f5]) (by simp [go_sem]))
  · have hlt' : ¬ (k : Int) < at_.length := by omega
    have hke : k = at_.length := by omega
    rw [hke, List.take_length] at f5
    repeat (first | (refine PC.seq fun K hK => ?_) | (refine PC.block ?_) | (refine PC.region ?_) | (refine PL.k rfl fun KK hKK => ?_; simp (disch := omega) [go_sem, stepK, f1, f5, f6, hlt']; refine hKK _ ?_; clear hKK KK) | (refine PL.k rfl fun KK hKK => ?_; simp [go_sem, stepK, f1, f5, f6, hlt']; refine hKK _ ?_; clear hKK KK) | (refine PL.g rfl rfl fun KK hKK => ?_; simp (disch := omega) [go_sem, L.stepG, f1, f5, f6, hlt']; refine hKK _ ?_; clear hKK KK) | (refine PL.g rfl rfl fun KK hKK => ?_; simp [go_sem, L.stepG, f1, f5, f6, hlt']; refine hKK _ ?_; clear hKK KK) | (refine PL.done hK ?_; clear hK) | (refine PC.skip (hK _ _ ?_); clear hK) | (refine PC.condT ?_ ?_; focus (simp [go_sem, f1, f5, f6, hlt']; done)) | (refine PC.condF ?_ ?_; focus (simp [go_sem, f1, f5, f6, hlt']; done)) | (refine PC.exit ?_; first | (refine hK _ _ ?_; clear hK) | (clear hK; refine hK _ _ ?_; clear hK) | (clear hK; clear hK; refine hK _ _ ?_; clear hK)))
    (refine PC.ret ?_; refine fin (.inr rfl) (by simp [resP, resP1, Try.results56, go_sem, tokN, hr]) (by simp [go_sem, tokN, hr]))
end Go.Proofs.Ytficeeaaaijgcaa

/-
  The spots of tokens together: the package fuse and chapter 12's reference.
-/
namespace Go.Proofs.Ytficeeaaaijgcaa
open Go Go.RowKit L
set_option linter.unusedVariables false
set_option linter.unusedSimpArgs false

theorem L.OwnS.okC {H : PHeap} {e k id m : Nat} {q : PV} {cs : List PV} (h : OwnS H e k id q m cs) : L.okC H q = true := by
  rcases h.2 with ⟨rfl, _⟩ | ⟨v, rfl, h2⟩
  · rfl
  · simp [L.okC, leafOk, liveRow, h2]
theorem L.OwnS.cells {H : PHeap} {e k id m : Nat} {q : PV} {cs : List PV} (h : OwnS H e k id q m cs) : q.cells = [q] := by
  rcases h.2 with ⟨rfl, _⟩ | ⟨v, rfl, h2⟩ <;> rfl

structure NetAt (H : PHeap) (v : Nat) (n : Net) (q0 q1 q2 q3 q4 : PV) : Prop where
  b : H 3 = ⟨v, some (.box 61 [q0, q1, q2, q3, q4])⟩
  h0 : ownSs H 30 q0 n.sets
  h1 : ownIs H 31 q1 n.of_
  h2 : ownBs H 32 q2 n.last
  h3 : ownLs H 33 q3 n.follow
  h4 : ownIs H 34 q4 n.first
theorem NetAt.mono {H H' : PHeap} {v : Nat} {n : Net} {q0 q1 q2 q3 q4 : PV} (h : NetAt H v n q0 q1 q2 q3 q4) (o : ∀ j, j = 3 ∨ (30 ≤ j ∧ j ≤ 34) → H' j = H j) : NetAt H' v n q0 q1 q2 q3 q4 :=
  ⟨(o 3 (by omega)).trans h.b, h.h0.mono (o 30 (by omega)), h.h1.mono (o 31 (by omega)), h.h2.mono (o 32 (by omega)), h.h3.mono (o 33 (by omega)), h.h4.mono (o 34 (by omega))⟩
theorem NetAt.view {H : PHeap} {v : Nat} {n : Net} {q0 q1 q2 q3 q4 : PV} (h : NetAt H v n q0 q1 q2 q3 q4) : View H (.agg [q0, q1, q2, q3, q4]) (netV n) := by
  have n1 : ∀ (x : Int) c, c ∈ (I x).cells → NoP c := fun x c hc => by simp [PV.cells] at hc; subst hc; exact .u _
  have v0 : View H q0 (slS n.sets) := h.h0.view (fun _ => rfl) fun x c hc => by simp [encS, PV.cells] at hc; rcases hc with rfl | rfl | rfl | rfl <;> exact .u _
  have v1 : View H q1 (slI n.of_) := h.h1.view (fun _ => rfl) n1
  have v2 : View H q2 (slB n.last) := h.h2.view (fun _ => rfl) fun x c hc => by simp [PV.cells] at hc; subst hc; exact .u _
  have v3 : View H q3 (slLL n.follow) := h.h3.view (fun _ => rfl) fun x c hc => by simp [go_sem] at hc; subst hc; exact noP_slI _
  have v4 : View H q4 (slI n.first) := h.h4.view (fun _ => rfl) n1
  refine View.agg rfl fun i p q h1 h2 => ?_
  match i, h1, h2 with
  | 0, h1, h2 => cases h1; cases h2; exact v0
  | 1, h1, h2 => cases h1; cases h2; exact v1
  | 2, h1, h2 => cases h1; cases h2; exact v2
  | 3, h1, h2 => cases h1; cases h2; exact v3
  | 4, h1, h2 => cases h1; cases h2; exact v4
theorem NetAt.up0 {H H1 H2 : PHeap} {v : Nat} {n : Net} {q0 q1 q2 q3 q4 q' : PV} {ys : List Rx} (h : NetAt H v n q0 q1 q2 q3 q4) (a : ownSs H1 30 q' (n.sets ++ ys)) (o1 : ∀ j, j ≠ 30 → H1 j = H j) (b2 : H2 3 = ⟨v, some (.box 61 [q', q1, q2, q3, q4])⟩) (o2 : ∀ j, j ≠ 3 → H2 j = H1 j) : NetAt H2 v { n with sets := n.sets ++ ys } q' q1 q2 q3 q4 :=
  ⟨b2, a.mono (o2 30 (by omega)), (h.h1.mono (o1 31 (by omega))).mono (o2 31 (by omega)), (h.h2.mono (o1 32 (by omega))).mono (o2 32 (by omega)), (h.h3.mono (o1 33 (by omega))).mono (o2 33 (by omega)), (h.h4.mono (o1 34 (by omega))).mono (o2 34 (by omega))⟩
theorem NetAt.up1 {H H1 H2 : PHeap} {v : Nat} {n : Net} {q0 q1 q2 q3 q4 q' : PV} {ys : List Int} (h : NetAt H v n q0 q1 q2 q3 q4) (a : ownIs H1 31 q' (n.of_ ++ ys)) (o1 : ∀ j, j ≠ 31 → H1 j = H j) (b2 : H2 3 = ⟨v, some (.box 61 [q0, q', q2, q3, q4])⟩) (o2 : ∀ j, j ≠ 3 → H2 j = H1 j) : NetAt H2 v { n with of_ := n.of_ ++ ys } q0 q' q2 q3 q4 :=
  ⟨b2, (h.h0.mono (o1 30 (by omega))).mono (o2 30 (by omega)), a.mono (o2 31 (by omega)), (h.h2.mono (o1 32 (by omega))).mono (o2 32 (by omega)), (h.h3.mono (o1 33 (by omega))).mono (o2 33 (by omega)), (h.h4.mono (o1 34 (by omega))).mono (o2 34 (by omega))⟩
theorem NetAt.up2 {H H1 H2 : PHeap} {v : Nat} {n : Net} {q0 q1 q2 q3 q4 q' : PV} {ys : List Bool} (h : NetAt H v n q0 q1 q2 q3 q4) (a : ownBs H1 32 q' (n.last ++ ys)) (o1 : ∀ j, j ≠ 32 → H1 j = H j) (b2 : H2 3 = ⟨v, some (.box 61 [q0, q1, q', q3, q4])⟩) (o2 : ∀ j, j ≠ 3 → H2 j = H1 j) : NetAt H2 v { n with last := n.last ++ ys } q0 q1 q' q3 q4 :=
  ⟨b2, (h.h0.mono (o1 30 (by omega))).mono (o2 30 (by omega)), (h.h1.mono (o1 31 (by omega))).mono (o2 31 (by omega)), a.mono (o2 32 (by omega)), (h.h3.mono (o1 33 (by omega))).mono (o2 33 (by omega)), (h.h4.mono (o1 34 (by omega))).mono (o2 34 (by omega))⟩
theorem NetAt.up3 {H H1 H2 : PHeap} {v : Nat} {n : Net} {q0 q1 q2 q3 q4 q' : PV} {ys : List (List Int)} (h : NetAt H v n q0 q1 q2 q3 q4) (a : ownLs H1 33 q' (n.follow ++ ys)) (o1 : ∀ j, j ≠ 33 → H1 j = H j) (b2 : H2 3 = ⟨v, some (.box 61 [q0, q1, q2, q', q4])⟩) (o2 : ∀ j, j ≠ 3 → H2 j = H1 j) : NetAt H2 v { n with follow := n.follow ++ ys } q0 q1 q2 q' q4 :=
  ⟨b2, (h.h0.mono (o1 30 (by omega))).mono (o2 30 (by omega)), (h.h1.mono (o1 31 (by omega))).mono (o2 31 (by omega)), (h.h2.mono (o1 32 (by omega))).mono (o2 32 (by omega)), a.mono (o2 33 (by omega)), (h.h4.mono (o1 34 (by omega))).mono (o2 34 (by omega))⟩
theorem NetAt.up4 {H H1 H2 : PHeap} {v : Nat} {n : Net} {q0 q1 q2 q3 q4 q' : PV} {ys : List Int} (h : NetAt H v n q0 q1 q2 q3 q4) (a : ownIs H1 34 q' (n.first ++ ys)) (o1 : ∀ j, j ≠ 34 → H1 j = H j) (b2 : H2 3 = ⟨v, some (.box 61 [q0, q1, q2, q3, q'])⟩) (o2 : ∀ j, j ≠ 3 → H2 j = H1 j) : NetAt H2 v { n with first := n.first ++ ys } q0 q1 q2 q3 q' :=
  ⟨b2, (h.h0.mono (o1 30 (by omega))).mono (o2 30 (by omega)), (h.h1.mono (o1 31 (by omega))).mono (o2 31 (by omega)), (h.h2.mono (o1 32 (by omega))).mono (o2 32 (by omega)), (h.h3.mono (o1 33 (by omega))).mono (o2 33 (by omega)), a.mono (o2 34 (by omega))⟩

theorem okC_agg5 {H : PHeap} {v : Nat} {n : Net} {q0 q1 q2 q3 q4 : PV} (h : NetAt H v n q0 q1 q2 q3 q4) : L.okC H (.agg [q0, q1, q2, q3, q4]) = true := by
  have l0 := OwnS.leaf h.h0
  have l1 := OwnS.leaf h.h1
  have l2 := OwnS.leaf h.h2
  have l3 := OwnS.leaf h.h3
  have l4 := OwnS.leaf h.h4
  simp [L.okC, l0, l1, l2, l3, l4]

def fuseI (n : Net) (t : Nat) (r : List Rx) (i : Nat) : Net :=
  { sets := n.sets ++ (spSets r).take i, of_ := n.of_ ++ List.replicate i (t : Int), last := n.last ++ (List.range i).map fun j : Nat => decide ((j : Int) ∈ spLast r), follow := n.follow ++ (List.range i).map fun j : Nat => moreL (spFollow r j) n.sets.length, first := n.first }
def fuseS (n : Net) (t : Nat) (r : List Rx) : Net := { fuseI n t r (spSets r).length with first := n.first ++ moreL (spFirst r) n.sets.length }
def fuseK (l : List Tok) : Nat → Net
  | 0 => ⟨[], [], [], [], []⟩
  | k + 1 => fuseS (fuseK l k) k (((l[k]?).map Tok.rex).getD [])
def fuseL (l : List Tok) : Net := fuseK l l.length
theorem fuseK_succ (l : List Tok) (k : Nat) (h : k < l.length) : fuseK l (k + 1) = fuseS (fuseK l k) k l[k].rex := by
  rw [fuseK]; simp [h]
theorem fuseI_zero (n : Net) (t : Nat) (r : List Rx) : fuseI n t r 0 = n := by simp [fuseI]
theorem fuseI_succ (n : Net) (t : Nat) (r : List Rx) (i : Nat) (h : i < (spSets r).length) : fuseI n t r (i + 1) =
    { fuseI n t r i with sets := (fuseI n t r i).sets ++ [(spSets r)[i]], of_ := (fuseI n t r i).of_ ++ [(t : Int)], last := (fuseI n t r i).last ++ [decide ((i : Int) ∈ spLast r)], follow := (fuseI n t r i).follow ++ [moreL (spFollow r i) n.sets.length] } := by
  unfold fuseI
  rw [List.take_succ_eq_append_getElem h, List.range_succ]
  simp [List.replicate_succ']

theorem folL_rise (e : E) (i : Int) (n : Nat) : Rising (folL e i n) := by
  unfold folL Rising
  refine List.Pairwise.filter _ ?_
  rw [List.pairwise_map]
  exact List.pairwise_lt_range.imp fun h => by omega
structure SpF (r : List Rx) : Prop where
  n : (spSets r).length ≤ 1000
  first : Rising (spFirst r) ∧ ∀ x ∈ spFirst r, 0 ≤ x ∧ x < (spSets r).length
  last : Rising (spLast r) ∧ ∀ x ∈ spLast r, 0 ≤ x ∧ x < (spSets r).length
  fol : ∀ i, Rising (spFollow r i) ∧ ∀ x ∈ spFollow r i, 0 ≤ x ∧ x < (spSets r).length
theorem sp_facts (r : List Rx) : SpF r := by
  by_cases h : checkL r = 0
  · obtain ⟨e, he⟩ := wfx_of r h
    obtain ⟨hS, hF, hL, hE, hO⟩ := sp_of he
    have hn := setsT_len e
    refine ⟨(sp_len r).1, ?_, ?_, fun i => ?_⟩
    · rw [hS, hF, hn]; exact ⟨(first_in e 0).1, fun x hx => by have := (first_in e 0).2 x hx; omega⟩
    · rw [hS, hL, hn]; exact ⟨(last_in e 0).1, fun x hx => by have := (last_in e 0).2 x hx; omega⟩
    · rw [hS, hO, hn]
      refine ⟨?_, fun x hx => by have := fol_in e 0 i x (folR_mem.1 hx); omega⟩
      unfold folR
      split
      · exact folL_rise _ _ _
      · simp [Rising]
  · have e1 : spSets r = [] := by unfold spSets; rw [if_neg h]
    have e2 : spFirst r = [] := by unfold spFirst; rw [if_neg h]
    have e3 : spLast r = [] := by unfold spLast; rw [if_neg h]
    have e4 : ∀ i, spFollow r i = [] := fun i => by unfold spFollow; rw [if_neg (fun h' => h h'.1)]
    refine ⟨by rw [e1]; simp, by rw [e2]; simp [Rising], by rw [e3]; simp [Rising], fun i => by rw [e4]; simp [Rising]⟩
structure NetB (n : Net) (c : Nat) : Prop where
  s : n.sets.length ≤ c
  o : n.of_.length ≤ c
  l : n.last.length ≤ c
  f : n.follow.length ≤ c
  t : n.first.length ≤ c
theorem fuseK_b (l : List Tok) (k : Nat) : NetB (fuseK l k) (1000 * k) := by
  induction k with
  | zero => exact ⟨by simp [fuseK], by simp [fuseK], by simp [fuseK], by simp [fuseK], by simp [fuseK]⟩
  | succ k ih =>
    rw [fuseK]
    generalize ((l[k]?).map Tok.rex).getD [] = r
    have hr := sp_facts r
    have h1 := hr.n
    have h2 := rising_len2 hr.first
    obtain ⟨a, b, c, d, e⟩ := ih
    refine ⟨?_, ?_, ?_, ?_, ?_⟩ <;> simp [fuseS, fuseI, moreL] <;> omega

set_option maxRecDepth 20000 in
set_option maxHeartbeats 8000000 in
theorem fuseFuse_ok (l : List Tok) (hl : l.length ≤ 12) : PCall Try.prog 42 [slT l] (· = netV (fuseL l)) := by
  have cS : ∀ r : List Rx, PCall Try.prog 13 [slX r] (· = slS (spSets r)) := Sets_ok
  refine PCall.intro' Try.func42 rfl Try.ntmps42 (by simp) fun W => ?_
  repeat (first | (refine PC.seq fun K hK => ?_) | (refine PC.block ?_) | (refine PC.region ?_) | (refine PL.k rfl fun KK hKK => ?_; simp (disch := omega) [go_sem, stepK]; refine hKK _ ?_; clear hKK KK) | (refine PL.k rfl fun KK hKK => ?_; simp [go_sem, stepK]; refine hKK _ ?_; clear hKK KK) | (refine PL.g rfl rfl fun KK hKK => ?_; simp (disch := omega) [go_sem, L.stepG]; refine hKK _ ?_; clear hKK KK) | (refine PL.g rfl rfl fun KK hKK => ?_; simp [go_sem, L.stepG]; refine hKK _ ?_; clear hKK KK) | (refine PL.done hK ?_; clear hK) | (refine PC.skip (hK _ _ ?_); clear hK) | (refine PC.condT ?_ ?_; focus (simp [go_sem]; done)) | (refine PC.condF ?_ ?_; focus (simp [go_sem]; done)) | (refine PC.exit ?_; first | (refine hK _ _ ?_; clear hK) | (clear hK; refine hK _ _ ?_; clear hK) | (clear hK; clear hK; refine hK _ _ ?_; clear hK)))
  refine PL.allocA 2 (d := 2) rfl rfl rfl (by simp) zeroC_61 rfl rfl fun v2 H2 bres ores => ?_
  repeat (first | (refine PC.seq fun K hK => ?_) | (refine PC.block ?_) | (refine PC.region ?_) | (refine PL.k rfl fun KK hKK => ?_; simp (disch := omega) [go_sem, stepK]; refine hKK _ ?_; clear hKK KK) | (refine PL.k rfl fun KK hKK => ?_; simp [go_sem, stepK]; refine hKK _ ?_; clear hKK KK) | (refine PL.g rfl rfl fun KK hKK => ?_; simp (disch := omega) [go_sem, L.stepG]; refine hKK _ ?_; clear hKK KK) | (refine PL.g rfl rfl fun KK hKK => ?_; simp [go_sem, L.stepG]; refine hKK _ ?_; clear hKK KK) | (refine PL.done hK ?_; clear hK) | (refine PC.skip (hK _ _ ?_); clear hK) | (refine PC.condT ?_ ?_; focus (simp [go_sem]; done)) | (refine PC.condF ?_ ?_; focus (simp [go_sem]; done)) | (refine PC.exit ?_; first | (refine hK _ _ ?_; clear hK) | (clear hK; refine hK _ _ ?_; clear hK) | (clear hK; clear hK; refine hK _ _ ?_; clear hK)))
  refine PL.allocA 3 (d := 3) rfl rfl rfl (by simp) zeroC_61 rfl rfl fun v H3 b3 o3 => ?_
  have b2 : H3 2 = _ := (o3 2 (by omega)).trans bres
  have hN0 : NetAt H3 v (fuseK l 0) (.u (.slice none 0 0)) (.u (.slice none 0 0)) (.u (.slice none 0 0)) (.u (.slice none 0 0)) (.u (.slice none 0 0)) := ⟨b3, ownL.nil _ _, ownL.nil _ _, ownL.nil _ _, ownL.nil _ _, ownL.nil _ _⟩
  repeat (first | (refine PC.seq fun K hK => ?_) | (refine PC.block ?_) | (refine PC.region ?_) | (refine PL.k rfl fun KK hKK => ?_; simp (disch := omega) [go_sem, stepK]; refine hKK _ ?_; clear hKK KK) | (refine PL.k rfl fun KK hKK => ?_; simp [go_sem, stepK]; refine hKK _ ?_; clear hKK KK) | (refine PL.g rfl rfl fun KK hKK => ?_; simp (disch := omega) [go_sem, L.stepG]; refine hKK _ ?_; clear hKK KK) | (refine PL.g rfl rfl fun KK hKK => ?_; simp [go_sem, L.stepG]; refine hKK _ ?_; clear hKK KK) | (refine PL.done hK ?_; clear hK) | (refine PC.skip (hK _ _ ?_); clear hK) | (refine PC.condT ?_ ?_; focus (simp [go_sem]; done)) | (refine PC.condF ?_ ?_; focus (simp [go_sem]; done)) | (refine PC.exit ?_; first | (refine hK _ _ ?_; clear hK) | (clear hK; refine hK _ _ ?_; clear hK) | (clear hK; clear hK; refine hK _ _ ?_; clear hK)))
  refine PC.loop (fun m F H' => ∃ (k : Nat) (q0 q1 q2 q3 q4 : PV), k ≤ l.length ∧ m = l.length - k ∧ (F 0 = slT l ∧ F 2 = .pp 2 0 v2 ∧ F 3 = .pp 3 0 v ∧ F 11 = I l.length) ∧ F 12 = I k ∧ NetAt H' v (fuseK l k) q0 q1 q2 q3 q4 ∧ H' 2 = ⟨v2, some (.box 61 [.u (.slice none 0 0), .u (.slice none 0 0), .u (.slice none 0 0), .u (.slice none 0 0), .u (.slice none 0 0)])⟩) (m := l.length) ⟨0, _, _, _, _, _, by omega, by omega, by simp [go_sem], by simp [go_sem], hN0, b2⟩ fun m F H' hI => ?_
  obtain ⟨k, q0, q1, q2, q3, q4, hk, hm, ⟨f0, f2, f3, f11⟩, f12, hN, b2⟩ := hI
  by_cases hlt : k < l.length
  · have hlt' : (k : Int) < l.length := by omega
    have hsucc := fuseK_succ l k hlt
    have hM := fuseK_b l k
    obtain ⟨tk, etk⟩ : ∃ t, l[k] = t := ⟨_, rfl⟩
    rw [etk] at hsucc
    obtain ⟨r, er⟩ : ∃ r, tk.rex = r := ⟨_, rfl⟩
    rw [er] at hsucc
    have hr := sp_facts r
    have hrn := hr.n
    have hrl := rising_len2 hr.last
    generalize hMM : fuseK l k = M0 at *
    have hMs := hM.s
    have hMo := hM.o
    have hMl := hM.l
    have hMf := hM.f
    have hMt := hM.t
    have h30 := OwnS.len (P := Try.prog) isSlice_24 hN.h0
    have hb := hN.b
    repeat (first | (refine PC.seq fun K hK => ?_) | (refine PC.block ?_) | (refine PC.region ?_) | (refine PL.k rfl fun KK hKK => ?_; simp (disch := omega) [go_sem, stepK, f0, f2, f3, f11, f12, hlt']; refine hKK _ ?_; clear hKK KK) | (refine PL.k rfl fun KK hKK => ?_; simp [go_sem, stepK, f0, f2, f3, f11, f12, hlt']; refine hKK _ ?_; clear hKK KK) | (refine PL.g rfl rfl fun KK hKK => ?_; simp (disch := omega) [go_sem, L.stepG, f0, f2, f3, f11, f12, hlt']; refine hKK _ ?_; clear hKK KK) | (refine PL.g rfl rfl fun KK hKK => ?_; simp [go_sem, L.stepG, f0, f2, f3, f11, f12, hlt']; refine hKK _ ?_; clear hKK KK) | (refine PL.done hK ?_; clear hK) | (refine PC.skip (hK _ _ ?_); clear hK) | (refine PC.condT ?_ ?_; focus (simp [go_sem, f0, f2, f3, f11, f12, hlt']; done)) | (refine PC.condF ?_ ?_; focus (simp [go_sem, f0, f2, f3, f11, f12, hlt']; done)) | (refine PC.exit ?_; first | (refine hK _ _ ?_; clear hK) | (clear hK; refine hK _ _ ?_; clear hK) | (clear hK; clear hK; refine hK _ _ ?_; clear hK)))
    refine PC.regionQ mixed (by kernel_rfl) ?_
    repeat (first | (refine QF.k rfl fun KK hKK => ?_; simp (disch := omega) [go_sem, stepK, f0, f3, hlt, hlt', etk, er, hb, h30]; refine hKK _ ?_; clear hKK KK) | (refine QF.k rfl fun KK hKK => ?_; simp [go_sem, stepK, f0, f3, hlt, hlt', etk, er, hb, h30]; refine hKK _ ?_; clear hKK KK) | (refine QF.g rfl rfl fun KK hKK => ?_; simp (disch := omega) [go_sem, L.stepG, f0, f3, hlt, hlt', etk, er, hb, h30]; refine hKK _ ?_; clear hKK KK) | (refine QF.g rfl rfl fun KK hKK => ?_; simp [go_sem, L.stepG, f0, f3, hlt, hlt', etk, er, hb, h30]; refine hKK _ ?_; clear hKK KK))
    refine QF.done hK ?_; clear hK
    repeat (first | (refine PC.seq fun K hK => ?_) | (refine PC.block ?_) | (refine PC.region ?_) | (refine PL.k rfl fun KK hKK => ?_; simp (disch := omega) [go_sem, stepK]; refine hKK _ ?_; clear hKK KK) | (refine PL.k rfl fun KK hKK => ?_; simp [go_sem, stepK]; refine hKK _ ?_; clear hKK KK) | (refine PL.g rfl rfl fun KK hKK => ?_; simp (disch := omega) [go_sem, L.stepG]; refine hKK _ ?_; clear hKK KK) | (refine PL.g rfl rfl fun KK hKK => ?_; simp [go_sem, L.stepG]; refine hKK _ ?_; clear hKK KK) | (refine PL.done hK ?_; clear hK) | (refine PC.skip (hK _ _ ?_); clear hK) | (refine PC.condT ?_ ?_; focus (simp [go_sem]; done)) | (refine PC.condF ?_ ?_; focus (simp [go_sem]; done)) | (refine PC.exit ?_; first | (refine hK _ _ ?_; clear hK) | (clear hK; refine hK _ _ ?_; clear hK) | (clear hK; clear hK; refine hK _ _ ?_; clear hK)))
    refine PL.callB rfl rfl (by kernel_rfl) (Last_ok r) (by simp [go_sem]) (by simp [go_sem]) (by simp [go_sem]) ?_
    repeat (first | (refine PC.seq fun K hK => ?_) | (refine PC.block ?_) | (refine PC.region ?_) | (refine PL.k rfl fun KK hKK => ?_; simp (disch := omega) [go_sem, stepK]; refine hKK _ ?_; clear hKK KK) | (refine PL.k rfl fun KK hKK => ?_; simp [go_sem, stepK]; refine hKK _ ?_; clear hKK KK) | (refine PL.g rfl rfl fun KK hKK => ?_; simp (disch := omega) [go_sem, L.stepG]; refine hKK _ ?_; clear hKK KK) | (refine PL.g rfl rfl fun KK hKK => ?_; simp [go_sem, L.stepG]; refine hKK _ ?_; clear hKK KK) | (refine PL.done hK ?_; clear hK) | (refine PC.skip (hK _ _ ?_); clear hK) | (refine PC.condT ?_ ?_; focus (simp [go_sem]; done)) | (refine PC.condF ?_ ?_; focus (simp [go_sem]; done)) | (refine PC.exit ?_; first | (refine hK _ _ ?_; clear hK) | (clear hK; refine hK _ _ ?_; clear hK) | (clear hK; clear hK; refine hK _ _ ?_; clear hK)))
    refine PL.callB rfl rfl (by kernel_rfl) (cS r) (by simp [go_sem]) (by simp [go_sem]) (by simp [go_sem]) ?_
    have hS0 : (26 : Nat) = 26 := rfl
    repeat (first | (refine PC.seq fun K hK => ?_) | (refine PC.block ?_) | (refine PC.region ?_) | (refine PL.k rfl fun KK hKK => ?_; simp (disch := omega) [go_sem, stepK]; refine hKK _ ?_; clear hKK KK) | (refine PL.k rfl fun KK hKK => ?_; simp [go_sem, stepK]; refine hKK _ ?_; clear hKK KK) | (refine PL.g rfl rfl fun KK hKK => ?_; simp (disch := omega) [go_sem, L.stepG]; refine hKK _ ?_; clear hKK KK) | (refine PL.g rfl rfl fun KK hKK => ?_; simp [go_sem, L.stepG]; refine hKK _ ?_; clear hKK KK) | (refine PL.done hK ?_; clear hK) | (refine PC.skip (hK _ _ ?_); clear hK) | (refine PC.condT ?_ ?_; focus (simp [go_sem]; done)) | (refine PC.condF ?_ ?_; focus (simp [go_sem]; done)) | (refine PC.exit ?_; first | (refine hK _ _ ?_; clear hK) | (clear hK; refine hK _ _ ?_; clear hK) | (clear hK; clear hK; refine hK _ _ ?_; clear hK)))
    refine PC.loop (fun m F H' => ∃ (i : Nat) (q0 q1 q2 q3 q4 : PV), i ≤ (spSets r).length ∧ m = (spSets r).length - i ∧ (F 0 = slT l ∧ F 2 = .pp 2 0 v2 ∧ F 3 = .pp 3 0 v ∧ F 4 = I k ∧ F 5 = slX r ∧ F 6 = I M0.sets.length ∧ F 7 = slI (spLast r) ∧ F 11 = I l.length ∧ F 12 = I k ∧ F 26 = slS (spSets r) ∧ F 27 = I (spSets r).length) ∧ F 28 = I i ∧ NetAt H' v (fuseI M0 k r i) q0 q1 q2 q3 q4 ∧ H' 2 = ⟨v2, some (.box 61 [.u (.slice none 0 0), .u (.slice none 0 0), .u (.slice none 0 0), .u (.slice none 0 0), .u (.slice none 0 0)])⟩) (m := (spSets r).length) ⟨0, q0, q1, q2, q3, q4, by omega, by omega, by simp [go_sem, f0, f2, f3, f11, f12], by simp [go_sem], by rw [fuseI_zero]; exact hN, b2⟩ fun m2 F H' hI => ?_
    clear f0 f2 f3 f11 f12 hN b2 hb h30
    obtain ⟨i, q0, q1, q2, q3, q4, hi, hm2, ⟨f0, f2, f3, f4, f5, f6, f7, f11, f12, f26, f27⟩, f28, hN, b2⟩ := hI
    by_cases hli : i < (spSets r).length
    · have hli' : (i : Int) < (spSets r).length := by omega
      have hIs := fuseI_succ M0 k r i hli
      have hfi := hr.fol i
      have hfl := rising_len2 hfi
      obtain ⟨y, ey⟩ : ∃ y, (spSets r)[i] = y := ⟨_, rfl⟩
      rw [ey] at hIs
      repeat (first | (refine PC.seq fun K hK => ?_) | (refine PC.block ?_) | (refine PC.region ?_) | (refine PL.k rfl fun KK hKK => ?_; simp (disch := omega) [go_sem, stepK, f26, f27, f28, hli, hli', ey]; refine hKK _ ?_; clear hKK KK) | (refine PL.k rfl fun KK hKK => ?_; simp [go_sem, stepK, f26, f27, f28, hli, hli', ey]; refine hKK _ ?_; clear hKK KK) | (refine PL.g rfl rfl fun KK hKK => ?_; simp (disch := omega) [go_sem, L.stepG, f26, f27, f28, hli, hli', ey]; refine hKK _ ?_; clear hKK KK) | (refine PL.g rfl rfl fun KK hKK => ?_; simp [go_sem, L.stepG, f26, f27, f28, hli, hli', ey]; refine hKK _ ?_; clear hKK KK) | (refine PL.done hK ?_; clear hK) | (refine PC.skip (hK _ _ ?_); clear hK) | (refine PC.condT ?_ ?_; focus (simp [go_sem, f26, f27, f28, hli, hli', ey]; done)) | (refine PC.condF ?_ ?_; focus (simp [go_sem, f26, f27, f28, hli, hli', ey]; done)) | (refine PC.exit ?_; first | (refine hK _ _ ?_; clear hK) | (clear hK; refine hK _ _ ?_; clear hK) | (clear hK; clear hK; refine hK _ _ ?_; clear hK)))
      refine PL.allocA 9 (d := 9) rfl rfl rfl (by simp) zeroC_28 rfl rfl fun v9 H9 b9 o9 => ?_
      repeat (refine PL.k rfl fun KK hKK => ?_; simp [go_sem, stepK]; refine hKK _ ?_; clear hKK KK)
      refine PL.storeA (id := 9) rfl rfl (by simp [dstOk]) (by simp [go_sem]; rfl) b9 asz_28 (v := encS y) (by simp [go_sem, encS]) (by simp [go_sem, encS, W64]) rfl rfl (by simp [encS, PV.cells]) (cs' := [W64 y.s0, W64 y.s1, W64 y.s2, W64 y.s3]) rfl fun H10 b10 o10 => ?_
      refine PL.done hK ?_; clear hK
      have hN := hN.mono (H' := H10) fun j hj => by rw [o10 j (by omega), o9 j (by omega)]
      have b2 := ((o10 2 (by omega)).trans (o9 2 (by omega))).trans b2
      have hb := hN.b
      repeat (first | (refine PC.seq fun K hK => ?_) | (refine PC.block ?_) | (refine PC.region ?_) | (refine PL.k rfl fun KK hKK => ?_; simp (disch := omega) [go_sem, stepK, f3, hb, b10]; refine hKK _ ?_; clear hKK KK) | (refine PL.k rfl fun KK hKK => ?_; simp [go_sem, stepK, f3, hb, b10]; refine hKK _ ?_; clear hKK KK) | (refine PL.g rfl rfl fun KK hKK => ?_; simp (disch := omega) [go_sem, L.stepG, f3, hb, b10]; refine hKK _ ?_; clear hKK KK) | (refine PL.g rfl rfl fun KK hKK => ?_; simp [go_sem, L.stepG, f3, hb, b10]; refine hKK _ ?_; clear hKK KK) | (refine PL.done hK ?_; clear hK) | (refine PC.skip (hK _ _ ?_); clear hK) | (refine PC.condT ?_ ?_; focus (simp [go_sem, f3, hb, b10]; done)) | (refine PC.condF ?_ ?_; focus (simp [go_sem, f3, hb, b10]; done)) | (refine PC.exit ?_; first | (refine hK _ _ ?_; clear hK) | (clear hK; refine hK _ _ ?_; clear hK) | (clear hK; clear hK; refine hK _ _ ?_; clear hK)))
      refine PL.buildSliceR (d := 36) rfl rfl rfl (by simp) selem_24 rfl (by omega) (ips := [(0, encS (y))]) (by simp [go_sem, encS]) (by simp [litOk, go_sem, encS, W64, PV.cells]) (ps := [encS (y)]) rfl ?_
      refine PL.appendL (rep := encS) (d := 37) (ys := [y]) rfl rfl rfl (by simp) selem_24 (by simp [go_sem]) hN.h0 (by simp [go_sem, encS]) (fun _ => rfl) (fun x c hc => by simp [encS, PV.cells] at hc; rcases hc with rfl | rfl | rfl | rfl <;> rfl) (by simp [maxLen, moreL, fuseI]; omega) (by simp [moreL, fuseI]; omega) fun q0' H1 a1 o1 => ?_
      have bb := (o1 3 (by omega)).trans hN.b
      repeat (refine PL.k rfl fun KK hKK => ?_; simp [go_sem, stepK, bb, f3]; refine hKK _ ?_; clear hKK KK)
      refine PL.storeA (id := 3) rfl rfl (by simp [dstOk]) (by simp [go_sem]; rfl) bb asz_24 (v := q0') (by simp [go_sem]) (OwnS.okC a1) (OwnS.cells a1) rfl (by simp) rfl fun H2 bst o2 => ?_
      have hN := hN.up0 a1 o1 bst o2
      have b2 := ((o2 2 (by omega)).trans (o1 2 (by omega))).trans b2
      clear bb bst a1
      refine PL.done hK ?_; clear hK
      have hb := hN.b
      repeat (first | (refine PC.seq fun K hK => ?_) | (refine PC.block ?_) | (refine PC.region ?_) | (refine PL.k rfl fun KK hKK => ?_; simp (disch := omega) [go_sem, stepK, f3, f4, hb]; refine hKK _ ?_; clear hKK KK) | (refine PL.k rfl fun KK hKK => ?_; simp [go_sem, stepK, f3, f4, hb]; refine hKK _ ?_; clear hKK KK) | (refine PL.g rfl rfl fun KK hKK => ?_; simp (disch := omega) [go_sem, L.stepG, f3, f4, hb]; refine hKK _ ?_; clear hKK KK) | (refine PL.g rfl rfl fun KK hKK => ?_; simp [go_sem, L.stepG, f3, f4, hb]; refine hKK _ ?_; clear hKK KK) | (refine PL.done hK ?_; clear hK) | (refine PC.skip (hK _ _ ?_); clear hK) | (refine PC.condT ?_ ?_; focus (simp [go_sem, f3, f4, hb]; done)) | (refine PC.condF ?_ ?_; focus (simp [go_sem, f3, f4, hb]; done)) | (refine PC.exit ?_; first | (refine hK _ _ ?_; clear hK) | (clear hK; refine hK _ _ ?_; clear hK) | (clear hK; clear hK; refine hK _ _ ?_; clear hK)))
      refine PL.buildSliceR (d := 42) rfl rfl rfl (by simp) selem_30 rfl (by omega) (ips := [(0, I ((k : Int)))]) (by simp [go_sem, encS]) (by simp [litOk, go_sem, okC]) (ps := [I ((k : Int))]) rfl ?_
      refine PL.appendL (rep := I) (d := 43) (ys := [(k : Int)]) rfl rfl rfl (by simp) selem_30 (by simp [go_sem]) hN.h1 (by simp [go_sem, encS]) (fun _ => rfl) (fun x c hc => by simp [PV.cells] at hc; subst hc; rfl) (by simp [maxLen, moreL, fuseI]; omega) (by simp [moreL, fuseI]; omega) fun q1' H1 a1 o1 => ?_
      have bb := (o1 3 (by omega)).trans hN.b
      repeat (refine PL.k rfl fun KK hKK => ?_; simp [go_sem, stepK, bb, f3]; refine hKK _ ?_; clear hKK KK)
      refine PL.storeA (id := 3) rfl rfl (by simp [dstOk]) (by simp [go_sem]; rfl) bb asz_30 (v := q1') (by simp [go_sem]) (OwnS.okC a1) (OwnS.cells a1) rfl (by simp) rfl fun H2 bst o2 => ?_
      have hN := hN.up1 a1 o1 bst o2
      have b2 := ((o2 2 (by omega)).trans (o1 2 (by omega))).trans b2
      clear bb bst a1
      refine PL.done hK ?_; clear hK
      have hb := hN.b
      repeat (first | (refine PC.seq fun K hK => ?_) | (refine PC.block ?_) | (refine PC.region ?_) | (refine PL.k rfl fun KK hKK => ?_; simp (disch := omega) [go_sem, stepK]; refine hKK _ ?_; clear hKK KK) | (refine PL.k rfl fun KK hKK => ?_; simp [go_sem, stepK]; refine hKK _ ?_; clear hKK KK) | (refine PL.g rfl rfl fun KK hKK => ?_; simp (disch := omega) [go_sem, L.stepG]; refine hKK _ ?_; clear hKK KK) | (refine PL.g rfl rfl fun KK hKK => ?_; simp [go_sem, L.stepG]; refine hKK _ ?_; clear hKK KK) | (refine PL.done hK ?_; clear hK) | (refine PC.skip (hK _ _ ?_); clear hK) | (refine PC.condT ?_ ?_; focus (simp [go_sem]; done)) | (refine PC.condF ?_ ?_; focus (simp [go_sem]; done)) | (refine PC.exit ?_; first | (refine hK _ _ ?_; clear hK) | (clear hK; refine hK _ _ ?_; clear hK) | (clear hK; clear hK; refine hK _ _ ?_; clear hK)))
      refine PC.regionT 6 mixed (by kernel_rfl) ?_
      repeat (first | (refine QF.k rfl fun KK hKK => ?_; simp (disch := omega) [go_sem, stepK, f3, f7, hb]; refine hKK _ ?_; clear hKK KK) | (refine QF.k rfl fun KK hKK => ?_; simp [go_sem, stepK, f3, f7, hb]; refine hKK _ ?_; clear hKK KK) | (refine QF.g rfl rfl fun KK hKK => ?_; simp (disch := omega) [go_sem, L.stepG, f3, f7, hb]; refine hKK _ ?_; clear hKK KK) | (refine QF.g rfl rfl fun KK hKK => ?_; simp [go_sem, L.stepG, f3, f7, hb]; refine hKK _ ?_; clear hKK KK))
      refine QF.callB rfl rfl (by kernel_rfl) (manyHas_ok (spLast r) i (by omega) (hr.last.1.imp fun h => Int.le_of_lt h)) (by simp [go_sem]) (by simp [go_sem]) (by simp [go_sem]) ?_
      refine QF.buildSliceA (d := 50) rfl rfl rfl (by simp) selem_51 rfl (by omega) (ips := [(0, B (decide ((i : Int) ∈ spLast r)))]) (by simp [go_sem, encS]) (by simp [litOk, go_sem, okC]) (ps := [B (decide ((i : Int) ∈ spLast r))]) rfl ?_
      refine QF.nil ?_
      refine PL.appendL (rep := B) (d := 51) (ys := [decide ((i : Int) ∈ spLast r)]) rfl rfl rfl (by simp) selem_51 (by simp [go_sem]) hN.h2 (by simp [go_sem, encS]) (fun _ => rfl) (fun x c hc => by simp [PV.cells] at hc; subst hc; rfl) (by simp [maxLen, moreL, fuseI]; omega) (by simp [moreL, fuseI]; omega) fun q2' H1 a1 o1 => ?_
      have bb := (o1 3 (by omega)).trans hN.b
      repeat (refine PL.k rfl fun KK hKK => ?_; simp [go_sem, stepK, bb, f3]; refine hKK _ ?_; clear hKK KK)
      refine PL.storeA (id := 3) rfl rfl (by simp [dstOk]) (by simp [go_sem]; rfl) bb asz_51 (v := q2') (by simp [go_sem]) (OwnS.okC a1) (OwnS.cells a1) rfl (by simp) rfl fun H2 bst o2 => ?_
      have hN := hN.up2 a1 o1 bst o2
      have b2 := ((o2 2 (by omega)).trans (o1 2 (by omega))).trans b2
      clear bb bst a1
      refine PL.done hK ?_; clear hK
      have hb := hN.b
      have hov : ∀ x ∈ spFollow r i, -9223372036854775808 ≤ x + (M0.sets.length : Int) ∧ x + (M0.sets.length : Int) ≤ 9223372036854775807 := fun x hx => by have := hfi.2 x hx; omega
      repeat (first | (refine PC.seq fun K hK => ?_) | (refine PC.block ?_) | (refine PC.region ?_) | (refine PL.k rfl fun KK hKK => ?_; simp (disch := omega) [go_sem, stepK]; refine hKK _ ?_; clear hKK KK) | (refine PL.k rfl fun KK hKK => ?_; simp [go_sem, stepK]; refine hKK _ ?_; clear hKK KK) | (refine PL.g rfl rfl fun KK hKK => ?_; simp (disch := omega) [go_sem, L.stepG]; refine hKK _ ?_; clear hKK KK) | (refine PL.g rfl rfl fun KK hKK => ?_; simp [go_sem, L.stepG]; refine hKK _ ?_; clear hKK KK) | (refine PL.done hK ?_; clear hK) | (refine PC.skip (hK _ _ ?_); clear hK) | (refine PC.condT ?_ ?_; focus (simp [go_sem]; done)) | (refine PC.condF ?_ ?_; focus (simp [go_sem]; done)) | (refine PC.exit ?_; first | (refine hK _ _ ?_; clear hK) | (clear hK; refine hK _ _ ?_; clear hK) | (clear hK; clear hK; refine hK _ _ ?_; clear hK)))
      refine PC.regionT 8 mixed (by kernel_rfl) ?_
      repeat (first | (refine QF.k rfl fun KK hKK => ?_; simp (disch := omega) [go_sem, stepK, f3, f5, hb]; refine hKK _ ?_; clear hKK KK) | (refine QF.k rfl fun KK hKK => ?_; simp [go_sem, stepK, f3, f5, hb]; refine hKK _ ?_; clear hKK KK) | (refine QF.g rfl rfl fun KK hKK => ?_; simp (disch := omega) [go_sem, L.stepG, f3, f5, hb]; refine hKK _ ?_; clear hKK KK) | (refine QF.g rfl rfl fun KK hKK => ?_; simp [go_sem, L.stepG, f3, f5, hb]; refine hKK _ ?_; clear hKK KK))
      refine QF.callB rfl rfl (by kernel_rfl) (Follow_ok r i) (by simp [go_sem]) (by simp [go_sem]) (by simp [go_sem]) ?_
      repeat (first | (refine QF.k rfl fun KK hKK => ?_; simp (disch := omega) [go_sem, stepK, f6]; refine hKK _ ?_; clear hKK KK) | (refine QF.k rfl fun KK hKK => ?_; simp [go_sem, stepK, f6]; refine hKK _ ?_; clear hKK KK) | (refine QF.g rfl rfl fun KK hKK => ?_; simp (disch := omega) [go_sem, L.stepG, f6]; refine hKK _ ?_; clear hKK KK) | (refine QF.g rfl rfl fun KK hKK => ?_; simp [go_sem, L.stepG, f6]; refine hKK _ ?_; clear hKK KK))
      refine QF.callB rfl rfl (by kernel_rfl) (onward_ok (spFollow r i) M0.sets.length (by omega) hov) (by simp [go_sem]) (by simp [go_sem]) (by simp [go_sem]) ?_
      refine QF.buildSliceA (d := 60) rfl rfl rfl (by simp) selem_44 rfl (by omega) (ips := [(0, slI (moreL (spFollow r i) M0.sets.length))]) (by simp [go_sem, encS]) (by simp [litOk, go_sem]) (ps := [slI (moreL (spFollow r i) M0.sets.length)]) rfl ?_
      refine QF.nil ?_
      refine PL.appendL (rep := slI) (d := 61) (ys := [moreL (spFollow r i) M0.sets.length]) rfl rfl rfl (by simp) selem_44 (by simp [go_sem]) hN.h3 (by simp [go_sem, encS]) (fun _ => rfl) (fun x c hc => by simp [go_sem] at hc; subst hc; rfl) (by simp [maxLen, moreL, fuseI]; omega) (by simp [moreL, fuseI]; omega) fun q3' H1 a1 o1 => ?_
      have bb := (o1 3 (by omega)).trans hN.b
      repeat (refine PL.k rfl fun KK hKK => ?_; simp [go_sem, stepK, bb, f3]; refine hKK _ ?_; clear hKK KK)
      refine PL.storeA (id := 3) rfl rfl (by simp [dstOk]) (by simp [go_sem]; rfl) bb asz_44 (v := q3') (by simp [go_sem]) (OwnS.okC a1) (OwnS.cells a1) rfl (by simp) rfl fun H2 bst o2 => ?_
      have hN := hN.up3 a1 o1 bst o2
      have b2 := ((o2 2 (by omega)).trans (o1 2 (by omega))).trans b2
      clear bb bst a1
      repeat (first | (refine PC.seq fun K hK => ?_) | (refine PC.block ?_) | (refine PC.region ?_) | (refine PL.k rfl fun KK hKK => ?_; simp (disch := omega) [go_sem, stepK, f28]; refine hKK _ ?_; clear hKK KK) | (refine PL.k rfl fun KK hKK => ?_; simp [go_sem, stepK, f28]; refine hKK _ ?_; clear hKK KK) | (refine PL.g rfl rfl fun KK hKK => ?_; simp (disch := omega) [go_sem, L.stepG, f28]; refine hKK _ ?_; clear hKK KK) | (refine PL.g rfl rfl fun KK hKK => ?_; simp [go_sem, L.stepG, f28]; refine hKK _ ?_; clear hKK KK) | (refine PL.done hK ?_; clear hK) | (refine PC.skip (hK _ _ ?_); clear hK) | (refine PC.condT ?_ ?_; focus (simp [go_sem, f28]; done)) | (refine PC.condF ?_ ?_; focus (simp [go_sem, f28]; done)) | (refine PC.exit ?_; first | (refine hK _ _ ?_; clear hK) | (clear hK; refine hK _ _ ?_; clear hK) | (clear hK; clear hK; refine hK _ _ ?_; clear hK)))
      rw [← hIs] at hN
      refine PL.nil ⟨(spSets r).length - (i + 1), by omega, i + 1, _, _, _, _, _, by omega, by omega, by simp [go_sem, f0, f2, f3, f4, f5, f6, f7, f11, f12, f26, f27], by simp [go_sem], hN, b2⟩
    · have hli' : ¬ (i : Int) < (spSets r).length := by omega
      have hie : i = (spSets r).length := by omega
      subst hie
      have hb := hN.b
      have hrf := rising_len2 hr.first
      have hov : ∀ x ∈ spFirst r, -9223372036854775808 ≤ x + (M0.sets.length : Int) ∧ x + (M0.sets.length : Int) ≤ 9223372036854775807 := fun x hx => by have := hr.first.2 x hx; omega
      repeat (first | (refine PC.seq fun K hK => ?_) | (refine PC.block ?_) | (refine PC.region ?_) | (refine PL.k rfl fun KK hKK => ?_; simp (disch := omega) [go_sem, stepK, f27, f28, hli']; refine hKK _ ?_; clear hKK KK) | (refine PL.k rfl fun KK hKK => ?_; simp [go_sem, stepK, f27, f28, hli']; refine hKK _ ?_; clear hKK KK) | (refine PL.g rfl rfl fun KK hKK => ?_; simp (disch := omega) [go_sem, L.stepG, f27, f28, hli']; refine hKK _ ?_; clear hKK KK) | (refine PL.g rfl rfl fun KK hKK => ?_; simp [go_sem, L.stepG, f27, f28, hli']; refine hKK _ ?_; clear hKK KK) | (refine PL.done hK ?_; clear hK) | (refine PC.skip (hK _ _ ?_); clear hK) | (refine PC.condT ?_ ?_; focus (simp [go_sem, f27, f28, hli']; done)) | (refine PC.condF ?_ ?_; focus (simp [go_sem, f27, f28, hli']; done)) | (refine PC.exit ?_; first | (refine hK _ _ ?_; clear hK) | (clear hK; refine hK _ _ ?_; clear hK) | (clear hK; clear hK; refine hK _ _ ?_; clear hK)))
      refine PC.regionT 6 mixed (by kernel_rfl) ?_
      repeat (first | (refine QF.k rfl fun KK hKK => ?_; simp (disch := omega) [go_sem, stepK, f3, f5, hb]; refine hKK _ ?_; clear hKK KK) | (refine QF.k rfl fun KK hKK => ?_; simp [go_sem, stepK, f3, f5, hb]; refine hKK _ ?_; clear hKK KK) | (refine QF.g rfl rfl fun KK hKK => ?_; simp (disch := omega) [go_sem, L.stepG, f3, f5, hb]; refine hKK _ ?_; clear hKK KK) | (refine QF.g rfl rfl fun KK hKK => ?_; simp [go_sem, L.stepG, f3, f5, hb]; refine hKK _ ?_; clear hKK KK))
      refine QF.callB rfl rfl (by kernel_rfl) (First_ok r) (by simp [go_sem]) (by simp [go_sem]) (by simp [go_sem]) ?_
      repeat (first | (refine QF.k rfl fun KK hKK => ?_; simp (disch := omega) [go_sem, stepK, f6]; refine hKK _ ?_; clear hKK KK) | (refine QF.k rfl fun KK hKK => ?_; simp [go_sem, stepK, f6]; refine hKK _ ?_; clear hKK KK) | (refine QF.g rfl rfl fun KK hKK => ?_; simp (disch := omega) [go_sem, L.stepG, f6]; refine hKK _ ?_; clear hKK KK) | (refine QF.g rfl rfl fun KK hKK => ?_; simp [go_sem, L.stepG, f6]; refine hKK _ ?_; clear hKK KK))
      refine QF.callB rfl rfl (by kernel_rfl) (onward_ok (spFirst r) M0.sets.length (by omega) hov) (by simp [go_sem]) (by simp [go_sem]) (by simp [go_sem]) ?_
      refine QF.nil ?_
      refine PL.appendL (rep := I) (d := 70) (ys := moreL (spFirst r) M0.sets.length) rfl rfl rfl (by simp) selem_30 (by simp [go_sem]) hN.h4 (by simp [go_sem, slI]) (fun _ => rfl) (fun x c hc => by simp [PV.cells] at hc; subst hc; rfl) (by simp [maxLen, moreL, fuseI]; omega) (by simp [moreL, fuseI]; omega) fun q4' H1 a1 o1 => ?_
      have bb := (o1 3 (by omega)).trans hN.b
      repeat (refine PL.k rfl fun KK hKK => ?_; simp [go_sem, stepK, bb, f3]; refine hKK _ ?_; clear hKK KK)
      refine PL.storeA (id := 3) rfl rfl (by simp [dstOk]) (by simp [go_sem]; rfl) bb asz_30 (v := q4') (by simp [go_sem]) (OwnS.okC a1) (OwnS.cells a1) rfl (by simp) rfl fun H2 bst o2 => ?_
      have hN := hN.up4 a1 o1 bst o2
      have b2 := ((o2 2 (by omega)).trans (o1 2 (by omega))).trans b2
      clear bb bst a1
      repeat (first | (refine PC.seq fun K hK => ?_) | (refine PC.block ?_) | (refine PC.region ?_) | (refine PL.k rfl fun KK hKK => ?_; simp (disch := omega) [go_sem, stepK, f12]; refine hKK _ ?_; clear hKK KK) | (refine PL.k rfl fun KK hKK => ?_; simp [go_sem, stepK, f12]; refine hKK _ ?_; clear hKK KK) | (refine PL.g rfl rfl fun KK hKK => ?_; simp (disch := omega) [go_sem, L.stepG, f12]; refine hKK _ ?_; clear hKK KK) | (refine PL.g rfl rfl fun KK hKK => ?_; simp [go_sem, L.stepG, f12]; refine hKK _ ?_; clear hKK KK) | (refine PL.done hK ?_; clear hK) | (refine PC.skip (hK _ _ ?_); clear hK) | (refine PC.condT ?_ ?_; focus (simp [go_sem, f12]; done)) | (refine PC.condF ?_ ?_; focus (simp [go_sem, f12]; done)) | (refine PC.exit ?_; first | (refine hK _ _ ?_; clear hK) | (clear hK; refine hK _ _ ?_; clear hK) | (clear hK; clear hK; refine hK _ _ ?_; clear hK)))
      refine PL.nil ⟨l.length - (k + 1), by omega, k + 1, _, _, _, _, _, by omega, by omega, by simp [go_sem, f0, f2, f3, f11], by simp [go_sem], by rw [hsucc]; exact hN, b2⟩
  · have hlt' : ¬ (k : Int) < l.length := by omega
    have hke : k = l.length := by omega
    subst hke
    have hb := hN.b
    repeat (first | (refine PC.seq fun K hK => ?_) | (refine PC.block ?_) | (refine PC.region ?_) | (refine PL.k rfl fun KK hKK => ?_; simp (disch := omega) [go_sem, stepK, f0, f2, f3, f11, f12, hlt', hb]; refine hKK _ ?_; clear hKK KK) | (refine PL.k rfl fun KK hKK => ?_; simp [go_sem, stepK, f0, f2, f3, f11, f12, hlt', hb]; refine hKK _ ?_; clear hKK KK) | (refine PL.g rfl rfl fun KK hKK => ?_; simp (disch := omega) [go_sem, L.stepG, f0, f2, f3, f11, f12, hlt', hb]; refine hKK _ ?_; clear hKK KK) | (refine PL.g rfl rfl fun KK hKK => ?_; simp [go_sem, L.stepG, f0, f2, f3, f11, f12, hlt', hb]; refine hKK _ ?_; clear hKK KK) | (refine PL.done hK ?_; clear hK) | (refine PC.skip (hK _ _ ?_); clear hK) | (refine PC.condT ?_ ?_; focus (simp [go_sem, f0, f2, f3, f11, f12, hlt', hb]; done)) | (refine PC.condF ?_ ?_; focus (simp [go_sem, f0, f2, f3, f11, f12, hlt', hb]; done)) | (refine PC.exit ?_; first | (refine hK _ _ ?_; clear hK) | (clear hK; refine hK _ _ ?_; clear hK) | (clear hK; clear hK; refine hK _ _ ?_; clear hK)))
    refine PL.storeA (id := 2) (off := 0) rfl rfl (by simp [dstOk]) (by simp [go_sem, f2]) b2 asz_61 (v := .agg [q0, q1, q2, q3, q4]) (by simp [go_sem]) (okC_agg5 hN) rfl rfl (by simp) (cs' := [q0, q1, q2, q3, q4]) rfl fun H5 b5 o5 => ?_
    refine PL.done hK ?_; clear hK
    have hN := hN.mono (H' := H5) fun j hj => o5 j (by omega)
    refine PC.ret ?_
    refine ⟨.inr rfl, .agg [q0, q1, q2, q3, q4], _, ?_, hN.view, netV_noP _, rfl⟩
    simp [resP, resP1, Try.results42, go_sem, f2, b5, setMany]
end Go.Proofs.Ytficeeaaaijgcaa

/-
  The spots of tokens together: chapter 12's reference.
-/
namespace Go.Proofs.Ytficeeaaaijgcaa
open Go Go.RowKit L
set_option linter.unusedVariables false
set_option linter.unusedSimpArgs false

set_option maxRecDepth 20000 in
set_option maxHeartbeats 8000000 in
theorem refFuse_ok (l : List Tok) (hl : l.length ≤ 12) : PCall Try.prog 44 [slT l] (· = netV (fuseL l)) := by
  have cS : ∀ r : List Rx, PCall Try.prog 14 [slX r] (· = slS (spSets r)) := fun r => by have := refSets_ok r; rwa [sets_same] at this
  have cL : ∀ r : List Rx, PCall Try.prog 19 [slX r] (· = slI (spLast r)) := refLast_ok
  refine PCall.intro' Try.func44 rfl Try.ntmps44 (by simp) fun W => ?_
  repeat (first | (refine PC.seq fun K hK => ?_) | (refine PC.block ?_) | (refine PC.region ?_) | (refine PL.k rfl fun KK hKK => ?_; simp (disch := omega) [go_sem, stepK]; refine hKK _ ?_; clear hKK KK) | (refine PL.k rfl fun KK hKK => ?_; simp [go_sem, stepK]; refine hKK _ ?_; clear hKK KK) | (refine PL.g rfl rfl fun KK hKK => ?_; simp (disch := omega) [go_sem, L.stepG]; refine hKK _ ?_; clear hKK KK) | (refine PL.g rfl rfl fun KK hKK => ?_; simp [go_sem, L.stepG]; refine hKK _ ?_; clear hKK KK) | (refine PL.done hK ?_; clear hK) | (refine PC.skip (hK _ _ ?_); clear hK) | (refine PC.condT ?_ ?_; focus (simp [go_sem]; done)) | (refine PC.condF ?_ ?_; focus (simp [go_sem]; done)) | (refine PC.exit ?_; first | (refine hK _ _ ?_; clear hK) | (clear hK; refine hK _ _ ?_; clear hK) | (clear hK; clear hK; refine hK _ _ ?_; clear hK)))
  refine PL.allocA 2 (d := 2) rfl rfl rfl (by simp) zeroC_61 rfl rfl fun v2 H2 bres ores => ?_
  repeat (first | (refine PC.seq fun K hK => ?_) | (refine PC.block ?_) | (refine PC.region ?_) | (refine PL.k rfl fun KK hKK => ?_; simp (disch := omega) [go_sem, stepK]; refine hKK _ ?_; clear hKK KK) | (refine PL.k rfl fun KK hKK => ?_; simp [go_sem, stepK]; refine hKK _ ?_; clear hKK KK) | (refine PL.g rfl rfl fun KK hKK => ?_; simp (disch := omega) [go_sem, L.stepG]; refine hKK _ ?_; clear hKK KK) | (refine PL.g rfl rfl fun KK hKK => ?_; simp [go_sem, L.stepG]; refine hKK _ ?_; clear hKK KK) | (refine PL.done hK ?_; clear hK) | (refine PC.skip (hK _ _ ?_); clear hK) | (refine PC.condT ?_ ?_; focus (simp [go_sem]; done)) | (refine PC.condF ?_ ?_; focus (simp [go_sem]; done)) | (refine PC.exit ?_; first | (refine hK _ _ ?_; clear hK) | (clear hK; refine hK _ _ ?_; clear hK) | (clear hK; clear hK; refine hK _ _ ?_; clear hK)))
  refine PL.allocA 3 (d := 3) rfl rfl rfl (by simp) zeroC_61 rfl rfl fun v H3 b3 o3 => ?_
  refine PL.storeA (id := 3) rfl rfl (by simp [dstOk]) (by simp [go_sem]; rfl) b3 asz_61 (v := .agg [.u (.slice none 0 0), .u (.slice none 0 0), .u (.slice none 0 0), .u (.slice none 0 0), .u (.slice none 0 0)]) (by simp [go_sem]) (by simp [go_sem, okC, leafOk, Value.oneCell']) rfl rfl (by simp) rfl fun H4 b4 o4 => ?_
  have b2 : H4 2 = _ := ((o4 2 (by omega)).trans (o3 2 (by omega))).trans bres
  have hN0 : NetAt H4 v (fuseK l 0) (.u (.slice none 0 0)) (.u (.slice none 0 0)) (.u (.slice none 0 0)) (.u (.slice none 0 0)) (.u (.slice none 0 0)) := ⟨b4, ownL.nil _ _, ownL.nil _ _, ownL.nil _ _, ownL.nil _ _, ownL.nil _ _⟩
  repeat (first | (refine PC.seq fun K hK => ?_) | (refine PC.block ?_) | (refine PC.region ?_) | (refine PL.k rfl fun KK hKK => ?_; simp (disch := omega) [go_sem, stepK]; refine hKK _ ?_; clear hKK KK) | (refine PL.k rfl fun KK hKK => ?_; simp [go_sem, stepK]; refine hKK _ ?_; clear hKK KK) | (refine PL.g rfl rfl fun KK hKK => ?_; simp (disch := omega) [go_sem, L.stepG]; refine hKK _ ?_; clear hKK KK) | (refine PL.g rfl rfl fun KK hKK => ?_; simp [go_sem, L.stepG]; refine hKK _ ?_; clear hKK KK) | (refine PL.done hK ?_; clear hK) | (refine PC.skip (hK _ _ ?_); clear hK) | (refine PC.condT ?_ ?_; focus (simp [go_sem]; done)) | (refine PC.condF ?_ ?_; focus (simp [go_sem]; done)) | (refine PC.exit ?_; first | (refine hK _ _ ?_; clear hK) | (clear hK; refine hK _ _ ?_; clear hK) | (clear hK; clear hK; refine hK _ _ ?_; clear hK)))
  refine PC.loop (fun m F H' => ∃ (k : Nat) (q0 q1 q2 q3 q4 : PV), k ≤ l.length ∧ m = l.length - k ∧ (F 0 = slT l ∧ F 2 = .pp 2 0 v2 ∧ F 3 = .pp 3 0 v) ∧ F 4 = I k ∧ NetAt H' v (fuseK l k) q0 q1 q2 q3 q4 ∧ H' 2 = ⟨v2, some (.box 61 [.u (.slice none 0 0), .u (.slice none 0 0), .u (.slice none 0 0), .u (.slice none 0 0), .u (.slice none 0 0)])⟩) (m := l.length) ⟨0, _, _, _, _, _, by omega, by omega, by simp [go_sem], by simp [go_sem], hN0, b2⟩ fun m F H' hI => ?_
  obtain ⟨k, q0, q1, q2, q3, q4, hk, hm, ⟨f0, f2, f3⟩, f4, hN, b2⟩ := hI
  by_cases hlt : k < l.length
  · have hlt' : (k : Int) < l.length := by omega
    have hsucc := fuseK_succ l k hlt
    have hM := fuseK_b l k
    obtain ⟨tk, etk⟩ : ∃ t, l[k] = t := ⟨_, rfl⟩
    rw [etk] at hsucc
    obtain ⟨r, er⟩ : ∃ r, tk.rex = r := ⟨_, rfl⟩
    rw [er] at hsucc
    have hr := sp_facts r
    have hrn := hr.n
    have hrl := rising_len2 hr.last
    generalize hMM : fuseK l k = M0 at *
    have hMs := hM.s
    have hMo := hM.o
    have hMl := hM.l
    have hMf := hM.f
    have hMt := hM.t
    have h30 := OwnS.len (P := Try.prog) isSlice_24 hN.h0
    have hb := hN.b
    repeat (first | (refine PC.seq fun K hK => ?_) | (refine PC.block ?_) | (refine PC.region ?_) | (refine PL.k rfl fun KK hKK => ?_; simp (disch := omega) [go_sem, stepK, f0, f2, f3, f4, hlt', hlt, etk, er, hb, h30]; refine hKK _ ?_; clear hKK KK) | (refine PL.k rfl fun KK hKK => ?_; simp [go_sem, stepK, f0, f2, f3, f4, hlt', hlt, etk, er, hb, h30]; refine hKK _ ?_; clear hKK KK) | (refine PL.g rfl rfl fun KK hKK => ?_; simp (disch := omega) [go_sem, L.stepG, f0, f2, f3, f4, hlt', hlt, etk, er, hb, h30]; refine hKK _ ?_; clear hKK KK) | (refine PL.g rfl rfl fun KK hKK => ?_; simp [go_sem, L.stepG, f0, f2, f3, f4, hlt', hlt, etk, er, hb, h30]; refine hKK _ ?_; clear hKK KK) | (refine PL.done hK ?_; clear hK) | (refine PC.skip (hK _ _ ?_); clear hK) | (refine PC.condT ?_ ?_; focus (simp [go_sem, f0, f2, f3, f4, hlt', hlt, etk, er, hb, h30]; done)) | (refine PC.condF ?_ ?_; focus (simp [go_sem, f0, f2, f3, f4, hlt', hlt, etk, er, hb, h30]; done)) | (refine PC.exit ?_; first | (refine hK _ _ ?_; clear hK) | (clear hK; refine hK _ _ ?_; clear hK) | (clear hK; clear hK; refine hK _ _ ?_; clear hK)))
    refine PL.callB rfl rfl (by kernel_rfl) (cS r) (by simp [go_sem]) (by simp [go_sem]) (by simp [go_sem]) ?_
    repeat (first | (refine PC.seq fun K hK => ?_) | (refine PC.block ?_) | (refine PC.region ?_) | (refine PL.k rfl fun KK hKK => ?_; simp (disch := omega) [go_sem, stepK, f0, f4, hlt, hlt', etk, er]; refine hKK _ ?_; clear hKK KK) | (refine PL.k rfl fun KK hKK => ?_; simp [go_sem, stepK, f0, f4, hlt, hlt', etk, er]; refine hKK _ ?_; clear hKK KK) | (refine PL.g rfl rfl fun KK hKK => ?_; simp (disch := omega) [go_sem, L.stepG, f0, f4, hlt, hlt', etk, er]; refine hKK _ ?_; clear hKK KK) | (refine PL.g rfl rfl fun KK hKK => ?_; simp [go_sem, L.stepG, f0, f4, hlt, hlt', etk, er]; refine hKK _ ?_; clear hKK KK) | (refine PL.done hK ?_; clear hK) | (refine PC.skip (hK _ _ ?_); clear hK) | (refine PC.condT ?_ ?_; focus (simp [go_sem, f0, f4, hlt, hlt', etk, er]; done)) | (refine PC.condF ?_ ?_; focus (simp [go_sem, f0, f4, hlt, hlt', etk, er]; done)) | (refine PC.exit ?_; first | (refine hK _ _ ?_; clear hK) | (clear hK; refine hK _ _ ?_; clear hK) | (clear hK; clear hK; refine hK _ _ ?_; clear hK)))
    refine PL.callB rfl rfl (by kernel_rfl) (cL r) (by simp [go_sem]) (by simp [go_sem]) (by simp [go_sem]) ?_
    repeat (first | (refine PC.seq fun K hK => ?_) | (refine PC.block ?_) | (refine PC.region ?_) | (refine PL.k rfl fun KK hKK => ?_; simp (disch := omega) [go_sem, stepK]; refine hKK _ ?_; clear hKK KK) | (refine PL.k rfl fun KK hKK => ?_; simp [go_sem, stepK]; refine hKK _ ?_; clear hKK KK) | (refine PL.g rfl rfl fun KK hKK => ?_; simp (disch := omega) [go_sem, L.stepG]; refine hKK _ ?_; clear hKK KK) | (refine PL.g rfl rfl fun KK hKK => ?_; simp [go_sem, L.stepG]; refine hKK _ ?_; clear hKK KK) | (refine PL.done hK ?_; clear hK) | (refine PC.skip (hK _ _ ?_); clear hK) | (refine PC.condT ?_ ?_; focus (simp [go_sem]; done)) | (refine PC.condF ?_ ?_; focus (simp [go_sem]; done)) | (refine PC.exit ?_; first | (refine hK _ _ ?_; clear hK) | (clear hK; refine hK _ _ ?_; clear hK) | (clear hK; clear hK; refine hK _ _ ?_; clear hK)))
    refine PC.loop (fun m F H' => ∃ (i : Nat) (q0 q1 q2 q3 q4 : PV), i ≤ (spSets r).length ∧ m = (spSets r).length - i ∧ (F 0 = slT l ∧ F 2 = .pp 2 0 v2 ∧ F 3 = .pp 3 0 v ∧ F 4 = I k ∧ F 5 = I M0.sets.length ∧ F 6 = slS (spSets r) ∧ F 7 = slI (spLast r)) ∧ F 8 = I i ∧ NetAt H' v (fuseI M0 k r i) q0 q1 q2 q3 q4 ∧ H' 2 = ⟨v2, some (.box 61 [.u (.slice none 0 0), .u (.slice none 0 0), .u (.slice none 0 0), .u (.slice none 0 0), .u (.slice none 0 0)])⟩) (m := (spSets r).length) ⟨0, q0, q1, q2, q3, q4, by omega, by omega, by simp [go_sem, f0, f2, f3, f4], by simp [go_sem], by rw [fuseI_zero]; exact hN, b2⟩ fun m2 F H' hI => ?_
    clear f0 f2 f3 f4 hN b2 hb h30
    obtain ⟨i, q0, q1, q2, q3, q4, hi, hm2, ⟨f0, f2, f3, f4, f5, f6, f7⟩, f8, hN, b2⟩ := hI
    by_cases hli : i < (spSets r).length
    · have hli' : (i : Int) < (spSets r).length := by omega
      have hIs := fuseI_succ M0 k r i hli
      have hfi := hr.fol i
      have hfl := rising_len2 hfi
      obtain ⟨y, ey⟩ : ∃ y, (spSets r)[i] = y := ⟨_, rfl⟩
      rw [ey] at hIs
      have hb := hN.b
      repeat (first | (refine PC.seq fun K hK => ?_) | (refine PC.block ?_) | (refine PC.region ?_) | (refine PL.k rfl fun KK hKK => ?_; simp (disch := omega) [go_sem, stepK, f6, f8, hli, hli']; refine hKK _ ?_; clear hKK KK) | (refine PL.k rfl fun KK hKK => ?_; simp [go_sem, stepK, f6, f8, hli, hli']; refine hKK _ ?_; clear hKK KK) | (refine PL.g rfl rfl fun KK hKK => ?_; simp (disch := omega) [go_sem, L.stepG, f6, f8, hli, hli']; refine hKK _ ?_; clear hKK KK) | (refine PL.g rfl rfl fun KK hKK => ?_; simp [go_sem, L.stepG, f6, f8, hli, hli']; refine hKK _ ?_; clear hKK KK) | (refine PL.done hK ?_; clear hK) | (refine PC.skip (hK _ _ ?_); clear hK) | (refine PC.condT ?_ ?_; focus (simp [go_sem, f6, f8, hli, hli']; done)) | (refine PC.condF ?_ ?_; focus (simp [go_sem, f6, f8, hli, hli']; done)) | (refine PC.exit ?_; first | (refine hK _ _ ?_; clear hK) | (clear hK; refine hK _ _ ?_; clear hK) | (clear hK; clear hK; refine hK _ _ ?_; clear hK)))
      refine PC.regionT 7 mixed (by kernel_rfl) ?_
      repeat (first | (refine QF.k rfl fun KK hKK => ?_; simp (disch := omega) [go_sem, stepK, f3, f6, f8, hli, hli', ey, hb]; refine hKK _ ?_; clear hKK KK) | (refine QF.k rfl fun KK hKK => ?_; simp [go_sem, stepK, f3, f6, f8, hli, hli', ey, hb]; refine hKK _ ?_; clear hKK KK) | (refine QF.g rfl rfl fun KK hKK => ?_; simp (disch := omega) [go_sem, L.stepG, f3, f6, f8, hli, hli', ey, hb]; refine hKK _ ?_; clear hKK KK) | (refine QF.g rfl rfl fun KK hKK => ?_; simp [go_sem, L.stepG, f3, f6, f8, hli, hli', ey, hb]; refine hKK _ ?_; clear hKK KK))
      refine QF.buildSliceA (d := 43) rfl rfl rfl (by simp) selem_24 rfl (by omega) (ips := [(0, encS (y))]) (by simp [go_sem, encS]) (by simp [litOk, go_sem, encS, W64, PV.cells]) (ps := [encS (y)]) rfl ?_
      refine QF.nil ?_
      refine PL.appendL (rep := encS) (d := 44) (ys := [y]) rfl rfl rfl (by simp) selem_24 (by simp [go_sem]) hN.h0 (by simp [go_sem, encS]) (fun _ => rfl) (fun x c hc => by simp [encS, PV.cells] at hc; rcases hc with rfl | rfl | rfl | rfl <;> rfl) (by simp [maxLen, moreL, fuseI]; omega) (by simp [moreL, fuseI]; omega) fun q0' H1 a1 o1 => ?_
      have bb := (o1 3 (by omega)).trans hN.b
      repeat (refine PL.k rfl fun KK hKK => ?_; simp [go_sem, stepK, bb, f3]; refine hKK _ ?_; clear hKK KK)
      refine PL.storeA (id := 3) rfl rfl (by simp [dstOk]) (by simp [go_sem]; rfl) bb asz_24 (v := q0') (by simp [go_sem]) (OwnS.okC a1) (OwnS.cells a1) rfl (by simp) rfl fun H2 bst o2 => ?_
      have hN := hN.up0 a1 o1 bst o2
      have b2 := ((o2 2 (by omega)).trans (o1 2 (by omega))).trans b2
      clear bb bst a1
      refine PL.done hK ?_; clear hK
      have hb := hN.b
      repeat (first | (refine PC.seq fun K hK => ?_) | (refine PC.block ?_) | (refine PC.region ?_) | (refine PL.k rfl fun KK hKK => ?_; simp (disch := omega) [go_sem, stepK, f3, f4, hb]; refine hKK _ ?_; clear hKK KK) | (refine PL.k rfl fun KK hKK => ?_; simp [go_sem, stepK, f3, f4, hb]; refine hKK _ ?_; clear hKK KK) | (refine PL.g rfl rfl fun KK hKK => ?_; simp (disch := omega) [go_sem, L.stepG, f3, f4, hb]; refine hKK _ ?_; clear hKK KK) | (refine PL.g rfl rfl fun KK hKK => ?_; simp [go_sem, L.stepG, f3, f4, hb]; refine hKK _ ?_; clear hKK KK) | (refine PL.done hK ?_; clear hK) | (refine PC.skip (hK _ _ ?_); clear hK) | (refine PC.condT ?_ ?_; focus (simp [go_sem, f3, f4, hb]; done)) | (refine PC.condF ?_ ?_; focus (simp [go_sem, f3, f4, hb]; done)) | (refine PC.exit ?_; first | (refine hK _ _ ?_; clear hK) | (clear hK; refine hK _ _ ?_; clear hK) | (clear hK; clear hK; refine hK _ _ ?_; clear hK)))
      refine PL.buildSliceR (d := 49) rfl rfl rfl (by simp) selem_30 rfl (by omega) (ips := [(0, I ((k : Int)))]) (by simp [go_sem, encS]) (by simp [litOk, go_sem, okC]) (ps := [I ((k : Int))]) rfl ?_
      refine PL.appendL (rep := I) (d := 50) (ys := [(k : Int)]) rfl rfl rfl (by simp) selem_30 (by simp [go_sem]) hN.h1 (by simp [go_sem, encS]) (fun _ => rfl) (fun x c hc => by simp [PV.cells] at hc; subst hc; rfl) (by simp [maxLen, moreL, fuseI]; omega) (by simp [moreL, fuseI]; omega) fun q1' H1 a1 o1 => ?_
      have bb := (o1 3 (by omega)).trans hN.b
      repeat (refine PL.k rfl fun KK hKK => ?_; simp [go_sem, stepK, bb, f3]; refine hKK _ ?_; clear hKK KK)
      refine PL.storeA (id := 3) rfl rfl (by simp [dstOk]) (by simp [go_sem]; rfl) bb asz_30 (v := q1') (by simp [go_sem]) (OwnS.okC a1) (OwnS.cells a1) rfl (by simp) rfl fun H2 bst o2 => ?_
      have hN := hN.up1 a1 o1 bst o2
      have b2 := ((o2 2 (by omega)).trans (o1 2 (by omega))).trans b2
      clear bb bst a1
      refine PL.done hK ?_; clear hK
      have hb := hN.b
      repeat (first | (refine PC.seq fun K hK => ?_) | (refine PC.block ?_) | (refine PC.region ?_) | (refine PL.k rfl fun KK hKK => ?_; simp (disch := omega) [go_sem, stepK]; refine hKK _ ?_; clear hKK KK) | (refine PL.k rfl fun KK hKK => ?_; simp [go_sem, stepK]; refine hKK _ ?_; clear hKK KK) | (refine PL.g rfl rfl fun KK hKK => ?_; simp (disch := omega) [go_sem, L.stepG]; refine hKK _ ?_; clear hKK KK) | (refine PL.g rfl rfl fun KK hKK => ?_; simp [go_sem, L.stepG]; refine hKK _ ?_; clear hKK KK) | (refine PL.done hK ?_; clear hK) | (refine PC.skip (hK _ _ ?_); clear hK) | (refine PC.condT ?_ ?_; focus (simp [go_sem]; done)) | (refine PC.condF ?_ ?_; focus (simp [go_sem]; done)) | (refine PC.exit ?_; first | (refine hK _ _ ?_; clear hK) | (clear hK; refine hK _ _ ?_; clear hK) | (clear hK; clear hK; refine hK _ _ ?_; clear hK)))
      refine PC.regionT 6 mixed (by kernel_rfl) ?_
      repeat (first | (refine QF.k rfl fun KK hKK => ?_; simp (disch := omega) [go_sem, stepK, f3, f7, f8, hb]; refine hKK _ ?_; clear hKK KK) | (refine QF.k rfl fun KK hKK => ?_; simp [go_sem, stepK, f3, f7, f8, hb]; refine hKK _ ?_; clear hKK KK) | (refine QF.g rfl rfl fun KK hKK => ?_; simp (disch := omega) [go_sem, L.stepG, f3, f7, f8, hb]; refine hKK _ ?_; clear hKK KK) | (refine QF.g rfl rfl fun KK hKK => ?_; simp [go_sem, L.stepG, f3, f7, f8, hb]; refine hKK _ ?_; clear hKK KK))
      refine QF.callB rfl rfl (by kernel_rfl) (ref11Has_ok (spLast r) i (by omega)) (by simp [go_sem]) (by simp [go_sem]) (by simp [go_sem]) ?_
      refine QF.buildSliceA (d := 57) rfl rfl rfl (by simp) selem_51 rfl (by omega) (ips := [(0, B (decide ((i : Int) ∈ spLast r)))]) (by simp [go_sem, encS]) (by simp [litOk, go_sem, okC]) (ps := [B (decide ((i : Int) ∈ spLast r))]) rfl ?_
      refine QF.nil ?_
      refine PL.appendL (rep := B) (d := 58) (ys := [decide ((i : Int) ∈ spLast r)]) rfl rfl rfl (by simp) selem_51 (by simp [go_sem]) hN.h2 (by simp [go_sem, encS]) (fun _ => rfl) (fun x c hc => by simp [PV.cells] at hc; subst hc; rfl) (by simp [maxLen, moreL, fuseI]; omega) (by simp [moreL, fuseI]; omega) fun q2' H1 a1 o1 => ?_
      have bb := (o1 3 (by omega)).trans hN.b
      repeat (refine PL.k rfl fun KK hKK => ?_; simp [go_sem, stepK, bb, f3]; refine hKK _ ?_; clear hKK KK)
      refine PL.storeA (id := 3) rfl rfl (by simp [dstOk]) (by simp [go_sem]; rfl) bb asz_51 (v := q2') (by simp [go_sem]) (OwnS.okC a1) (OwnS.cells a1) rfl (by simp) rfl fun H2 bst o2 => ?_
      have hN := hN.up2 a1 o1 bst o2
      have b2 := ((o2 2 (by omega)).trans (o1 2 (by omega))).trans b2
      clear bb bst a1
      refine PL.done hK ?_; clear hK
      have hb := hN.b
      have hov : ∀ x ∈ spFollow r i, -9223372036854775808 ≤ x + (M0.sets.length : Int) ∧ x + (M0.sets.length : Int) ≤ 9223372036854775807 := fun x hx => by have := hfi.2 x hx; omega
      repeat (first | (refine PC.seq fun K hK => ?_) | (refine PC.block ?_) | (refine PC.region ?_) | (refine PL.k rfl fun KK hKK => ?_; simp (disch := omega) [go_sem, stepK]; refine hKK _ ?_; clear hKK KK) | (refine PL.k rfl fun KK hKK => ?_; simp [go_sem, stepK]; refine hKK _ ?_; clear hKK KK) | (refine PL.g rfl rfl fun KK hKK => ?_; simp (disch := omega) [go_sem, L.stepG]; refine hKK _ ?_; clear hKK KK) | (refine PL.g rfl rfl fun KK hKK => ?_; simp [go_sem, L.stepG]; refine hKK _ ?_; clear hKK KK) | (refine PL.done hK ?_; clear hK) | (refine PC.skip (hK _ _ ?_); clear hK) | (refine PC.condT ?_ ?_; focus (simp [go_sem]; done)) | (refine PC.condF ?_ ?_; focus (simp [go_sem]; done)) | (refine PC.exit ?_; first | (refine hK _ _ ?_; clear hK) | (clear hK; refine hK _ _ ?_; clear hK) | (clear hK; clear hK; refine hK _ _ ?_; clear hK)))
      refine PC.regionT 12 mixed (by kernel_rfl) ?_
      repeat (first | (refine QF.k rfl fun KK hKK => ?_; simp (disch := omega) [go_sem, stepK, f0, f3, f4, f8, hlt, hlt', etk, er, hb]; refine hKK _ ?_; clear hKK KK) | (refine QF.k rfl fun KK hKK => ?_; simp [go_sem, stepK, f0, f3, f4, f8, hlt, hlt', etk, er, hb]; refine hKK _ ?_; clear hKK KK) | (refine QF.g rfl rfl fun KK hKK => ?_; simp (disch := omega) [go_sem, L.stepG, f0, f3, f4, f8, hlt, hlt', etk, er, hb]; refine hKK _ ?_; clear hKK KK) | (refine QF.g rfl rfl fun KK hKK => ?_; simp [go_sem, L.stepG, f0, f3, f4, f8, hlt, hlt', etk, er, hb]; refine hKK _ ?_; clear hKK KK))
      refine QF.callB rfl rfl (by kernel_rfl) (refFollow_ok r i) (by simp [go_sem]) (by simp [go_sem]) (by simp [go_sem]) ?_
      repeat (first | (refine QF.k rfl fun KK hKK => ?_; simp (disch := omega) [go_sem, stepK, f5]; refine hKK _ ?_; clear hKK KK) | (refine QF.k rfl fun KK hKK => ?_; simp [go_sem, stepK, f5]; refine hKK _ ?_; clear hKK KK) | (refine QF.g rfl rfl fun KK hKK => ?_; simp (disch := omega) [go_sem, L.stepG, f5]; refine hKK _ ?_; clear hKK KK) | (refine QF.g rfl rfl fun KK hKK => ?_; simp [go_sem, L.stepG, f5]; refine hKK _ ?_; clear hKK KK))
      refine QF.callB rfl rfl (by kernel_rfl) (moved_ok (spFollow r i) M0.sets.length (by omega) hov) (by simp [go_sem]) (by simp [go_sem]) (by simp [go_sem]) ?_
      refine QF.buildSliceA (d := 71) rfl rfl rfl (by simp) selem_44 rfl (by omega) (ips := [(0, slI (moreL (spFollow r i) M0.sets.length))]) (by simp [go_sem, encS]) (by simp [litOk, go_sem]) (ps := [slI (moreL (spFollow r i) M0.sets.length)]) rfl ?_
      refine QF.nil ?_
      refine PL.appendL (rep := slI) (d := 72) (ys := [moreL (spFollow r i) M0.sets.length]) rfl rfl rfl (by simp) selem_44 (by simp [go_sem]) hN.h3 (by simp [go_sem, encS]) (fun _ => rfl) (fun x c hc => by simp [go_sem] at hc; subst hc; rfl) (by simp [maxLen, moreL, fuseI]; omega) (by simp [moreL, fuseI]; omega) fun q3' H1 a1 o1 => ?_
      have bb := (o1 3 (by omega)).trans hN.b
      repeat (refine PL.k rfl fun KK hKK => ?_; simp [go_sem, stepK, bb, f3]; refine hKK _ ?_; clear hKK KK)
      refine PL.storeA (id := 3) rfl rfl (by simp [dstOk]) (by simp [go_sem]; rfl) bb asz_44 (v := q3') (by simp [go_sem]) (OwnS.okC a1) (OwnS.cells a1) rfl (by simp) rfl fun H2 bst o2 => ?_
      have hN := hN.up3 a1 o1 bst o2
      have b2 := ((o2 2 (by omega)).trans (o1 2 (by omega))).trans b2
      clear bb bst a1
      repeat (first | (refine PC.seq fun K hK => ?_) | (refine PC.block ?_) | (refine PC.region ?_) | (refine PL.k rfl fun KK hKK => ?_; simp (disch := omega) [go_sem, stepK, f8]; refine hKK _ ?_; clear hKK KK) | (refine PL.k rfl fun KK hKK => ?_; simp [go_sem, stepK, f8]; refine hKK _ ?_; clear hKK KK) | (refine PL.g rfl rfl fun KK hKK => ?_; simp (disch := omega) [go_sem, L.stepG, f8]; refine hKK _ ?_; clear hKK KK) | (refine PL.g rfl rfl fun KK hKK => ?_; simp [go_sem, L.stepG, f8]; refine hKK _ ?_; clear hKK KK) | (refine PL.done hK ?_; clear hK) | (refine PC.skip (hK _ _ ?_); clear hK) | (refine PC.condT ?_ ?_; focus (simp [go_sem, f8]; done)) | (refine PC.condF ?_ ?_; focus (simp [go_sem, f8]; done)) | (refine PC.exit ?_; first | (refine hK _ _ ?_; clear hK) | (clear hK; refine hK _ _ ?_; clear hK) | (clear hK; clear hK; refine hK _ _ ?_; clear hK)))
      rw [← hIs] at hN
      refine PL.nil ⟨(spSets r).length - (i + 1), by omega, i + 1, _, _, _, _, _, by omega, by omega, by simp [go_sem, f0, f2, f3, f4, f5, f6, f7], by simp [go_sem], hN, b2⟩
    · have hli' : ¬ (i : Int) < (spSets r).length := by omega
      have hie : i = (spSets r).length := by omega
      subst hie
      have hb := hN.b
      have hrf := rising_len2 hr.first
      have hov : ∀ x ∈ spFirst r, -9223372036854775808 ≤ x + (M0.sets.length : Int) ∧ x + (M0.sets.length : Int) ≤ 9223372036854775807 := fun x hx => by have := hr.first.2 x hx; omega
      repeat (first | (refine PC.seq fun K hK => ?_) | (refine PC.block ?_) | (refine PC.region ?_) | (refine PL.k rfl fun KK hKK => ?_; simp (disch := omega) [go_sem, stepK, f6, f8, hli']; refine hKK _ ?_; clear hKK KK) | (refine PL.k rfl fun KK hKK => ?_; simp [go_sem, stepK, f6, f8, hli']; refine hKK _ ?_; clear hKK KK) | (refine PL.g rfl rfl fun KK hKK => ?_; simp (disch := omega) [go_sem, L.stepG, f6, f8, hli']; refine hKK _ ?_; clear hKK KK) | (refine PL.g rfl rfl fun KK hKK => ?_; simp [go_sem, L.stepG, f6, f8, hli']; refine hKK _ ?_; clear hKK KK) | (refine PL.done hK ?_; clear hK) | (refine PC.skip (hK _ _ ?_); clear hK) | (refine PC.condT ?_ ?_; focus (simp [go_sem, f6, f8, hli']; done)) | (refine PC.condF ?_ ?_; focus (simp [go_sem, f6, f8, hli']; done)) | (refine PC.exit ?_; first | (refine hK _ _ ?_; clear hK) | (clear hK; refine hK _ _ ?_; clear hK) | (clear hK; clear hK; refine hK _ _ ?_; clear hK)))
      refine PC.regionT 10 mixed (by kernel_rfl) ?_
      repeat (first | (refine QF.k rfl fun KK hKK => ?_; simp (disch := omega) [go_sem, stepK, f0, f3, f4, hlt, hlt', etk, er, hb]; refine hKK _ ?_; clear hKK KK) | (refine QF.k rfl fun KK hKK => ?_; simp [go_sem, stepK, f0, f3, f4, hlt, hlt', etk, er, hb]; refine hKK _ ?_; clear hKK KK) | (refine QF.g rfl rfl fun KK hKK => ?_; simp (disch := omega) [go_sem, L.stepG, f0, f3, f4, hlt, hlt', etk, er, hb]; refine hKK _ ?_; clear hKK KK) | (refine QF.g rfl rfl fun KK hKK => ?_; simp [go_sem, L.stepG, f0, f3, f4, hlt, hlt', etk, er, hb]; refine hKK _ ?_; clear hKK KK))
      refine QF.callB rfl rfl (by kernel_rfl) (refFirst_ok r) (by simp [go_sem]) (by simp [go_sem]) (by simp [go_sem]) ?_
      repeat (first | (refine QF.k rfl fun KK hKK => ?_; simp (disch := omega) [go_sem, stepK, f5]; refine hKK _ ?_; clear hKK KK) | (refine QF.k rfl fun KK hKK => ?_; simp [go_sem, stepK, f5]; refine hKK _ ?_; clear hKK KK) | (refine QF.g rfl rfl fun KK hKK => ?_; simp (disch := omega) [go_sem, L.stepG, f5]; refine hKK _ ?_; clear hKK KK) | (refine QF.g rfl rfl fun KK hKK => ?_; simp [go_sem, L.stepG, f5]; refine hKK _ ?_; clear hKK KK))
      refine QF.callB rfl rfl (by kernel_rfl) (moved_ok (spFirst r) M0.sets.length (by omega) hov) (by simp [go_sem]) (by simp [go_sem]) (by simp [go_sem]) ?_
      refine QF.nil ?_
      refine PL.appendL (rep := I) (d := 84) (ys := moreL (spFirst r) M0.sets.length) rfl rfl rfl (by simp) selem_30 (by simp [go_sem]) hN.h4 (by simp [go_sem, slI]) (fun _ => rfl) (fun x c hc => by simp [PV.cells] at hc; subst hc; rfl) (by simp [maxLen, moreL, fuseI]; omega) (by simp [moreL, fuseI]; omega) fun q4' H1 a1 o1 => ?_
      have bb := (o1 3 (by omega)).trans hN.b
      repeat (refine PL.k rfl fun KK hKK => ?_; simp [go_sem, stepK, bb, f3]; refine hKK _ ?_; clear hKK KK)
      refine PL.storeA (id := 3) rfl rfl (by simp [dstOk]) (by simp [go_sem]; rfl) bb asz_30 (v := q4') (by simp [go_sem]) (OwnS.okC a1) (OwnS.cells a1) rfl (by simp) rfl fun H2 bst o2 => ?_
      have hN := hN.up4 a1 o1 bst o2
      have b2 := ((o2 2 (by omega)).trans (o1 2 (by omega))).trans b2
      clear bb bst a1
      repeat (first | (refine PC.seq fun K hK => ?_) | (refine PC.block ?_) | (refine PC.region ?_) | (refine PL.k rfl fun KK hKK => ?_; simp (disch := omega) [go_sem, stepK, f4]; refine hKK _ ?_; clear hKK KK) | (refine PL.k rfl fun KK hKK => ?_; simp [go_sem, stepK, f4]; refine hKK _ ?_; clear hKK KK) | (refine PL.g rfl rfl fun KK hKK => ?_; simp (disch := omega) [go_sem, L.stepG, f4]; refine hKK _ ?_; clear hKK KK) | (refine PL.g rfl rfl fun KK hKK => ?_; simp [go_sem, L.stepG, f4]; refine hKK _ ?_; clear hKK KK) | (refine PL.done hK ?_; clear hK) | (refine PC.skip (hK _ _ ?_); clear hK) | (refine PC.condT ?_ ?_; focus (simp [go_sem, f4]; done)) | (refine PC.condF ?_ ?_; focus (simp [go_sem, f4]; done)) | (refine PC.exit ?_; first | (refine hK _ _ ?_; clear hK) | (clear hK; refine hK _ _ ?_; clear hK) | (clear hK; clear hK; refine hK _ _ ?_; clear hK)))
      refine PL.nil ⟨l.length - (k + 1), by omega, k + 1, _, _, _, _, _, by omega, by omega, by simp [go_sem, f0, f2, f3], by simp [go_sem], by rw [hsucc]; exact hN, b2⟩
  · have hlt' : ¬ (k : Int) < l.length := by omega
    have hke : k = l.length := by omega
    subst hke
    have hb := hN.b
    repeat (first | (refine PC.seq fun K hK => ?_) | (refine PC.block ?_) | (refine PC.region ?_) | (refine PL.k rfl fun KK hKK => ?_; simp (disch := omega) [go_sem, stepK, f0, f2, f3, f4, hlt', hb]; refine hKK _ ?_; clear hKK KK) | (refine PL.k rfl fun KK hKK => ?_; simp [go_sem, stepK, f0, f2, f3, f4, hlt', hb]; refine hKK _ ?_; clear hKK KK) | (refine PL.g rfl rfl fun KK hKK => ?_; simp (disch := omega) [go_sem, L.stepG, f0, f2, f3, f4, hlt', hb]; refine hKK _ ?_; clear hKK KK) | (refine PL.g rfl rfl fun KK hKK => ?_; simp [go_sem, L.stepG, f0, f2, f3, f4, hlt', hb]; refine hKK _ ?_; clear hKK KK) | (refine PL.done hK ?_; clear hK) | (refine PC.skip (hK _ _ ?_); clear hK) | (refine PC.condT ?_ ?_; focus (simp [go_sem, f0, f2, f3, f4, hlt', hb]; done)) | (refine PC.condF ?_ ?_; focus (simp [go_sem, f0, f2, f3, f4, hlt', hb]; done)) | (refine PC.exit ?_; first | (refine hK _ _ ?_; clear hK) | (clear hK; refine hK _ _ ?_; clear hK) | (clear hK; clear hK; refine hK _ _ ?_; clear hK)))
    refine PL.storeA (id := 2) (off := 0) rfl rfl (by simp [dstOk]) (by simp [go_sem, f2]) b2 asz_61 (v := .agg [q0, q1, q2, q3, q4]) (by simp [go_sem]) (okC_agg5 hN) rfl rfl (by simp) (cs' := [q0, q1, q2, q3, q4]) rfl fun H5 b5 o5 => ?_
    refine PL.done hK ?_; clear hK
    have hN := hN.mono (H' := H5) fun j hj => o5 j (by omega)
    refine PC.ret ?_
    refine ⟨.inr rfl, .agg [q0, q1, q2, q3, q4], _, ?_, hN.view, netV_noP _, rfl⟩
    simp [resP, resP1, Try.results44, go_sem, f2, b5, setMany]
end Go.Proofs.Ytficeeaaaijgcaa

/-
  The example of chapter 12, over pure values.
-/
namespace Go.Proofs.Ytficeeaaaijgcaa
open Go Go.RowKit L
set_option linter.unusedVariables false
set_option linter.unusedSimpArgs false

def rexA : List Rx := [⟨1, 0, 8589934592, 0, 0⟩, ⟨6, 0, 0, 0, 0⟩]
def rexB : List Rx := [⟨1, 0, 8589934592, 0, 0⟩, ⟨1, 0, 17179869184, 0, 0⟩, ⟨3, 0, 0, 0, 0⟩]
def two12 : List Tok := [⟨⟨#[120]⟩, rexA, 0⟩, ⟨⟨#[121]⟩, rexB, 0⟩]

set_option maxRecDepth 100000 in
theorem two_ok : PCall Try.prog 77 [] (· = slT two12) :=
  funE_sound (P := Try.prog) (more := fun _ _ => none) (fun _ _ _ h => by cases h) mixed (fuel := 100000) (r := .ro (slT two12)) (by kernel_rfl)

def net12 : Net := ⟨[⟨1, 0, 8589934592, 0, 0⟩, ⟨1, 0, 8589934592, 0, 0⟩, ⟨1, 0, 17179869184, 0, 0⟩], [0, 1, 1], [true, false, true], [[0], [2], []], [0, 1]⟩
theorem net12_eq : fuseL two12 = net12 := by kernel_rfl
theorem r1 : runK net12 ⟨#[97]⟩ 1 = [0, 1] := by decide +kernel
theorem r2 : runK net12 ⟨#[97, 98]⟩ 2 = [2] := by decide +kernel
theorem r3 : runK net12 ⟨#[98]⟩ 1 = [] := by decide +kernel
theorem r4 : tokN net12 [2] = 1 := by decide +kernel
end Go.Proofs.Ytficeeaaaijgcaa

/-
  The example of chapter 12, over pure values: knows.
-/
namespace Go.Proofs.Ytficeeaaaijgcaa
open Go Go.RowKit L
set_option linter.unusedVariables false
set_option linter.unusedSimpArgs false

theorem net12_nb : Nb net12 := ⟨by decide, by decide, by decide, by decide, by decide, by decide⟩
theorem net12_nn : ∀ x ∈ net12.sets, x.nn := by
  intro x hx
  simp [net12] at hx
  rcases hx with rfl | rfl <;> exact ⟨by decide, by decide, by decide, by decide⟩
theorem run1 (w : ByteArray) (r : List Int) (hw : w.size ≤ 1000) (h : runK net12 w w.size = r) : PCall Try.prog 46 [netV net12, S w] (· = slI r) := by
  have := fuseRun_ok net12 w hw net12_nb (fun _ => by decide) net12_nn
  rwa [h] at this

set_option maxRecDepth 20000 in
set_option maxHeartbeats 4000000 in
theorem knows12_ok : PCall Try.prog 41 [] (· = B true) := by
  have cF := fuseFuse_ok two12 (by decide)
  rw [net12_eq] at cF
  have c1 := run1 ⟨#[97]⟩ [0, 1] (by decide) r1
  have c2 := run1 ⟨#[97, 98]⟩ [2] (by decide) r2
  have c3 := run1 ⟨#[98]⟩ [] (by decide) r3
  have c4 := fuseToken_ok net12 [2] (by decide) net12_nb
  rw [r4] at c4
  have s1 := ref11Same_ok [0, 1] [0, 1] (by decide) (by decide)
  have s2 := ref11Same_ok [2] [2] (by decide) (by decide)
  have nN := netV_noP net12
  refine PCall.intro' Try.func41 rfl Try.ntmps41 (by simp) fun W => ?_
  repeat (first | (refine PC.seq fun K hK => ?_) | (refine PC.block ?_) | (refine PC.region ?_) | (refine PL.k rfl fun KK hKK => ?_; simp (disch := omega) [go_sem, stepK]; refine hKK _ ?_; clear hKK KK) | (refine PL.k rfl fun KK hKK => ?_; simp [go_sem, stepK]; refine hKK _ ?_; clear hKK KK) | (refine PL.g rfl rfl fun KK hKK => ?_; simp (disch := omega) [go_sem, L.stepG]; refine hKK _ ?_; clear hKK KK) | (refine PL.g rfl rfl fun KK hKK => ?_; simp [go_sem, L.stepG]; refine hKK _ ?_; clear hKK KK) | (refine PL.done hK ?_; clear hK) | (refine PC.skip (hK _ _ ?_); clear hK) | (refine PC.condT ?_ ?_; focus (simp [go_sem]; done)) | (refine PC.condF ?_ ?_; focus (simp [go_sem]; done)) | (refine PC.exit ?_; first | (refine hK _ _ ?_; clear hK) | (clear hK; refine hK _ _ ?_; clear hK) | (clear hK; clear hK; refine hK _ _ ?_; clear hK)))
  refine PL.callB rfl rfl (by kernel_rfl) two_ok (by simp [go_sem]) (by simp [go_sem]) (by simp [go_sem]) ?_
  refine PL.callB rfl rfl (by kernel_rfl) cF (by simp [go_sem]) (by simp [go_sem]) (by simp [go_sem]) ?_
  generalize hn : net12 = n12 at *
  refine PL.allocA 1 (d := 1) rfl rfl rfl (by simp) zeroC_61 rfl rfl fun v1 H1 b1 o1 => ?_
  refine PL.storeA (id := 1) (off := 0) rfl rfl (by simp [dstOk]) (by simp [go_sem]) b1 asz_61 (v := netV n12) (by simp [go_sem]) (by simp [go_sem, okC]) rfl (by simp [go_sem]) (by simp) (cs' := [slS n12.sets, slI n12.of_, slB n12.last, slLL n12.follow, slI n12.first]) rfl fun H2 b2 o2 => ?_
  repeat (first | (refine PC.seq fun K hK => ?_) | (refine PC.block ?_) | (refine PC.region ?_) | (refine PL.k rfl fun KK hKK => ?_; simp (disch := omega) [go_sem, stepK]; refine hKK _ ?_; clear hKK KK) | (refine PL.k rfl fun KK hKK => ?_; simp [go_sem, stepK]; refine hKK _ ?_; clear hKK KK) | (refine PL.g rfl rfl fun KK hKK => ?_; simp (disch := omega) [go_sem, L.stepG]; refine hKK _ ?_; clear hKK KK) | (refine PL.g rfl rfl fun KK hKK => ?_; simp [go_sem, L.stepG]; refine hKK _ ?_; clear hKK KK) | (refine PL.done hK ?_; clear hK) | (refine PC.skip (hK _ _ ?_); clear hK) | (refine PC.condT ?_ ?_; focus (simp [go_sem]; done)) | (refine PC.condF ?_ ?_; focus (simp [go_sem]; done)) | (refine PC.exit ?_; first | (refine hK _ _ ?_; clear hK) | (clear hK; refine hK _ _ ?_; clear hK) | (clear hK; clear hK; refine hK _ _ ?_; clear hK)))
  refine PC.regionQ mixed (by kernel_rfl) ?_
  repeat (first | (refine QF.k rfl fun KK hKK => ?_; simp (disch := omega) [go_sem, stepK, b2]; refine hKK _ ?_; clear hKK KK) | (refine QF.k rfl fun KK hKK => ?_; simp [go_sem, stepK, b2]; refine hKK _ ?_; clear hKK KK) | (refine QF.g rfl rfl fun KK hKK => ?_; simp (disch := omega) [go_sem, L.stepG, b2]; refine hKK _ ?_; clear hKK KK) | (refine QF.g rfl rfl fun KK hKK => ?_; simp [go_sem, L.stepG, b2]; refine hKK _ ?_; clear hKK KK))
  refine QF.callB rfl rfl (by kernel_rfl) c1 (by simp [go_sem]) (by simp [go_sem]) (by simp [go_sem]) ?_
  refine QF.buildSliceA (d := 6) rfl rfl rfl (by simp) selem_30 rfl (by omega) (ips := [(0, I 0), (1, I 1)]) (by simp [go_sem]) (by simp [litOk, go_sem, okC]) (ps := [I 0, I 1]) rfl ?_
  refine QF.callB rfl rfl (by kernel_rfl) s1 (by simp [go_sem]) (by simp [go_sem]) (by simp [go_sem, slI]) ?_
  repeat (first | (refine QF.k rfl fun KK hKK => ?_; simp (disch := omega) [go_sem, stepK, b2]; refine hKK _ ?_; clear hKK KK) | (refine QF.k rfl fun KK hKK => ?_; simp [go_sem, stepK, b2]; refine hKK _ ?_; clear hKK KK) | (refine QF.g rfl rfl fun KK hKK => ?_; simp (disch := omega) [go_sem, L.stepG, b2]; refine hKK _ ?_; clear hKK KK) | (refine QF.g rfl rfl fun KK hKK => ?_; simp [go_sem, L.stepG, b2]; refine hKK _ ?_; clear hKK KK))
  refine QF.callg rfl rfl (by simp [go_sem]) (by simp [dstOk]) (PQ.callB rfl (target_func _ _ _) (by kernel_rfl) (by simp [go_sem]) (by simp [go_sem]) c2) ?_
  refine QF.callg rfl rfl (by simp [go_sem]) (by simp [dstOk]) (PQ.buildSlice (ht := selem_30) rfl rfl (by omega) (by simp [litOk, go_sem, okC])) ?_
  refine QF.callg rfl rfl (by simp [go_sem]) (by simp [dstOk]) (PQ.callB rfl (target_func _ _ _) (by kernel_rfl) (qs := [slI [2], slI [2]]) (by simp [go_sem, slI]) (by simp [go_sem]) s2) ?_
  repeat (first | (refine QF.k rfl fun KK hKK => ?_; simp (disch := omega) [go_sem, stepK, b2]; refine hKK _ ?_; clear hKK KK) | (refine QF.k rfl fun KK hKK => ?_; simp [go_sem, stepK, b2]; refine hKK _ ?_; clear hKK KK) | (refine QF.g rfl rfl fun KK hKK => ?_; simp (disch := omega) [go_sem, L.stepG, b2]; refine hKK _ ?_; clear hKK KK) | (refine QF.g rfl rfl fun KK hKK => ?_; simp [go_sem, L.stepG, b2]; refine hKK _ ?_; clear hKK KK))
  refine QF.callg rfl rfl (by simp [go_sem]) (by simp [dstOk]) (PQ.callB rfl (target_func _ _ _) (by kernel_rfl) (by simp [go_sem]) (by simp [go_sem]) c2) ?_
  refine QF.callg rfl rfl (by simp [go_sem]) (by simp [dstOk]) (PQ.callB rfl (target_func _ _ _) (by kernel_rfl) (qs := [netV n12, slI [2]]) (by simp [go_sem]) (by simp [go_sem]) c4) ?_
  repeat (first | (refine QF.k rfl fun KK hKK => ?_; simp (disch := omega) [go_sem, stepK, b2]; refine hKK _ ?_; clear hKK KK) | (refine QF.k rfl fun KK hKK => ?_; simp [go_sem, stepK, b2]; refine hKK _ ?_; clear hKK KK) | (refine QF.g rfl rfl fun KK hKK => ?_; simp (disch := omega) [go_sem, L.stepG, b2]; refine hKK _ ?_; clear hKK KK) | (refine QF.g rfl rfl fun KK hKK => ?_; simp [go_sem, L.stepG, b2]; refine hKK _ ?_; clear hKK KK))
  refine QF.callg rfl rfl (by simp [go_sem]) (by simp [dstOk]) (PQ.callB rfl (target_func _ _ _) (by kernel_rfl) (by simp [go_sem]) (by simp [go_sem]) c3) ?_
  repeat (first | (refine QF.k rfl fun KK hKK => ?_; simp (disch := omega) [go_sem, stepK]; refine hKK _ ?_; clear hKK KK) | (refine QF.k rfl fun KK hKK => ?_; simp [go_sem, stepK]; refine hKK _ ?_; clear hKK KK) | (refine QF.g rfl rfl fun KK hKK => ?_; simp (disch := omega) [go_sem, L.stepG]; refine hKK _ ?_; clear hKK KK) | (refine QF.g rfl rfl fun KK hKK => ?_; simp [go_sem, L.stepG]; refine hKK _ ?_; clear hKK KK))
  refine QF.done hK ?_; clear hK
  (refine PC.ret ?_; refine fin (.inr rfl) (by simp [resP, resP1, Try.results41, go_sem]) (by simp [go_sem]))
end Go.Proofs.Ytficeeaaaijgcaa

/-
  What is small enough for the laws of chapter 12, over pure values.
-/
namespace Go.Proofs.Ytficeeaaaijgcaa
open Go Go.RowKit L
set_option linter.unusedVariables false
set_option linter.unusedSimpArgs false

def sumMin : List Nat → Nat
  | [] => 0
  | x :: l => min x 1000 + sumMin l
theorem sumMin_snoc (l : List Nat) (x : Nat) : sumMin (l ++ [x]) = sumMin l + min x 1000 := by
  induction l with
  | nil => simp [sumMin]
  | cons y l ih => simp only [List.cons_append, sumMin, ih]; omega
theorem sumMin_take (l : List Nat) (k : Nat) (h : k < l.length) : sumMin (l.take (k + 1)) = sumMin (l.take k) + min l[k] 1000 := by
  rw [List.take_succ_eq_append_getElem h, sumMin_snoc]
theorem sumMin_le (l : List Nat) : sumMin l ≤ l.length * 1000 := by
  induction l with
  | nil => simp [sumMin]
  | cons y l ih => simp only [sumMin, List.length_cons]; omega
theorem sumMin_mem (l : List Nat) (x : Nat) (h : x ∈ l) : min x 1000 ≤ sumMin l := by
  induction l with
  | nil => cases h
  | cons y l ih =>
    simp only [sumMin]
    rcases List.mem_cons.1 h with rfl | h
    · omega
    · have := ih h; omega

abbrev w64 (z : Int) : Int := IntKind.i64.wrap z
/-- the sum as the program makes it: it may turn over -/
def sumW (n : Net) (fs : List (List Int)) : Int := fs.foldl (fun z f => w64 (z + min (f.length : Int) 1000)) (w64 (w64 (w64 (n.first.length + n.of_.length) + n.last.length) + n.sets.length))
theorem sumW_succ (n : Net) (k : Nat) (h : k < n.follow.length) : sumW n (n.follow.take (k + 1)) = w64 (sumW n (n.follow.take k) + min (n.follow[k].length : Int) 1000) := by
  unfold sumW; rw [List.take_succ_eq_append_getElem h, List.foldl_append]; rfl
def smallN (n : Net) : Bool := decide (n.follow.length ≤ 60) && decide (sumW n n.follow ≤ 400)

set_option maxRecDepth 20000 in
set_option maxHeartbeats 2000000 in
theorem small_ok (n : Net) (hf : n.follow.length ≤ 9223372036854775807) : PCall Try.prog 48 [netV n] (· = B (smallN n)) := by
  refine PCall.intro' Try.func48 rfl Try.ntmps48 (by simp) fun W => ?_
  refine PC.seq fun K hK => ?_
  refine PC.region ?_
  refine PL.boxA 1 (d := 1) rfl rfl rfl (by simp) (v := netV n) (by simp [go_sem]) (by simp [go_sem, okC]) rfl fun v H1 b1 o1 => ?_
  have b1 := netBox b1
  repeat (first | (refine PC.seq fun K hK => ?_) | (refine PC.block ?_) | (refine PC.region ?_) | (refine PL.k rfl fun KK hKK => ?_; simp (disch := omega) [go_sem, stepK, b1, binP_addW]; refine hKK _ ?_; clear hKK KK) | (refine PL.k rfl fun KK hKK => ?_; simp [go_sem, stepK, b1, binP_addW]; refine hKK _ ?_; clear hKK KK) | (refine PL.g rfl rfl fun KK hKK => ?_; simp (disch := omega) [go_sem, L.stepG, b1, binP_addW]; refine hKK _ ?_; clear hKK KK) | (refine PL.g rfl rfl fun KK hKK => ?_; simp [go_sem, L.stepG, b1, binP_addW]; refine hKK _ ?_; clear hKK KK) | (refine PL.done hK ?_; clear hK) | (refine PC.skip (hK _ _ ?_); clear hK) | (refine PC.condT ?_ ?_; focus (simp [go_sem, b1, binP_addW]; done)) | (refine PC.condF ?_ ?_; focus (simp [go_sem, b1, binP_addW]; done)) | (refine PC.exit ?_; first | (refine hK _ _ ?_; clear hK) | (clear hK; refine hK _ _ ?_; clear hK) | (clear hK; clear hK; refine hK _ _ ?_; clear hK)))
  refine PC.loop (fun m F H' => ∃ k : Nat, k ≤ n.follow.length ∧ m = n.follow.length - k ∧ F 1 = .pp 1 0 v ∧ F 3 = I (sumW n (n.follow.take k)) ∧ F 4 = I k ∧ H' = H1) (m := n.follow.length) ⟨0, by omega, by omega, by simp [go_sem], by simp [go_sem, sumW], by simp [go_sem], rfl⟩ fun m F H' hI => ?_
  obtain ⟨k, hk, hm, f1, f3, f4, rfl⟩ := hI
  by_cases hlt : k < n.follow.length
  · have hlt' : (k : Int) < n.follow.length := by omega
    have hsucc := sumW_succ n k hlt
    obtain ⟨y, ey⟩ : ∃ y, n.follow[k] = y := ⟨_, rfl⟩
    rw [ey] at hsucc
    generalize sumW n (n.follow.take k) = s at *
    refine PC.seq fun K2 hK2 => ?_
    refine PC.seq fun K hK => ?_
    refine PC.region ?_
    repeat (refine PL.k rfl fun KK hKK => ?_; simp [go_sem, stepK, f1, f4, b1, hlt, hlt']; refine hKK _ ?_; clear hKK KK)
    refine PL.done hK ?_; clear hK
    refine PC.condT (by simp [go_sem]) ?_
    refine PC.skip (hK2 _ _ ?_); clear hK2
    refine PC.seq fun K hK => ?_
    refine PC.block ?_
    refine PC.region ?_
    repeat (refine PL.k rfl fun KK hKK => ?_; simp [go_sem, stepK, f1, f3, f4, b1, hlt, hlt', ey, binP_addW]; refine hKK _ ?_; clear hKK KK)
    refine PL.done hK ?_; clear hK
    repeat (first | (refine PC.seq fun K hK => ?_) | (refine PC.block ?_) | (refine PC.region ?_) | (refine PL.k rfl fun KK hKK => ?_; simp (disch := omega) [go_sem, stepK, f4]; refine hKK _ ?_; clear hKK KK) | (refine PL.k rfl fun KK hKK => ?_; simp [go_sem, stepK, f4]; refine hKK _ ?_; clear hKK KK) | (refine PL.g rfl rfl fun KK hKK => ?_; simp (disch := omega) [go_sem, L.stepG, f4]; refine hKK _ ?_; clear hKK KK) | (refine PL.g rfl rfl fun KK hKK => ?_; simp [go_sem, L.stepG, f4]; refine hKK _ ?_; clear hKK KK) | (refine PL.done hK ?_; clear hK) | (refine PC.skip (hK _ _ ?_); clear hK) | (refine PC.condT ?_ ?_; focus (simp [go_sem, f4]; done)) | (refine PC.condF ?_ ?_; focus (simp [go_sem, f4]; done)) | (refine PC.exit ?_; first | (refine hK _ _ ?_; clear hK) | (clear hK; refine hK _ _ ?_; clear hK) | (clear hK; clear hK; refine hK _ _ ?_; clear hK)))
    refine PL.nil ⟨n.follow.length - (k + 1), by omega, k + 1, by omega, by omega, by simp [go_sem, f1], ?_, by simp [go_sem], rfl⟩
    rw [hsucc]
    simp [go_sem]
  · have hlt' : ¬ (k : Int) < n.follow.length := by omega
    have hke : k = n.follow.length := by omega
    rw [hke, List.take_length] at f3
    by_cases h1 : n.follow.length ≤ 60
    · have h1' : (n.follow.length : Int) ≤ 60 := by omega
      repeat (first | (refine PC.seq fun K hK => ?_) | (refine PC.block ?_) | (refine PC.region ?_) | (refine PL.k rfl fun KK hKK => ?_; simp (disch := omega) [go_sem, stepK, f1, f3, f4, b1, hlt', h1']; refine hKK _ ?_; clear hKK KK) | (refine PL.k rfl fun KK hKK => ?_; simp [go_sem, stepK, f1, f3, f4, b1, hlt', h1']; refine hKK _ ?_; clear hKK KK) | (refine PL.g rfl rfl fun KK hKK => ?_; simp (disch := omega) [go_sem, L.stepG, f1, f3, f4, b1, hlt', h1']; refine hKK _ ?_; clear hKK KK) | (refine PL.g rfl rfl fun KK hKK => ?_; simp [go_sem, L.stepG, f1, f3, f4, b1, hlt', h1']; refine hKK _ ?_; clear hKK KK) | (refine PL.done hK ?_; clear hK) | (refine PC.skip (hK _ _ ?_); clear hK) | (refine PC.condT ?_ ?_; focus (simp [go_sem, f1, f3, f4, b1, hlt', h1']; done)) | (refine PC.condF ?_ ?_; focus (simp [go_sem, f1, f3, f4, b1, hlt', h1']; done)) | (refine PC.exit ?_; first | (refine hK _ _ ?_; clear hK) | (clear hK; refine hK _ _ ?_; clear hK) | (clear hK; clear hK; refine hK _ _ ?_; clear hK)))
      (refine PC.ret ?_; refine fin (.inr rfl) (by simp [resP, resP1, Try.results48, go_sem, smallN, h1]) (by simp [go_sem, smallN, h1]))
    · have h1' : ¬ (n.follow.length : Int) ≤ 60 := by omega
      repeat (first | (refine PC.seq fun K hK => ?_) | (refine PC.block ?_) | (refine PC.region ?_) | (refine PL.k rfl fun KK hKK => ?_; simp (disch := omega) [go_sem, stepK, f1, f3, f4, b1, hlt', h1']; refine hKK _ ?_; clear hKK KK) | (refine PL.k rfl fun KK hKK => ?_; simp [go_sem, stepK, f1, f3, f4, b1, hlt', h1']; refine hKK _ ?_; clear hKK KK) | (refine PL.g rfl rfl fun KK hKK => ?_; simp (disch := omega) [go_sem, L.stepG, f1, f3, f4, b1, hlt', h1']; refine hKK _ ?_; clear hKK KK) | (refine PL.g rfl rfl fun KK hKK => ?_; simp [go_sem, L.stepG, f1, f3, f4, b1, hlt', h1']; refine hKK _ ?_; clear hKK KK) | (refine PL.done hK ?_; clear hK) | (refine PC.skip (hK _ _ ?_); clear hK) | (refine PC.condT ?_ ?_; focus (simp [go_sem, f1, f3, f4, b1, hlt', h1']; done)) | (refine PC.condF ?_ ?_; focus (simp [go_sem, f1, f3, f4, b1, hlt', h1']; done)) | (refine PC.exit ?_; first | (refine hK _ _ ?_; clear hK) | (clear hK; refine hK _ _ ?_; clear hK) | (clear hK; clear hK; refine hK _ _ ?_; clear hK)))
      (refine PC.ret ?_; refine fin (.inr rfl) (by simp [resP, resP1, Try.results48, go_sem, smallN, h1]) (by simp [go_sem, smallN, h1]))
theorem small_few {n : Net} (h : smallN n = true) : NetR n → n.sets.length ≤ 1000 := fun hR => by
  unfold smallN at h
  simp only [Bool.and_eq_true, decide_eq_true_eq] at h
  have := hR.f
  omega

def fewL (l : List Tok) : Bool := decide (l.length ≤ 12 ∧ sumMin (l.map fun t => t.rex.length) ≤ 90)
set_option maxRecDepth 20000 in
set_option maxHeartbeats 2000000 in
theorem Few_ok (l : List Tok) (hl : l.length ≤ 9223372036854775807) : PCall Try.prog 40 [slT l] (· = B (fewL l)) := by
  refine PCall.intro' Try.func40 rfl Try.ntmps40 (by simp) fun W => ?_
  repeat (first | (refine PC.seq fun K hK => ?_) | (refine PC.block ?_) | (refine PC.region ?_) | (refine PL.k rfl fun KK hKK => ?_; simp (disch := omega) [go_sem, stepK]; refine hKK _ ?_; clear hKK KK) | (refine PL.k rfl fun KK hKK => ?_; simp [go_sem, stepK]; refine hKK _ ?_; clear hKK KK) | (refine PL.g rfl rfl fun KK hKK => ?_; simp (disch := omega) [go_sem, L.stepG]; refine hKK _ ?_; clear hKK KK) | (refine PL.g rfl rfl fun KK hKK => ?_; simp [go_sem, L.stepG]; refine hKK _ ?_; clear hKK KK) | (refine PL.done hK ?_; clear hK) | (refine PC.skip (hK _ _ ?_); clear hK) | (refine PC.condT ?_ ?_; focus (simp [go_sem]; done)) | (refine PC.condF ?_ ?_; focus (simp [go_sem]; done)) | (refine PC.exit ?_; first | (refine hK _ _ ?_; clear hK) | (clear hK; refine hK _ _ ?_; clear hK) | (clear hK; clear hK; refine hK _ _ ?_; clear hK)))
  refine PC.loop (fun m F H' => ∃ (k : Nat) (z : Int), k ≤ l.length ∧ m = l.length - k ∧ F 0 = slT l ∧ F 3 = I z ∧ F 4 = I k ∧ (l.length ≤ 12 → z = (sumMin ((l.take k).map fun t => t.rex.length) : Nat))) (m := l.length) ⟨0, 0, by omega, by omega, by simp [go_sem], by simp [go_sem], by simp [go_sem], by simp [sumMin]⟩ fun m F H' hI => ?_
  obtain ⟨k, z, hk, hm, f0, f3, f4, hz⟩ := hI
  by_cases hlt : k < l.length
  · have hlt' : (k : Int) < l.length := by omega
    have hsucc : sumMin ((l.take (k + 1)).map fun t => t.rex.length) = sumMin ((l.take k).map fun t => t.rex.length) + min l[k].rex.length 1000 := by
      rw [List.take_succ_eq_append_getElem hlt, List.map_append]; exact sumMin_snoc _ _
    have hle := sumMin_le ((l.take k).map fun t => t.rex.length)
    rw [List.length_map, List.length_take] at hle
    obtain ⟨y, ey⟩ : ∃ y, l[k] = y := ⟨_, rfl⟩
    rw [ey] at hsucc
    generalize sumMin ((l.take k).map fun t => t.rex.length) = s at *
    refine PC.seq fun K2 hK2 => ?_
    refine PC.seq fun K hK => ?_
    refine PC.region ?_
    repeat (refine PL.k rfl fun KK hKK => ?_; simp [go_sem, stepK, f0, f4, hlt, hlt']; refine hKK _ ?_; clear hKK KK)
    refine PL.done hK ?_; clear hK
    refine PC.condT (by simp [go_sem]) ?_
    refine PC.skip (hK2 _ _ ?_); clear hK2
    refine PC.seq fun K hK => ?_
    refine PC.block ?_
    refine PC.region ?_
    repeat (refine PL.k rfl fun KK hKK => ?_; simp [go_sem, stepK, f0, f3, f4, hlt, hlt', ey, binP_addW]; refine hKK _ ?_; clear hKK KK)
    refine PL.done hK ?_; clear hK
    repeat (first | (refine PC.seq fun K hK => ?_) | (refine PC.block ?_) | (refine PC.region ?_) | (refine PL.k rfl fun KK hKK => ?_; simp (disch := omega) [go_sem, stepK, f4]; refine hKK _ ?_; clear hKK KK) | (refine PL.k rfl fun KK hKK => ?_; simp [go_sem, stepK, f4]; refine hKK _ ?_; clear hKK KK) | (refine PL.g rfl rfl fun KK hKK => ?_; simp (disch := omega) [go_sem, L.stepG, f4]; refine hKK _ ?_; clear hKK KK) | (refine PL.g rfl rfl fun KK hKK => ?_; simp [go_sem, L.stepG, f4]; refine hKK _ ?_; clear hKK KK) | (refine PL.done hK ?_; clear hK) | (refine PC.skip (hK _ _ ?_); clear hK) | (refine PC.condT ?_ ?_; focus (simp [go_sem, f4]; done)) | (refine PC.condF ?_ ?_; focus (simp [go_sem, f4]; done)) | (refine PC.exit ?_; first | (refine hK _ _ ?_; clear hK) | (clear hK; refine hK _ _ ?_; clear hK) | (clear hK; clear hK; refine hK _ _ ?_; clear hK)))
    refine PL.nil ⟨l.length - (k + 1), by omega, k + 1, IntKind.i64.wrap (z + min (y.rex.length : Int) 1000), by omega, by omega, by simp [go_sem, f0], by simp [go_sem], by simp [go_sem], fun h12 => ?_⟩
    rw [hsucc, hz h12, i64_wrap (by omega) (by omega)]
    omega
  · have hlt' : ¬ (k : Int) < l.length := by omega
    have hke : k = l.length := by omega
    rw [hke, List.take_length] at hz
    by_cases h1 : l.length ≤ 12
    · have h1' : (l.length : Int) ≤ 12 := by omega
      have hz := hz h1
      have hr : fewL l = decide (z ≤ 90) := by unfold fewL; rw [hz, Bool.eq_iff_iff]; simp; omega
      repeat (first | (refine PC.seq fun K hK => ?_) | (refine PC.block ?_) | (refine PC.region ?_) | (refine PL.k rfl fun KK hKK => ?_; simp (disch := omega) [go_sem, stepK, f0, f3, f4, hlt', h1']; refine hKK _ ?_; clear hKK KK) | (refine PL.k rfl fun KK hKK => ?_; simp [go_sem, stepK, f0, f3, f4, hlt', h1']; refine hKK _ ?_; clear hKK KK) | (refine PL.g rfl rfl fun KK hKK => ?_; simp (disch := omega) [go_sem, L.stepG, f0, f3, f4, hlt', h1']; refine hKK _ ?_; clear hKK KK) | (refine PL.g rfl rfl fun KK hKK => ?_; simp [go_sem, L.stepG, f0, f3, f4, hlt', h1']; refine hKK _ ?_; clear hKK KK) | (refine PL.done hK ?_; clear hK) | (refine PC.skip (hK _ _ ?_); clear hK) | (refine PC.condT ?_ ?_; focus (simp [go_sem, f0, f3, f4, hlt', h1']; done)) | (refine PC.condF ?_ ?_; focus (simp [go_sem, f0, f3, f4, hlt', h1']; done)) | (refine PC.exit ?_; first | (refine hK _ _ ?_; clear hK) | (clear hK; refine hK _ _ ?_; clear hK) | (clear hK; clear hK; refine hK _ _ ?_; clear hK)))
      (refine PC.ret ?_; refine fin (.inr rfl) (by simp [resP, resP1, Try.results40, go_sem, hr]) (by simp [go_sem, hr]))
    · have h1' : ¬ (l.length : Int) ≤ 12 := by omega
      repeat (first | (refine PC.seq fun K hK => ?_) | (refine PC.block ?_) | (refine PC.region ?_) | (refine PL.k rfl fun KK hKK => ?_; simp (disch := omega) [go_sem, stepK, f0, f3, f4, hlt', h1']; refine hKK _ ?_; clear hKK KK) | (refine PL.k rfl fun KK hKK => ?_; simp [go_sem, stepK, f0, f3, f4, hlt', h1']; refine hKK _ ?_; clear hKK KK) | (refine PL.g rfl rfl fun KK hKK => ?_; simp (disch := omega) [go_sem, L.stepG, f0, f3, f4, hlt', h1']; refine hKK _ ?_; clear hKK KK) | (refine PL.g rfl rfl fun KK hKK => ?_; simp [go_sem, L.stepG, f0, f3, f4, hlt', h1']; refine hKK _ ?_; clear hKK KK) | (refine PL.done hK ?_; clear hK) | (refine PC.skip (hK _ _ ?_); clear hK) | (refine PC.condT ?_ ?_; focus (simp [go_sem, f0, f3, f4, hlt', h1']; done)) | (refine PC.condF ?_ ?_; focus (simp [go_sem, f0, f3, f4, hlt', h1']; done)) | (refine PC.exit ?_; first | (refine hK _ _ ?_; clear hK) | (clear hK; refine hK _ _ ?_; clear hK) | (clear hK; clear hK; refine hK _ _ ?_; clear hK)))
      have hr : fewL l = false := by unfold fewL; simp; omega
      (refine PC.ret ?_; refine fin (.inr rfl) (by simp [resP, resP1, Try.results40, go_sem, hr]) (by simp [go_sem, hr]))
end Go.Proofs.Ytficeeaaaijgcaa

/-
  FuseLeads, of chapter 12, over pure values.
-/
namespace Go.Proofs.Ytficeeaaaijgcaa
open Go Go.RowKit L
set_option linter.unusedVariables false
set_option linter.unusedSimpArgs false

theorem startN_lenS {n : Net} (hs : NetR n → n.sets.length ≤ 1000) (b : Nat) : (startN n b).length ≤ 4000000 := by have := startN_len2 n b hs; omega
theorem stepN_lenS {n : Net} (hs : NetR n → n.sets.length ≤ 1000) (l : List Int) (b : Nat) : (stepN n l b).length ≤ 4000000 := by have := stepN_len2 n l b hs; omega
theorem runK_lenS {n : Net} (hs : NetR n → n.sets.length ≤ 1000) (w : ByteArray) (k : Nat) : (runK n w k).length ≤ 4000000 := by have := runK_len2 n w k hs; omega
theorem same_refl {l : List Int} (h : l.length ≤ 4000000) : PCall Try.prog 50 [slI l, slI l] (· = B true) := by
  have := ref11Same_ok l l h h
  simpa using this

set_option maxRecDepth 20000 in
set_option maxHeartbeats 4000000 in
theorem FuseLeads_ok (n : Net) (at_ : List Int) (b : Nat) (w : ByteArray) (hn : Nb n) (hnn : ∀ x ∈ n.sets, x.nn) (hb : b < 256) : PCall Try.prog 10 [netV n, slI at_, U8 b, S w] (· = B true) := by
  refine PCall.intro' Try.func10 rfl Try.ntmps10 (by simp) fun W => ?_
  refine PC.seq fun K hK => ?_
  refine PC.region ?_
  refine PL.boxA 1 (d := 4) rfl rfl rfl (by simp) (v := netV n) (by simp [go_sem]) (by simp [go_sem, okC]) rfl fun v H1 b1 o1 => ?_
  have b1 := netBox b1
  repeat (first | (refine PC.seq fun K hK => ?_) | (refine PC.block ?_) | (refine PC.region ?_) | (refine PL.k rfl fun KK hKK => ?_; simp (disch := omega) [go_sem, stepK, b1]; refine hKK _ ?_; clear hKK KK) | (refine PL.k rfl fun KK hKK => ?_; simp [go_sem, stepK, b1]; refine hKK _ ?_; clear hKK KK) | (refine PL.g rfl rfl fun KK hKK => ?_; simp (disch := omega) [go_sem, L.stepG, b1]; refine hKK _ ?_; clear hKK KK) | (refine PL.g rfl rfl fun KK hKK => ?_; simp [go_sem, L.stepG, b1]; refine hKK _ ?_; clear hKK KK) | (refine PL.done hK ?_; clear hK) | (refine PC.skip (hK _ _ ?_); clear hK) | (refine PC.condT ?_ ?_; focus (simp [go_sem, b1]; done)) | (refine PC.condF ?_ ?_; focus (simp [go_sem, b1]; done)) | (refine PC.exit ?_; first | (refine hK _ _ ?_; clear hK) | (clear hK; refine hK _ _ ?_; clear hK) | (clear hK; clear hK; refine hK _ _ ?_; clear hK)))
  (refine PL.callB rfl rfl (by kernel_rfl) (small_ok n hn.f) (by simp [go_sem]) (by simp [go_sem]) (by simp [go_sem]) ?_)
  cases hsm : smallN n
  · repeat (first | (refine PC.seq fun K hK => ?_) | (refine PC.block ?_) | (refine PC.region ?_) | (refine PL.k rfl fun KK hKK => ?_; simp (disch := omega) [go_sem, stepK, hsm]; refine hKK _ ?_; clear hKK KK) | (refine PL.k rfl fun KK hKK => ?_; simp [go_sem, stepK, hsm]; refine hKK _ ?_; clear hKK KK) | (refine PL.g rfl rfl fun KK hKK => ?_; simp (disch := omega) [go_sem, L.stepG, hsm]; refine hKK _ ?_; clear hKK KK) | (refine PL.g rfl rfl fun KK hKK => ?_; simp [go_sem, L.stepG, hsm]; refine hKK _ ?_; clear hKK KK) | (refine PL.done hK ?_; clear hK) | (refine PC.skip (hK _ _ ?_); clear hK) | (refine PC.condT ?_ ?_; focus (simp [go_sem, hsm]; done)) | (refine PC.condF ?_ ?_; focus (simp [go_sem, hsm]; done)) | (refine PC.exit ?_; first | (refine hK _ _ ?_; clear hK) | (clear hK; refine hK _ _ ?_; clear hK) | (clear hK; clear hK; refine hK _ _ ?_; clear hK)))
    (refine PL.callB rfl rfl (by kernel_rfl) (knows12_ok) (by simp [go_sem]) (by simp [go_sem]) (by simp [go_sem]) ?_)
    repeat (first | (refine PC.seq fun K hK => ?_) | (refine PC.block ?_) | (refine PC.region ?_) | (refine PL.k rfl fun KK hKK => ?_; simp (disch := omega) [go_sem, stepK]; refine hKK _ ?_; clear hKK KK) | (refine PL.k rfl fun KK hKK => ?_; simp [go_sem, stepK]; refine hKK _ ?_; clear hKK KK) | (refine PL.g rfl rfl fun KK hKK => ?_; simp (disch := omega) [go_sem, L.stepG]; refine hKK _ ?_; clear hKK KK) | (refine PL.g rfl rfl fun KK hKK => ?_; simp [go_sem, L.stepG]; refine hKK _ ?_; clear hKK KK) | (refine PL.done hK ?_; clear hK) | (refine PC.skip (hK _ _ ?_); clear hK) | (refine PC.condT ?_ ?_; focus (simp [go_sem]; done)) | (refine PC.condF ?_ ?_; focus (simp [go_sem]; done)) | (refine PC.exit ?_; first | (refine hK _ _ ?_; clear hK) | (clear hK; refine hK _ _ ?_; clear hK) | (clear hK; clear hK; refine hK _ _ ?_; clear hK)))
    (refine PC.ret ?_; refine fin (.inr rfl) (by simp [resP, resP1, Try.results10, go_sem]) (by simp [go_sem]))
  by_cases h1 : at_.length ≤ 60
  rotate_left
  · have h1' : (60 : Int) < at_.length := by omega
    repeat (first | (refine PC.seq fun K hK => ?_) | (refine PC.block ?_) | (refine PC.region ?_) | (refine PL.k rfl fun KK hKK => ?_; simp (disch := omega) [go_sem, stepK, hsm, h1']; refine hKK _ ?_; clear hKK KK) | (refine PL.k rfl fun KK hKK => ?_; simp [go_sem, stepK, hsm, h1']; refine hKK _ ?_; clear hKK KK) | (refine PL.g rfl rfl fun KK hKK => ?_; simp (disch := omega) [go_sem, L.stepG, hsm, h1']; refine hKK _ ?_; clear hKK KK) | (refine PL.g rfl rfl fun KK hKK => ?_; simp [go_sem, L.stepG, hsm, h1']; refine hKK _ ?_; clear hKK KK) | (refine PL.done hK ?_; clear hK) | (refine PC.skip (hK _ _ ?_); clear hK) | (refine PC.condT ?_ ?_; focus (simp [go_sem, hsm, h1']; done)) | (refine PC.condF ?_ ?_; focus (simp [go_sem, hsm, h1']; done)) | (refine PC.exit ?_; first | (refine hK _ _ ?_; clear hK) | (clear hK; refine hK _ _ ?_; clear hK) | (clear hK; clear hK; refine hK _ _ ?_; clear hK)))
    (refine PL.callB rfl rfl (by kernel_rfl) (knows12_ok) (by simp [go_sem]) (by simp [go_sem]) (by simp [go_sem]) ?_)
    repeat (first | (refine PC.seq fun K hK => ?_) | (refine PC.block ?_) | (refine PC.region ?_) | (refine PL.k rfl fun KK hKK => ?_; simp (disch := omega) [go_sem, stepK]; refine hKK _ ?_; clear hKK KK) | (refine PL.k rfl fun KK hKK => ?_; simp [go_sem, stepK]; refine hKK _ ?_; clear hKK KK) | (refine PL.g rfl rfl fun KK hKK => ?_; simp (disch := omega) [go_sem, L.stepG]; refine hKK _ ?_; clear hKK KK) | (refine PL.g rfl rfl fun KK hKK => ?_; simp [go_sem, L.stepG]; refine hKK _ ?_; clear hKK KK) | (refine PL.done hK ?_; clear hK) | (refine PC.skip (hK _ _ ?_); clear hK) | (refine PC.condT ?_ ?_; focus (simp [go_sem]; done)) | (refine PC.condF ?_ ?_; focus (simp [go_sem]; done)) | (refine PC.exit ?_; first | (refine hK _ _ ?_; clear hK) | (clear hK; refine hK _ _ ?_; clear hK) | (clear hK; clear hK; refine hK _ _ ?_; clear hK)))
    (refine PC.ret ?_; refine fin (.inr rfl) (by simp [resP, resP1, Try.results10, go_sem]) (by simp [go_sem]))
  have h1' : ¬ (60 : Int) < at_.length := by omega
  by_cases h2 : w.size ≤ 40
  rotate_left
  · have h2' : (40 : Int) < w.size := by omega
    repeat (first | (refine PC.seq fun K hK => ?_) | (refine PC.block ?_) | (refine PC.region ?_) | (refine PL.k rfl fun KK hKK => ?_; simp (disch := omega) [go_sem, stepK, hsm, h1', h2']; refine hKK _ ?_; clear hKK KK) | (refine PL.k rfl fun KK hKK => ?_; simp [go_sem, stepK, hsm, h1', h2']; refine hKK _ ?_; clear hKK KK) | (refine PL.g rfl rfl fun KK hKK => ?_; simp (disch := omega) [go_sem, L.stepG, hsm, h1', h2']; refine hKK _ ?_; clear hKK KK) | (refine PL.g rfl rfl fun KK hKK => ?_; simp [go_sem, L.stepG, hsm, h1', h2']; refine hKK _ ?_; clear hKK KK) | (refine PL.done hK ?_; clear hK) | (refine PC.skip (hK _ _ ?_); clear hK) | (refine PC.condT ?_ ?_; focus (simp [go_sem, hsm, h1', h2']; done)) | (refine PC.condF ?_ ?_; focus (simp [go_sem, hsm, h1', h2']; done)) | (refine PC.exit ?_; first | (refine hK _ _ ?_; clear hK) | (clear hK; refine hK _ _ ?_; clear hK) | (clear hK; clear hK; refine hK _ _ ?_; clear hK)))
    (refine PL.callB rfl rfl (by kernel_rfl) (knows12_ok) (by simp [go_sem]) (by simp [go_sem]) (by simp [go_sem]) ?_)
    repeat (first | (refine PC.seq fun K hK => ?_) | (refine PC.block ?_) | (refine PC.region ?_) | (refine PL.k rfl fun KK hKK => ?_; simp (disch := omega) [go_sem, stepK]; refine hKK _ ?_; clear hKK KK) | (refine PL.k rfl fun KK hKK => ?_; simp [go_sem, stepK]; refine hKK _ ?_; clear hKK KK) | (refine PL.g rfl rfl fun KK hKK => ?_; simp (disch := omega) [go_sem, L.stepG]; refine hKK _ ?_; clear hKK KK) | (refine PL.g rfl rfl fun KK hKK => ?_; simp [go_sem, L.stepG]; refine hKK _ ?_; clear hKK KK) | (refine PL.done hK ?_; clear hK) | (refine PC.skip (hK _ _ ?_); clear hK) | (refine PC.condT ?_ ?_; focus (simp [go_sem]; done)) | (refine PC.condF ?_ ?_; focus (simp [go_sem]; done)) | (refine PC.exit ?_; first | (refine hK _ _ ?_; clear hK) | (clear hK; refine hK _ _ ?_; clear hK) | (clear hK; clear hK; refine hK _ _ ?_; clear hK)))
    (refine PC.ret ?_; refine fin (.inr rfl) (by simp [resP, resP1, Try.results10, go_sem]) (by simp [go_sem]))
  have h2' : ¬ (40 : Int) < w.size := by omega
  have hs := small_few hsm
  repeat (first | (refine PC.seq fun K hK => ?_) | (refine PC.block ?_) | (refine PC.region ?_) | (refine PL.k rfl fun KK hKK => ?_; simp (disch := omega) [go_sem, stepK, hsm, h1', h2']; refine hKK _ ?_; clear hKK KK) | (refine PL.k rfl fun KK hKK => ?_; simp [go_sem, stepK, hsm, h1', h2']; refine hKK _ ?_; clear hKK KK) | (refine PL.g rfl rfl fun KK hKK => ?_; simp (disch := omega) [go_sem, L.stepG, hsm, h1', h2']; refine hKK _ ?_; clear hKK KK) | (refine PL.g rfl rfl fun KK hKK => ?_; simp [go_sem, L.stepG, hsm, h1', h2']; refine hKK _ ?_; clear hKK KK) | (refine PL.done hK ?_; clear hK) | (refine PC.skip (hK _ _ ?_); clear hK) | (refine PC.condT ?_ ?_; focus (simp [go_sem, hsm, h1', h2']; done)) | (refine PC.condF ?_ ?_; focus (simp [go_sem, hsm, h1', h2']; done)) | (refine PC.exit ?_; first | (refine hK _ _ ?_; clear hK) | (clear hK; refine hK _ _ ?_; clear hK) | (clear hK; clear hK; refine hK _ _ ?_; clear hK)))
  refine PC.regionQ mixed (by kernel_rfl) ?_
  repeat (first | (refine QF.k rfl fun KK hKK => ?_; simp (disch := omega) [go_sem, stepK, b1]; refine hKK _ ?_; clear hKK KK) | (refine QF.k rfl fun KK hKK => ?_; simp [go_sem, stepK, b1]; refine hKK _ ?_; clear hKK KK) | (refine QF.g rfl rfl fun KK hKK => ?_; simp (disch := omega) [go_sem, L.stepG, b1]; refine hKK _ ?_; clear hKK KK) | (refine QF.g rfl rfl fun KK hKK => ?_; simp [go_sem, L.stepG, b1]; refine hKK _ ?_; clear hKK KK))
  (refine QF.callB rfl rfl (by kernel_rfl) (fuseRight_ok n hn) (by simp [go_sem]) (by simp [go_sem]) (by simp [go_sem]) ?_)
  repeat (first | (refine QF.k rfl fun KK hKK => ?_; simp (disch := omega) [go_sem, stepK, b1]; refine hKK _ ?_; clear hKK KK) | (refine QF.k rfl fun KK hKK => ?_; simp [go_sem, stepK, b1]; refine hKK _ ?_; clear hKK KK) | (refine QF.g rfl rfl fun KK hKK => ?_; simp (disch := omega) [go_sem, L.stepG, b1]; refine hKK _ ?_; clear hKK KK) | (refine QF.g rfl rfl fun KK hKK => ?_; simp [go_sem, L.stepG, b1]; refine hKK _ ?_; clear hKK KK))
  (refine QF.callB rfl rfl (by kernel_rfl) (refRight_ok n hn) (by simp [go_sem]) (by simp [go_sem]) (by simp [go_sem]) ?_)
  repeat (first | (refine QF.k rfl fun KK hKK => ?_; simp (disch := omega) [go_sem, stepK, b1]; refine hKK _ ?_; clear hKK KK) | (refine QF.k rfl fun KK hKK => ?_; simp [go_sem, stepK, b1]; refine hKK _ ?_; clear hKK KK) | (refine QF.g rfl rfl fun KK hKK => ?_; simp (disch := omega) [go_sem, L.stepG, b1]; refine hKK _ ?_; clear hKK KK) | (refine QF.g rfl rfl fun KK hKK => ?_; simp [go_sem, L.stepG, b1]; refine hKK _ ?_; clear hKK KK))
  (refine QF.callg rfl rfl (by simp [go_sem]) (by simp [dstOk]) (PQ.callB rfl (target_func _ _ _) (by kernel_rfl) (by simp [go_sem]) (by simp [go_sem]) (fuseStart_ok n b hb hn hs hnn)) ?_)
  repeat (first | (refine QF.k rfl fun KK hKK => ?_; simp (disch := omega) [go_sem, stepK, b1]; refine hKK _ ?_; clear hKK KK) | (refine QF.k rfl fun KK hKK => ?_; simp [go_sem, stepK, b1]; refine hKK _ ?_; clear hKK KK) | (refine QF.g rfl rfl fun KK hKK => ?_; simp (disch := omega) [go_sem, L.stepG, b1]; refine hKK _ ?_; clear hKK KK) | (refine QF.g rfl rfl fun KK hKK => ?_; simp [go_sem, L.stepG, b1]; refine hKK _ ?_; clear hKK KK))
  (refine QF.callg rfl rfl (by simp [go_sem]) (by simp [dstOk]) (PQ.callB rfl (target_func _ _ _) (by kernel_rfl) (by simp [go_sem]) (by simp [go_sem]) (refStart_ok n b hb hn hs)) ?_)
  (refine QF.callg rfl rfl (by simp [go_sem]) (by simp [dstOk]) (PQ.callB rfl (target_func _ _ _) (by kernel_rfl) (by simp [go_sem]) (by simp [go_sem]) (same_refl (startN_lenS hs b))) ?_)
  repeat (first | (refine QF.k rfl fun KK hKK => ?_; simp (disch := omega) [go_sem, stepK, b1]; refine hKK _ ?_; clear hKK KK) | (refine QF.k rfl fun KK hKK => ?_; simp [go_sem, stepK, b1]; refine hKK _ ?_; clear hKK KK) | (refine QF.g rfl rfl fun KK hKK => ?_; simp (disch := omega) [go_sem, L.stepG, b1]; refine hKK _ ?_; clear hKK KK) | (refine QF.g rfl rfl fun KK hKK => ?_; simp [go_sem, L.stepG, b1]; refine hKK _ ?_; clear hKK KK))
  (refine QF.callg rfl rfl (by simp [go_sem]) (by simp [dstOk]) (PQ.callB rfl (target_func _ _ _) (by kernel_rfl) (by simp [go_sem]) (by simp [go_sem]) (fuseStep_ok n at_ b hb (by omega) hn hs hnn)) ?_)
  repeat (first | (refine QF.k rfl fun KK hKK => ?_; simp (disch := omega) [go_sem, stepK, b1]; refine hKK _ ?_; clear hKK KK) | (refine QF.k rfl fun KK hKK => ?_; simp [go_sem, stepK, b1]; refine hKK _ ?_; clear hKK KK) | (refine QF.g rfl rfl fun KK hKK => ?_; simp (disch := omega) [go_sem, L.stepG, b1]; refine hKK _ ?_; clear hKK KK) | (refine QF.g rfl rfl fun KK hKK => ?_; simp [go_sem, L.stepG, b1]; refine hKK _ ?_; clear hKK KK))
  (refine QF.callg rfl rfl (by simp [go_sem]) (by simp [dstOk]) (PQ.callB rfl (target_func _ _ _) (by kernel_rfl) (by simp [go_sem]) (by simp [go_sem]) (refStep_ok n at_ b hb (by omega) hn hs)) ?_)
  (refine QF.callg rfl rfl (by simp [go_sem]) (by simp [dstOk]) (PQ.callB rfl (target_func _ _ _) (by kernel_rfl) (by simp [go_sem]) (by simp [go_sem]) (same_refl (stepN_lenS hs at_ b))) ?_)
  repeat (first | (refine QF.k rfl fun KK hKK => ?_; simp (disch := omega) [go_sem, stepK, b1]; refine hKK _ ?_; clear hKK KK) | (refine QF.k rfl fun KK hKK => ?_; simp [go_sem, stepK, b1]; refine hKK _ ?_; clear hKK KK) | (refine QF.g rfl rfl fun KK hKK => ?_; simp (disch := omega) [go_sem, L.stepG, b1]; refine hKK _ ?_; clear hKK KK) | (refine QF.g rfl rfl fun KK hKK => ?_; simp [go_sem, L.stepG, b1]; refine hKK _ ?_; clear hKK KK))
  (refine QF.callg rfl rfl (by simp [go_sem]) (by simp [dstOk]) (PQ.callB rfl (target_func _ _ _) (by kernel_rfl) (by simp [go_sem]) (by simp [go_sem]) (fuseRun_ok n w (by omega) hn hs hnn)) ?_)
  repeat (first | (refine QF.k rfl fun KK hKK => ?_; simp (disch := omega) [go_sem, stepK, b1]; refine hKK _ ?_; clear hKK KK) | (refine QF.k rfl fun KK hKK => ?_; simp [go_sem, stepK, b1]; refine hKK _ ?_; clear hKK KK) | (refine QF.g rfl rfl fun KK hKK => ?_; simp (disch := omega) [go_sem, L.stepG, b1]; refine hKK _ ?_; clear hKK KK) | (refine QF.g rfl rfl fun KK hKK => ?_; simp [go_sem, L.stepG, b1]; refine hKK _ ?_; clear hKK KK))
  (refine QF.callg rfl rfl (by simp [go_sem]) (by simp [dstOk]) (PQ.callB rfl (target_func _ _ _) (by kernel_rfl) (by simp [go_sem]) (by simp [go_sem]) (refRun_ok n w (by omega) hn hs)) ?_)
  (refine QF.callg rfl rfl (by simp [go_sem]) (by simp [dstOk]) (PQ.callB rfl (target_func _ _ _) (by kernel_rfl) (by simp [go_sem]) (by simp [go_sem]) (same_refl (runK_lenS hs w w.size))) ?_)
  repeat (first | (refine QF.k rfl fun KK hKK => ?_; simp (disch := omega) [go_sem, stepK, b1]; refine hKK _ ?_; clear hKK KK) | (refine QF.k rfl fun KK hKK => ?_; simp [go_sem, stepK, b1]; refine hKK _ ?_; clear hKK KK) | (refine QF.g rfl rfl fun KK hKK => ?_; simp (disch := omega) [go_sem, L.stepG, b1]; refine hKK _ ?_; clear hKK KK) | (refine QF.g rfl rfl fun KK hKK => ?_; simp [go_sem, L.stepG, b1]; refine hKK _ ?_; clear hKK KK))
  (refine QF.callg rfl rfl (by simp [go_sem]) (by simp [dstOk]) (PQ.callB rfl (target_func _ _ _) (by kernel_rfl) (by simp [go_sem]) (by simp [go_sem]) (fuseToken_ok n at_ (by omega) hn)) ?_)
  repeat (first | (refine QF.k rfl fun KK hKK => ?_; simp (disch := omega) [go_sem, stepK, b1]; refine hKK _ ?_; clear hKK KK) | (refine QF.k rfl fun KK hKK => ?_; simp [go_sem, stepK, b1]; refine hKK _ ?_; clear hKK KK) | (refine QF.g rfl rfl fun KK hKK => ?_; simp (disch := omega) [go_sem, L.stepG, b1]; refine hKK _ ?_; clear hKK KK) | (refine QF.g rfl rfl fun KK hKK => ?_; simp [go_sem, L.stepG, b1]; refine hKK _ ?_; clear hKK KK))
  (refine QF.callg rfl rfl (by simp [go_sem]) (by simp [dstOk]) (PQ.callB rfl (target_func _ _ _) (by kernel_rfl) (by simp [go_sem]) (by simp [go_sem]) (refToken_ok n at_ (by omega) hn)) ?_)
  repeat (first | (refine QF.k rfl fun KK hKK => ?_; simp (disch := omega) [go_sem, stepK, b1]; refine hKK _ ?_; clear hKK KK) | (refine QF.k rfl fun KK hKK => ?_; simp [go_sem, stepK, b1]; refine hKK _ ?_; clear hKK KK) | (refine QF.g rfl rfl fun KK hKK => ?_; simp (disch := omega) [go_sem, L.stepG, b1]; refine hKK _ ?_; clear hKK KK) | (refine QF.g rfl rfl fun KK hKK => ?_; simp [go_sem, L.stepG, b1]; refine hKK _ ?_; clear hKK KK))
  (refine QF.callg rfl rfl (by simp [go_sem]) (by simp [dstOk]) (PQ.callB rfl (target_func _ _ _) (by kernel_rfl) (by simp [go_sem]) (by simp [go_sem]) (knows12_ok)) ?_)
  repeat (first | (refine QF.k rfl fun KK hKK => ?_; simp (disch := omega) [go_sem, stepK]; refine hKK _ ?_; clear hKK KK) | (refine QF.k rfl fun KK hKK => ?_; simp [go_sem, stepK]; refine hKK _ ?_; clear hKK KK) | (refine QF.g rfl rfl fun KK hKK => ?_; simp (disch := omega) [go_sem, L.stepG]; refine hKK _ ?_; clear hKK KK) | (refine QF.g rfl rfl fun KK hKK => ?_; simp [go_sem, L.stepG]; refine hKK _ ?_; clear hKK KK))
  refine QF.done hK ?_; clear hK
  (refine PC.ret ?_; refine fin (.inr rfl) (by simp [resP, resP1, Try.results10, go_sem]) (by simp [go_sem]))
end Go.Proofs.Ytficeeaaaijgcaa

/-
  From a law's contract (true comes back, nothing that was there has turned) to its row, whatever its parameters' shapes.
-/
namespace Go.Proofs.Ytficeeaaaijgcaa
open Go.ChangeShapes Go.WideShapes Go.ChangeAt Go.RowKit

theorem trodAll_below {H : Type} {enc : TypeId × Value → H} {P : Program} (hl : laidOutB P = true) {W W' : World} (hb : Below W.heap.size W W') :
    ∀ (ts : List TypeId) (vs : List Value) (ds : List (DataW H)) (ps : List MemPlace), (∀ t ∈ ts, P.readableRec t = true ∧ t < P.types.size) → (∀ x ∈ ps, x.block < W.heap.size) →
      DataW.TrodAll enc P W 0 (fun _ => true) true ts vs ds ps → DataW.TrodAll enc P W' 0 (fun b => decide (b < W.heap.size)) true ts vs ds ps
  | [], vs, ds, ps, _, _, h => by
    obtain ⟨rfl, rfl, rfl⟩ := trodAll_nil h
    exact trodAll_mk0
  | t :: ts, vs, ds, ps, hr, hlt, h => by
    obtain ⟨v, vs', d, ds', p, q, rfl, rfl, rfl, h0, h1⟩ := trodAll_cons h
    have ht := hr t (by simp)
    exact trodAll_cons_mk (Below.trod hl ht.1 ht.2 h0 hb fun x hx => hlt x (by simp [hx]))
      (trodAll_below hl hb ts vs' ds' q (fun t ht => hr t (by simp [ht])) (fun x hx => hlt x (by simp [hx])) h1)

/-- A LAW's row, out of its contract. -/
theorem law_post {H : Type} {enc : TypeId × Value → H} {P : Program} {f : Func} {s : ChangeSpec} {tB : TypeId} (hl : laidOutB P = true) (hr : (f.params.toList.all fun t => P.readableRec t && decide (t < P.types.size)) = true)
    (hvars : s.vars = []) (hbool : f.resultTypes = #[tB]) (hB : P.underlying tB = some .bool) {W W' : World} {args : Array Value} {ds gs : List (DataW H)} {before : List MemPlace}
    (hW : DataW.Whole enc P f.params.toList s.vars false W args.toList ds gs before) (hfn : s.fn H ds = { results := [.lit (.bool true)], args := ds }) (hb : Below W.heap.size W W') :
    s.post enc P f false true false false W args (.bool true) W' := by
  have hW' := hW
  obtain ⟨p, q, hA, hV, hbef, _, _⟩ := hW
  rw [hvars] at hV
  obtain ⟨rfl, rfl⟩ := trodVars_none hV
  rw [List.append_nil] at hbef
  subst hbef
  have hlt : ∀ x ∈ before, x.block < W.heap.size := fun x hx => by simpa using hW'.lt x hx
  have hr' : ∀ t ∈ f.params.toList, P.readableRec t = true ∧ t < P.types.size := by
    intro t ht
    have := List.all_eq_true.1 hr t ht
    simpa using this
  refine ⟨ds, [], before, [], before, [], hW', ?_, ?_, ?_, hb.frame _, fun h => by cases h⟩
  · rw [List.append_nil, hfn, hbool]
    exact trodAll_mk1 (shut_bool hB true)
  · rw [List.append_nil, hfn]
    exact trodAll_below hl hb _ _ _ _ hr' hlt hA
  · rw [List.append_nil, hfn, hvars]
    rfl

/-- an argument of type []int, as this family reads it -/
theorem open_I {H : Type} {enc : TypeId × Value → H} {P : Program} {t e : TypeId} {w : World} {base : Nat} {held : Bool} {fuel : Nat} {a0 : Option Addr} {len cap : Nat} {d : DataW H} {p : List MemPlace} (ht : P.underlying t = some (.slice e)) (he : P.underlying e = some (.int .i64)) (hc : P.cellsOf e = 1)
    (hf : DataW.trod enc P w base (fun _ => true) held fuel t (Value.slice a0 len cap).cells.toList = some (d, p)) :
    ∃ l : List Int, RdI w (.slice a0 len cap) l ∧ CapOK (.slice a0 len cap) ∧ ∀ x ∈ l, -9223372036854775808 ≤ x ∧ x ≤ 9223372036854775807 := by
  rcases open_ints ht he hc hf with ⟨hcs, hx⟩ | ⟨a, len', cap', zs, hcs, _, hl, hm, hz, hx, hcell, hwz⟩
  · simp [Value.cells] at hcs
    obtain ⟨rfl, rfl, rfl⟩ := hcs
    exact ⟨[], Rd_nil _ _ _, Nat.le_refl _, fun x hx => by cases hx⟩
  · simp [Value.cells] at hcs
    obtain ⟨rfl, rfl, rfl⟩ := hcs
    simp only [if_true] at hz
    refine ⟨zs.take len, ⟨some a, cap, ?_, fun j hj => ?_⟩, hl, fun x hx => ?_⟩
    · rw [List.length_take, Nat.min_eq_left (by omega)]
    · rw [List.length_take] at hj
      have hcj := hcell j (by omega)
      have hsp := World.cell?_spot (hcell 0 (by omega))
      obtain ⟨b, o, sp⟩ := a
      have hsp' : sp = none := by simpa [Addr.add] using hsp
      subst hsp'
      refine ⟨b, o, rfl, ?_⟩
      rw [add_plain] at hcj
      rw [hcj, List.getElem_take, List.getD_eq_getElem?_getD, List.getElem?_eq_getElem (by omega)]
      rfl
    · have := hwz x (List.mem_of_mem_take hx)
      simpa [Lit.wf, IntKind.min, IntKind.max, IntKind.signed, IntKind.bits] using this
end Go.Proofs.Ytficeeaaaijgcaa

/-
  An argument of type []api.Rx, as the rows read it.
-/
namespace Go.Proofs.Ytficeeaaaijgcaa
open Go Go.RowKit Go.ChangeShapes Go.WideShapes L
set_option linter.unusedVariables false
set_option linter.unusedSimpArgs false

theorem cellsRx : Try.prog.cellsOf 88 = 5 := by kernel_rfl
theorem cellsSetA : Try.prog.cellsOf 28 = 4 := by kernel_rfl
theorem cellsKd : Try.prog.cellsOf 86 = 1 := by kernel_rfl
theorem cellsU64 : Try.prog.cellsOf 26 = 1 := by kernel_rfl

instance : Inhabited Rx := ⟨⟨0, 0, 0, 0, 0⟩⟩
set_option maxRecDepth 20000 in
theorem open_rxcells {H : Type} {enc : TypeId × Value → H} {w : World} {base fuel : Nat} {spare : Nat → Bool} {held : Bool} {cs : List Value} {x : DataW H × List MemPlace} (h : DataW.trod enc Try.prog w base spare held fuel 88 cs = some x) :
    ∃ r : Rx, cs = [.int .i64 r.kind, .int .u64 r.s0, .int .u64 r.s1, .int .u64 r.s2, .int .u64 r.s3] := by
  obtain ⟨xs, n, _, _, hcl, hxl, hf⟩ := DataW.trod_struct Try.underlying88 h
  rw [cellsRx] at hcl
  match cs, hcl with
  | [v0, v1, v2, v3, v4], _ =>
    have g0 := hf 0 _ rfl
    have g1 := hf 1 _ rfl
    have hx2 : xs.length = 2 := hxl
    match xs, hx2 with
    | [y0, y1], _ =>
      simp [cellsKd, cellsSetA] at g0 g1
      obtain ⟨k, hk, _, _⟩ := DataW.trod_int Try.underlying86 g0
      obtain ⟨zs, m, _, _, _, hzl, hz⟩ := DataW.trod_array Try.underlying28 g1
      have e := fun (i : Nat) (hi : i < 4) => hz i hi
      match zs, hzl with
      | [z0, z1, z2, z3], _ =>
        have e0 := e 0 (by decide)
        have e1 := e 1 (by decide)
        have e2 := e 2 (by decide)
        have e3 := e 3 (by decide)
        simp [cellsU64] at e0 e1 e2 e3
        obtain ⟨s0, h0, _, _⟩ := DataW.trod_int Try.underlying26 e0
        obtain ⟨s1, h1, _, _⟩ := DataW.trod_int Try.underlying26 e1
        obtain ⟨s2, h2, _, _⟩ := DataW.trod_int Try.underlying26 e2
        obtain ⟨s3, h3, _, _⟩ := DataW.trod_int Try.underlying26 e3
        simp at hk h0 h1 h2 h3
        subst hk h0 h1 h2 h3
        exact ⟨⟨k, s0, s1, s2, s3⟩, rfl⟩

theorem open_Rx {H : Type} {enc : TypeId × Value → H} {w : World} {base fuel : Nat} {spare : Nat → Bool} {held : Bool} {a0 : Option Addr} {len cap : Nat} {d : DataW H} {p : List MemPlace}
    (h : DataW.trod enc Try.prog w base spare held fuel 22 (Value.slice a0 len cap).cells.toList = some (d, p)) :
    ∃ l : List Rx, Rp (fun _ => False) PHeap.empty V0 w (slX l) (.slice a0 len cap) := by
  rcases Go.Deep.open_slice Try.underlying22 h with ⟨hcs, _⟩ | ⟨a, len', cap', m, n, D, Pl, hcs, hb, hl, hm, hmm, _, hx⟩
  · simp [Value.cells] at hcs
    obtain ⟨rfl, rfl, rfl⟩ := hcs
    exact ⟨[], .nil _ _ _⟩
  · simp [Value.cells] at hcs
    obtain ⟨rfl, rfl, rfl⟩ := hcs
    have hlm : len ≤ m := by rw [hmm]; split <;> omega
    by_cases h0 : len = 0
    · subst h0; exact ⟨[], .nil _ _ _⟩
    have each : ∀ i, i < m → ∃ r : Rx, w.cell? (a.add (i * 5)) = some (.int .i64 r.kind) ∧ w.cell? (a.add (i * 5 + 1)) = some (.int .u64 r.s0) ∧ w.cell? (a.add (i * 5 + 2)) = some (.int .u64 r.s1) ∧ w.cell? (a.add (i * 5 + 3)) = some (.int .u64 r.s2) ∧ w.cell? (a.add (i * 5 + 4)) = some (.int .u64 r.s3) := fun i hi => by
      obtain ⟨cs', h1, h2⟩ := hx i hi
      rw [cellsRx] at h1
      obtain ⟨_, hlen, hcell⟩ := World.cells?_some h1
      obtain ⟨r, rfl⟩ := open_rxcells h2
      have e0 := hcell 0 (by decide)
      have e1 := hcell 1 (by decide)
      have e2 := hcell 2 (by decide)
      have e3 := hcell 3 (by decide)
      have e4 := hcell 4 (by decide)
      rw [Go.Deep.add_add] at e0 e1 e2 e3 e4
      exact ⟨r, e0, e1, e2, e3, e4⟩
    obtain ⟨q, hq⟩ := Go.Deep.choose_lt each
    obtain ⟨b, o, spot⟩ := a
    have hspot : spot = none := by
      have := (hq 0 (by omega)).1
      simpa [Addr.add] using World.cell?_spot this
    subst hspot
    have hbl : b < w.heap.size := by
      have := (hq 0 (by omega)).1
      unfold World.cell? at this
      by_cases hlt : b < w.heap.size
      · exact hlt
      · simp [Addr.add, Array.getElem?_eq_none (by omega : w.heap.size ≤ b)] at this
    refine ⟨(List.range len).map q, ?_⟩
    have hu : ∀ y ∈ ((List.range len).map q).map encX, y.cells.length = 5 := fun y hy => by obtain ⟨z, _, rfl⟩ := List.mem_map.1 hy; rfl
    have hlx : (((List.range len).map q).map encX).length = len := by simp
    have hfl : ∀ (xs : List PV), (∀ y ∈ xs, y.cells.length = 5) → (xs.flatMap PV.cells).length = xs.length * 5 := fun xs hxs => flat_length xs hxs
    have key : ∀ (i : Nat) (p : PV), ((((List.range len).map q).map encX).flatMap PV.cells)[i]? = some p → ∃ v, p = .u v ∧ w.cell? ⟨b, o + i, none⟩ = some v := fun i p hp => by
      have hi : i < len * 5 := by
        have := (List.getElem?_eq_some_iff.1 hp).1
        rw [hfl _ hu, hlx] at this
        exact this
      have hj : i / 5 < len := by omega
      have hk : i % 5 < 5 := by omega
      have hy : (((List.range len).map q).map encX)[i / 5]? = some (encX (q (i / 5))) := by simp [hj]
      have e := flat_at hu (i / 5) (i % 5) _ hy hk
      rw [show i / 5 * 5 + i % 5 = i by omega, hp] at e
      obtain ⟨c0, c1, c2, c3, c4⟩ := hq (i / 5) (by omega)
      have hadd : ∀ k, w.cell? ((⟨b, o, none⟩ : Addr).add k) = w.cell? ⟨b, o + k, none⟩ := fun k => by rw [addr_add]
      rw [hadd] at c0 c1 c2 c3 c4
      have h5 : i % 5 = 0 ∨ i % 5 = 1 ∨ i % 5 = 2 ∨ i % 5 = 3 ∨ i % 5 = 4 := by omega
      rcases h5 with h5 | h5 | h5 | h5 | h5 <;> rw [h5] at e <;> simp [encX, PV.cells] at e <;> subst e
      · exact ⟨_, rfl, by rw [show o + i = o + i / 5 * 5 by omega]; exact c0⟩
      · exact ⟨_, rfl, by rw [show o + i = o + (i / 5 * 5 + 1) by omega]; exact c1⟩
      · exact ⟨_, rfl, by rw [show o + i = o + (i / 5 * 5 + 2) by omega]; exact c2⟩
      · exact ⟨_, rfl, by rw [show o + i = o + (i / 5 * 5 + 3) by omega]; exact c3⟩
      · exact ⟨_, rfl, by rw [show o + i = o + (i / 5 * 5 + 4) by omega]; exact c4⟩
    have hsl := Rp.sl (Z := fun _ => False) (H := PHeap.empty) (V := V0) (w := w) 5 (((List.range len).map q).map encX) b o cap (fun i => (w.cell? ⟨b, o + i, none⟩).getD undef) hu (by simpa using hl) (fun h => (pz_empty.1 h).elim) hbl
      (fun i p hp => by obtain ⟨v, _, hv⟩ := key i p hp; rw [hv]; rfl) (fun i p hp => by obtain ⟨v, rfl, hv⟩ := key i p hp; simp only [hv, Option.getD_some]; exact .u v)
    rwa [hlx] at hsl

/-- a law's contract over pure values, as a row takes it -/
theorem law_calls {f : FuncId} {qs : List PV} (h : PCall Try.prog f qs (· = B true)) {w : World} {vs : List Value} (hr : RpL (fun _ => False) PHeap.empty V0 w qs vs) : Calls Try.prog f vs.toArray w fun e w' => e = .returned (.bool true) ∧ Below w.heap.size w w' :=
  (h (fun _ => False) w vs (fun b hb => hb.elim) hr).mono fun e w' ⟨v, p, he, hp, _, hR, hb⟩ => by
    subst hp
    rw [rpu hR] at he
    exact ⟨he, hb⟩
theorem rpl_nil {Z : Nat → Prop} {H : PHeap} {V : Nat → Value} {w : World} : RpL Z H V w [] [] := ⟨rfl, fun i p v h => by simp at h⟩
theorem rpl_cons {Z : Nat → Prop} {H : PHeap} {V : Nat → Value} {w : World} {p : PV} {v : Value} {ps : List PV} {vs : List Value} (h : Rp Z H V w p v) (hs : RpL Z H V w ps vs) : RpL Z H V w (p :: ps) (v :: vs) := ⟨by simp [hs.1], fun i a b h1 h2 => by
  cases i with
  | zero => simp at h1 h2; subst h1; subst h2; exact h
  | succ i => exact hs.2 i a b (by simpa using h1) (by simpa using h2)⟩
section
variable {P : Program} {H : Type} {enc : TypeId × Value → H} {w : World} {base b0 : Nat} {spare : Nat → Bool} {held : Bool}
theorem open_string {r : Reach} {t : TypeId} {v : Value} {d : DataW H} {ps : List MemPlace} (ht : P.underlying t = some .string) (hval : Value.okWide P w r b0 t v) (hd : DataW.Trod enc P w base spare held t v d ps) :
    ∃ s : ByteArray, v = .string s ∧ d = .lit (.string s.data.toList) ∧ ps = [] ∧ s.size ≤ maxLen := by
  obtain ⟨s, rfl⟩ := Go.WideShapes.okWide_string ht hval
  obtain ⟨fuel, hf⟩ := hd
  cases fuel with
  | zero => simp [DataW.trod] at hf
  | succ n =>
    simp [DataW.trod, ht, Value.cells] at hf
    obtain ⟨h1, h2, h3⟩ := hf
    exact ⟨s, rfl, h2.symm, h3, h1⟩
end
end Go.Proofs.Ytficeeaaaijgcaa

/-
  Arguments of types made of lists, as the rows read them: lists of whatever elements, nets, tokens.
-/
namespace Go.Proofs.Ytficeeaaaijgcaa
open Go Go.RowKit Go.ChangeShapes Go.WideShapes L
set_option linter.unusedVariables false
set_option linter.unusedSimpArgs false

abbrev F0 : Nat → Prop := fun _ => False
section
variable {P : Program} {H : Type} {enc : TypeId × Value → H} {w : World} {base : Nat} {spare : Nat → Bool} {held : Bool}
theorem open_sl {α : Type} [Inhabited α] {t e : TypeId} {k : Nat} (rep : α → PV) (C : α → Prop) (ht : P.underlying t = some (.slice e)) (hk : P.cellsOf e = k) (hpos : 0 < k) (hcell : ∀ a, (rep a).cells.length = k)
    (helem : ∀ (n : Nat) (cs' : List Value) (x : DataW H × List MemPlace), DataW.trod enc P w base spare held n e cs' = some x → ∃ a, RpL F0 PHeap.empty V0 w (rep a).cells cs' ∧ C a) {fuel : Nat} {cs : List Value} {x : DataW H × List MemPlace} (h : DataW.trod enc P w base spare held fuel t cs = some x) :
    ∃ (l : List α) (v : Value), cs = [v] ∧ Rp F0 PHeap.empty V0 w (.sl k (l.map rep)) v ∧ l.length ≤ maxLen ∧ ∀ a ∈ l, C a := by
  rcases Go.Deep.open_slice ht h with ⟨hcs, _⟩ | ⟨a, len, cap, m, n, D, Pl, hcs, hb, hl, hm, hmm, _, hx⟩
  · exact ⟨[], _, hcs, .nil _ _ _, Nat.zero_le _, fun a ha => by cases ha⟩
  · have hlm : len ≤ m := by rw [hmm]; split <;> omega
    by_cases h0 : len = 0
    · subst h0; exact ⟨[], _, hcs, .nil _ _ _, Nat.zero_le _, fun a ha => by cases ha⟩
    have each : ∀ i, i < m → ∃ q : α, (∀ r, r < k → ∃ u p, w.cell? (a.add (i * k + r)) = some u ∧ (rep q).cells[r]? = some p ∧ Rp F0 PHeap.empty V0 w p u) ∧ C q := fun i hi => by
      obtain ⟨cs', h1, h2⟩ := hx i hi
      rw [hk] at h1
      obtain ⟨_, hlen, hcl⟩ := World.cells?_some h1
      obtain ⟨q, hq, hC⟩ := helem n cs' _ h2
      refine ⟨q, fun r hr => ?_, hC⟩
      have e0 := hcl r hr
      rw [Go.Deep.add_add] at e0
      have h3 : r < cs'.length := by omega
      have h4 : r < (rep q).cells.length := by rw [hcell]; exact hr
      rw [List.getElem?_eq_getElem h3] at e0
      exact ⟨_, _, e0, List.getElem?_eq_getElem h4, hq.2 r _ _ (List.getElem?_eq_getElem h4) (List.getElem?_eq_getElem h3)⟩
    obtain ⟨q, hq⟩ := Go.Deep.choose_lt each
    obtain ⟨b, o, spot⟩ := a
    obtain ⟨u0, _, hu0, _, _⟩ := (hq 0 (by omega)).1 0 hpos
    have hspot : spot = none := by simpa [Addr.add] using World.cell?_spot hu0
    subst hspot
    have hbl : b < w.heap.size := by
      unfold World.cell? at hu0
      by_cases hlt : b < w.heap.size
      · exact hlt
      · simp [Addr.add, Array.getElem?_eq_none (by omega : w.heap.size ≤ b)] at hu0
    refine ⟨(List.range len).map q, _, hcs, ?_, by simp; omega, fun z hz => by obtain ⟨i, hi, rfl⟩ := List.mem_map.1 hz; exact (hq i (by have := List.mem_range.1 hi; omega)).2⟩
    have hu : ∀ y ∈ ((List.range len).map q).map rep, y.cells.length = k := fun y hy => by obtain ⟨z, _, rfl⟩ := List.mem_map.1 hy; exact hcell z
    have hlx : (((List.range len).map q).map rep).length = len := by simp
    have hadd : ∀ k, w.cell? ((⟨b, o, none⟩ : Addr).add k) = w.cell? ⟨b, o + k, none⟩ := fun k => by rw [addr_add]
    have key : ∀ (i : Nat) (p : PV), ((((List.range len).map q).map rep).flatMap PV.cells)[i]? = some p → ∃ v, w.cell? ⟨b, o + i, none⟩ = some v ∧ Rp F0 PHeap.empty V0 w p v := fun i p hp => by
      have hi : i < len * k := by
        have := (List.getElem?_eq_some_iff.1 hp).1
        rw [L.flat_length _ hu, hlx] at this
        exact this
      have hj : i / k < len := by rw [Nat.div_lt_iff_lt_mul hpos]; exact hi
      have hr : i % k < k := Nat.mod_lt _ hpos
      have hy : (((List.range len).map q).map rep)[i / k]? = some (rep (q (i / k))) := by simp [hj]
      have e := flat_at hu (i / k) (i % k) _ hy hr
      have hdm : i / k * k + i % k = i := by rw [Nat.mul_comm]; exact Nat.div_add_mod i k
      rw [hdm, hp] at e
      obtain ⟨u, p', h1, h2, h3⟩ := (hq (i / k) (by omega)).1 (i % k) hr
      rw [← e] at h2
      cases h2
      rw [hadd, hdm] at h1
      exact ⟨u, h1, h3⟩
    have hsl := Rp.sl (Z := F0) (H := PHeap.empty) (V := V0) (w := w) k (((List.range len).map q).map rep) b o cap (fun i => (w.cell? ⟨b, o + i, none⟩).getD undef) hu (by simpa using hl) (fun h => (pz_empty.1 h).elim) hbl
      (fun i p hp => by obtain ⟨v, hv, _⟩ := key i p hp; rw [hv]; rfl) (fun i p hp => by obtain ⟨v, hv, hr⟩ := key i p hp; simp only [hv, Option.getD_some]; exact hr)
    rwa [hlx] at hsl
theorem rpl_one {p : PV} {v : Value} (h : Rp F0 PHeap.empty V0 w p v) : RpL F0 PHeap.empty V0 w [p] [v] := rpl_cons h rpl_nil
end

section
variable {H : Type} {enc : TypeId × Value → H} {w : World} {base : Nat} {spare : Nat → Bool} {held : Bool}
theorem cInt : Try.prog.cellsOf 3 = 1 := by kernel_rfl
theorem cBool : Try.prog.cellsOf 4 = 1 := by kernel_rfl
theorem cInts : Try.prog.cellsOf 30 = 1 := by kernel_rfl
theorem cBools : Try.prog.cellsOf 51 = 1 := by kernel_rfl
theorem cLists : Try.prog.cellsOf 44 = 1 := by kernel_rfl
theorem cSets : Try.prog.cellsOf 24 = 1 := by kernel_rfl
theorem cRxs : Try.prog.cellsOf 22 = 1 := by kernel_rfl
theorem cNet : Try.prog.cellsOf 61 = 5 := by kernel_rfl
theorem cTok : Try.prog.cellsOf 68 = 3 := by kernel_rfl
theorem cStr : Try.prog.cellsOf 9 = 1 := by kernel_rfl
theorem cCls : Try.prog.cellsOf 66 = 1 := by kernel_rfl

theorem open_ints2 {fuel : Nat} {cs : List Value} {x : DataW H × List MemPlace} (h : DataW.trod enc Try.prog w base spare held fuel 30 cs = some x) :
    ∃ (l : List Int) (v : Value), cs = [v] ∧ Rp F0 PHeap.empty V0 w (slI l) v ∧ l.length ≤ maxLen ∧ ∀ a ∈ l, True :=
  open_sl I (fun _ => True) Try.underlying30 cInt (by decide) (fun _ => rfl) (fun n cs' x h => by
    obtain ⟨z, rfl, _, _⟩ := DataW.trod_int Try.underlying3 h
    exact ⟨z, rpl_one (.u _), trivial⟩) h
theorem open_bools2 {fuel : Nat} {cs : List Value} {x : DataW H × List MemPlace} (h : DataW.trod enc Try.prog w base spare held fuel 51 cs = some x) :
    ∃ (l : List Bool) (v : Value), cs = [v] ∧ Rp F0 PHeap.empty V0 w (slB l) v ∧ l.length ≤ maxLen ∧ ∀ a ∈ l, True :=
  open_sl B (fun _ => True) Try.underlying51 cBool (by decide) (fun _ => rfl) (fun n cs' x h => by
    obtain ⟨z, rfl, _⟩ := DataW.trod_bool Try.underlying4 h
    exact ⟨z, rpl_one (.u _), trivial⟩) h
theorem open_lists2 {fuel : Nat} {cs : List Value} {x : DataW H × List MemPlace} (h : DataW.trod enc Try.prog w base spare held fuel 44 cs = some x) :
    ∃ (l : List (List Int)) (v : Value), cs = [v] ∧ Rp F0 PHeap.empty V0 w (slLL l) v ∧ l.length ≤ maxLen ∧ ∀ a ∈ l, a.length ≤ maxLen :=
  open_sl slI (fun a => a.length ≤ maxLen) Try.underlying44 cInts (by decide) (fun _ => rfl) (fun n cs' x h => by
    obtain ⟨l, v, rfl, hr, hl, _⟩ := open_ints2 h
    exact ⟨l, rpl_one hr, hl⟩) h
set_option maxRecDepth 20000 in
theorem open_setcells {fuel : Nat} {cs : List Value} {x : DataW H × List MemPlace} (h : DataW.trod enc Try.prog w base spare held fuel 28 cs = some x) : ∃ s0 s1 s2 s3 : Int, cs = [.int .u64 s0, .int .u64 s1, .int .u64 s2, .int .u64 s3] ∧ 0 ≤ s0 ∧ 0 ≤ s1 ∧ 0 ≤ s2 ∧ 0 ≤ s3 := by
  obtain ⟨zs, m, _, _, hcl, hzl, hz⟩ := DataW.trod_array Try.underlying28 h
  rw [cellsSetA] at hcl
  match cs, hcl with
  | [v0, v1, v2, v3], _ =>
    have e := fun (i : Nat) (hi : i < 4) => hz i hi
    match zs, hzl with
    | [z0, z1, z2, z3], _ =>
      have e0 := e 0 (by decide)
      have e1 := e 1 (by decide)
      have e2 := e 2 (by decide)
      have e3 := e 3 (by decide)
      simp [cellsU64] at e0 e1 e2 e3
      obtain ⟨s0, h0, _, w0⟩ := DataW.trod_int Try.underlying26 e0
      obtain ⟨s1, h1, _, w1⟩ := DataW.trod_int Try.underlying26 e1
      obtain ⟨s2, h2, _, w2⟩ := DataW.trod_int Try.underlying26 e2
      obtain ⟨s3, h3, _, w3⟩ := DataW.trod_int Try.underlying26 e3
      simp at h0 h1 h2 h3
      subst h0 h1 h2 h3
      simp [Lit.wf, IntKind.min, IntKind.max, IntKind.signed, IntKind.bits] at w0 w1 w2 w3
      exact ⟨s0, s1, s2, s3, rfl, w0.1, w1.1, w2.1, w3.1⟩
theorem open_sets2 {fuel : Nat} {cs : List Value} {x : DataW H × List MemPlace} (h : DataW.trod enc Try.prog w base spare held fuel 24 cs = some x) :
    ∃ (l : List Rx) (v : Value), cs = [v] ∧ Rp F0 PHeap.empty V0 w (slS l) v ∧ l.length ≤ maxLen ∧ ∀ a ∈ l, a.nn :=
  open_sl encS Rx.nn Try.underlying24 cellsSetA (by decide) (fun _ => rfl) (fun n cs' x h => by
    obtain ⟨s0, s1, s2, s3, rfl, h0, h1, h2, h3⟩ := open_setcells h
    exact ⟨⟨0, s0, s1, s2, s3⟩, rpl_cons (.u _) (rpl_cons (.u _) (rpl_cons (.u _) (rpl_cons (.u _) rpl_nil))), h0, h1, h2, h3⟩) h

theorem rpl_get5 {a b c d e : PV} {v0 v1 v2 v3 v4 : Value} (h0 : Rp F0 PHeap.empty V0 w a v0) (h1 : Rp F0 PHeap.empty V0 w b v1) (h2 : Rp F0 PHeap.empty V0 w c v2) (h3 : Rp F0 PHeap.empty V0 w d v3) (h4 : Rp F0 PHeap.empty V0 w e v4) : RpL F0 PHeap.empty V0 w [a, b, c, d, e] [v0, v1, v2, v3, v4] :=
  rpl_cons h0 (rpl_cons h1 (rpl_cons h2 (rpl_cons h3 (rpl_cons h4 rpl_nil))))
set_option maxRecDepth 20000 in
theorem open_Net {r : Reach} {b0 : Nat} {v : Value} {d : DataW H} {ps : List MemPlace} (hval : Value.okWide Try.prog w r b0 61 v) (hd : DataW.Trod enc Try.prog w base spare held 61 v d ps) :
    ∃ n : Net, Rp F0 PHeap.empty V0 w (netV n) v ∧ Nb n ∧ ∀ x ∈ n.sets, x.nn := by
  obtain ⟨cs, rfl, hsz⟩ := Go.WideShapes.okWide_struct Try.underlying61 hval
  obtain ⟨fuel, h⟩ := hd
  obtain ⟨xs, n, _, _, hcl, hxl, hf⟩ := DataW.trod_struct Try.underlying61 h
  rw [cNet] at hcl
  have hcl : cs.toList.length = 5 := hcl
  have hf : ∀ (i : Nat) (f : Field), _ → DataW.trod enc Try.prog w base spare held n f.type ((cs.toList.drop f.offset).take (Try.prog.cellsOf f.type)) = xs[i]? := hf
  obtain ⟨cl⟩ := cs
  match cl, hcl with
  | [v0, v1, v2, v3, v4], _ =>
    have g0 := hf 0 _ rfl
    have g1 := hf 1 _ rfl
    have g2 := hf 2 _ rfl
    have g3 := hf 3 _ rfl
    have g4 := hf 4 _ rfl
    have hx2 : xs.length = 5 := hxl
    match xs, hx2 with
    | [y0, y1, y2, y3, y4], _ =>
      simp [cSets, cInts, cBools, cLists] at g0 g1 g2 g3 g4
      obtain ⟨l0, u0, e0, r0, n0, c0⟩ := open_sets2 g0
      obtain ⟨l1, u1, e1, r1, n1, c1⟩ := open_ints2 g1
      obtain ⟨l2, u2, e2, r2, n2, c2⟩ := open_bools2 g2
      obtain ⟨l3, u3, e3, r3, n3, c3⟩ := open_lists2 g3
      obtain ⟨l4, u4, e4, r4, n4, c4⟩ := open_ints2 g4
      simp at e0 e1 e2 e3 e4
      subst e0 e1 e2 e3 e4
      have hL := rpl_get5 r0 r1 r2 r3 r4
      refine ⟨⟨l0, l1, l2, l3, l4⟩, .agg _ _ rfl fun i p u h1 h2 => hL.2 i p u h1 (by simpa using h2), ⟨?_, ?_, ?_, ?_, ?_, ?_⟩, c0⟩
      all_goals simp only [maxLen] at *
      · omega
      · omega
      · omega
      · omega
      · intro x hx; have := c3 x hx; omega
      · omega
end
theorem byte_of {n : Int} (h : (Lit.int .u8 n).wf = true) : ∃ b : Nat, n = (b : Int) ∧ b < 256 := by
  simp [Lit.wf, IntKind.min, IntKind.max, IntKind.signed, IntKind.bits] at h
  exact ⟨n.toNat, by omega, by omega⟩
end Go.Proofs.Ytficeeaaaijgcaa
