/-
  Texts of this proof, put together: Sd3, Row, OpX.
-/
import Derived.ProofKit
import Derived.OpenShut
import Derived.Deep.Slices
import Derived.Test.YtficeeaaaijgcaaQ4SpotWords

/-
  SpotWords, of chapter 10, over pure values.
-/
namespace Go.Proofs.Ytficeeaaaijgcaa
open Go Go.RowKit L
set_option linter.unusedVariables false
set_option linter.unusedSimpArgs false

@[go_sem] theorem NoP_slX (l : List Rx) : NoP (slX l) = True := eq_true (slX_noP l)
@[go_sem] theorem NoP_slI (l : List Int) : NoP (slI l) = True := eq_true (noP_slI l)
@[go_sem] theorem NoP_slS (l : List Rx) : NoP (slS l) = True := eq_true (slS_noP l)
@[go_sem] theorem lenP_slI (H : PHeap) (l : List Int) : lenP Try.prog H 30 (slI l) = some (I l.length) := by simp [slI, go_sem]
@[go_sem] theorem indexAddrP_slI (H : PHeap) (l : List Int) (z : Int) (h0 : 0 ≤ z) : indexAddrP Try.prog H 30 (slI l) (I z) = (l[z.toNat]?).elim none fun y => some (.rp [I y]) := by
  rw [slI, indexAddrP_sl esz_30 _ _ h0, List.getElem?_map]
  cases l[z.toNat]? <;> rfl
theorem encS_noP (x : Rx) : NoP (encS x) := .agg _ fun c hc => by simp [encS] at hc; rcases hc with rfl | rfl | rfl | rfl <;> exact .u _
theorem set_at {e : E} {x : Int} (h : 0 ≤ x ∧ x < nset e) : ∃ y, (setsT e)[x.toNat]? = some y ∧ ∀ b, hasI (setsT e) x b = hasS y b := by
  have hl : x.toNat < (setsT e).length := by rw [setsT_len]; omega
  refine ⟨(setsT e)[x.toNat], List.getElem?_eq_getElem hl, fun b => ?_⟩
  unfold hasI
  simp [List.getD, hl]
def ownI (H : PHeap) (id v : Nat) (l : List Int) : Prop := H id = ⟨v, some (.row 3 1 l.length (l.map I))⟩
theorem flatMap_take {l : List Int} {f : Int → List Int} {j : Nat} (h : j < l.length) : (l.take (j + 1)).flatMap f = (l.take j).flatMap f ++ f l[j] := by
  rw [List.take_succ_eq_append_getElem h, List.flatMap_append]; simp
theorem flat_len {N : Nat} (l : List Int) (f : Int → List Int) (h : ∀ x, (f x).length ≤ N) : (l.flatMap f).length ≤ l.length * N := by
  induction l with
  | nil => simp
  | cons x l ih => rw [List.flatMap_cons, List.length_append, List.length_cons, Nat.add_mul]; have := h x; omega
theorem mapI_cells (l : List Int) : (l.map I).flatMap PV.cells = l.map I := by
  induction l with
  | nil => rfl
  | cons m ms ih => rw [List.map_cons, List.flatMap_cons, ih]; rfl
theorem srcI (H : PHeap) (l : List Int) : srcP H 1 (slI l) = some (l.length, l.map I) := by rw [slI, srcP, mapI_cells]; simp
theorem leafIs (H : PHeap) (l : List Int) : ∀ p ∈ l.map I, leafOk H p = true := fun p hp => by obtain ⟨y, _, rfl⟩ := List.mem_map.1 hp; rfl
theorem ownI.view {H : PHeap} {id v : Nat} {l : List Int} (h : ownI H id v l) : View H (.ps id v) (slI l) :=
  View.row1 (t := 3) (n := l.length) (by simp [liveRow, show H id = _ from h]) (by simp) fun c hc => by obtain ⟨q, _, rfl⟩ := List.mem_map.1 hc; exact ⟨.u _, rfl⟩

set_option maxRecDepth 20000 in
set_option maxHeartbeats 4000000 in
theorem SpotWords_ok (l : List Rx) (w : ByteArray) : PCall Try.prog 4 [slX l, S w] (· = B true) := by
  have nX := slX_noP l
  have hlenX : ∀ H, lenP Try.prog H 22 (slX l) = some (I l.length) := fun H => by simp [slX, go_sem]
  refine PCall.intro' Try.func4 rfl Try.ntmps4 (by simp) fun W => ?_
  by_cases h1 : l.length ≤ 60
  rotate_left
  · have h1' : (60 : Int) < l.length := by omega
    repeat (first | (refine PC.seq fun K hK => ?_) | (refine PC.block ?_) | (refine PC.region ?_) | (refine PL.k rfl fun KK hKK => ?_; simp (disch := omega) [go_sem, stepK, hlenX, h1']; refine hKK _ ?_; clear hKK KK) | (refine PL.k rfl fun KK hKK => ?_; simp [go_sem, stepK, hlenX, h1']; refine hKK _ ?_; clear hKK KK) | (refine PL.g rfl rfl fun KK hKK => ?_; simp (disch := omega) [go_sem, L.stepG, hlenX, h1']; refine hKK _ ?_; clear hKK KK) | (refine PL.g rfl rfl fun KK hKK => ?_; simp [go_sem, L.stepG, hlenX, h1']; refine hKK _ ?_; clear hKK KK) | (refine PL.done hK ?_; clear hK) | (refine PC.skip (hK _ _ ?_); clear hK) | (refine PC.condT ?_ ?_; focus (simp [go_sem, hlenX, h1']; done)) | (refine PC.condF ?_ ?_; focus (simp [go_sem, hlenX, h1']; done)) | (refine PC.exit ?_; first | (refine hK _ _ ?_; clear hK) | (clear hK; refine hK _ _ ?_; clear hK) | (clear hK; clear hK; refine hK _ _ ?_; clear hK)))
    refine PL.callB rfl rfl (by kernel_rfl) knows10_ok (by simp [go_sem]) (by simp [go_sem]) (by simp [go_sem]) ?_
    repeat (first | (refine PC.seq fun K hK => ?_) | (refine PC.block ?_) | (refine PC.region ?_) | (refine PL.k rfl fun KK hKK => ?_; simp (disch := omega) [go_sem, stepK]; refine hKK _ ?_; clear hKK KK) | (refine PL.k rfl fun KK hKK => ?_; simp [go_sem, stepK]; refine hKK _ ?_; clear hKK KK) | (refine PL.g rfl rfl fun KK hKK => ?_; simp (disch := omega) [go_sem, L.stepG]; refine hKK _ ?_; clear hKK KK) | (refine PL.g rfl rfl fun KK hKK => ?_; simp [go_sem, L.stepG]; refine hKK _ ?_; clear hKK KK) | (refine PL.done hK ?_; clear hK) | (refine PC.skip (hK _ _ ?_); clear hK) | (refine PC.condT ?_ ?_; focus (simp [go_sem]; done)) | (refine PC.condF ?_ ?_; focus (simp [go_sem]; done)) | (refine PC.exit ?_; first | (refine hK _ _ ?_; clear hK) | (clear hK; refine hK _ _ ?_; clear hK) | (clear hK; clear hK; refine hK _ _ ?_; clear hK)))
    (refine PC.ret ?_; refine fin (.inr rfl) (by simp [resP, resP1, Try.results4, go_sem]) (by simp [go_sem]))
  have h1' : ¬ (60 : Int) < l.length := by omega
  by_cases h2 : w.size ≤ 30
  rotate_left
  · have h2' : (30 : Int) < w.size := by omega
    repeat (first | (refine PC.seq fun K hK => ?_) | (refine PC.block ?_) | (refine PC.region ?_) | (refine PL.k rfl fun KK hKK => ?_; simp (disch := omega) [go_sem, stepK, hlenX, h1', h2']; refine hKK _ ?_; clear hKK KK) | (refine PL.k rfl fun KK hKK => ?_; simp [go_sem, stepK, hlenX, h1', h2']; refine hKK _ ?_; clear hKK KK) | (refine PL.g rfl rfl fun KK hKK => ?_; simp (disch := omega) [go_sem, L.stepG, hlenX, h1', h2']; refine hKK _ ?_; clear hKK KK) | (refine PL.g rfl rfl fun KK hKK => ?_; simp [go_sem, L.stepG, hlenX, h1', h2']; refine hKK _ ?_; clear hKK KK) | (refine PL.done hK ?_; clear hK) | (refine PC.skip (hK _ _ ?_); clear hK) | (refine PC.condT ?_ ?_; focus (simp [go_sem, hlenX, h1', h2']; done)) | (refine PC.condF ?_ ?_; focus (simp [go_sem, hlenX, h1', h2']; done)) | (refine PC.exit ?_; first | (refine hK _ _ ?_; clear hK) | (clear hK; refine hK _ _ ?_; clear hK) | (clear hK; clear hK; refine hK _ _ ?_; clear hK)))
    refine PL.callB rfl rfl (by kernel_rfl) knows10_ok (by simp [go_sem]) (by simp [go_sem]) (by simp [go_sem]) ?_
    repeat (first | (refine PC.seq fun K hK => ?_) | (refine PC.block ?_) | (refine PC.region ?_) | (refine PL.k rfl fun KK hKK => ?_; simp (disch := omega) [go_sem, stepK]; refine hKK _ ?_; clear hKK KK) | (refine PL.k rfl fun KK hKK => ?_; simp [go_sem, stepK]; refine hKK _ ?_; clear hKK KK) | (refine PL.g rfl rfl fun KK hKK => ?_; simp (disch := omega) [go_sem, L.stepG]; refine hKK _ ?_; clear hKK KK) | (refine PL.g rfl rfl fun KK hKK => ?_; simp [go_sem, L.stepG]; refine hKK _ ?_; clear hKK KK) | (refine PL.done hK ?_; clear hK) | (refine PC.skip (hK _ _ ?_); clear hK) | (refine PC.condT ?_ ?_; focus (simp [go_sem]; done)) | (refine PC.condF ?_ ?_; focus (simp [go_sem]; done)) | (refine PC.exit ?_; first | (refine hK _ _ ?_; clear hK) | (clear hK; refine hK _ _ ?_; clear hK) | (clear hK; clear hK; refine hK _ _ ?_; clear hK)))
    (refine PC.ret ?_; refine fin (.inr rfl) (by simp [resP, resP1, Try.results4, go_sem]) (by simp [go_sem]))
  have h2' : ¬ (30 : Int) < w.size := by omega
  repeat (first | (refine PC.seq fun K hK => ?_) | (refine PC.block ?_) | (refine PC.region ?_) | (refine PL.k rfl fun KK hKK => ?_; simp (disch := omega) [go_sem, stepK, hlenX, h1', h2']; refine hKK _ ?_; clear hKK KK) | (refine PL.k rfl fun KK hKK => ?_; simp [go_sem, stepK, hlenX, h1', h2']; refine hKK _ ?_; clear hKK KK) | (refine PL.g rfl rfl fun KK hKK => ?_; simp (disch := omega) [go_sem, L.stepG, hlenX, h1', h2']; refine hKK _ ?_; clear hKK KK) | (refine PL.g rfl rfl fun KK hKK => ?_; simp [go_sem, L.stepG, hlenX, h1', h2']; refine hKK _ ?_; clear hKK KK) | (refine PL.done hK ?_; clear hK) | (refine PC.skip (hK _ _ ?_); clear hK) | (refine PC.condT ?_ ?_; focus (simp [go_sem, hlenX, h1', h2']; done)) | (refine PC.condF ?_ ?_; focus (simp [go_sem, hlenX, h1', h2']; done)) | (refine PC.exit ?_; first | (refine hK _ _ ?_; clear hK) | (clear hK; refine hK _ _ ?_; clear hK) | (clear hK; clear hK; refine hK _ _ ?_; clear hK)))
  (refine PL.callBg rfl rfl rfl (by simp [go_sem]) (by kernel_rfl) (ref7Check_ok l) (by simp [go_sem]) (by simp [go_sem]) (by simp [go_sem]) ?_)
  by_cases h3 : checkL l = 0
  rotate_left
  · repeat (first | (refine PC.seq fun K hK => ?_) | (refine PC.block ?_) | (refine PC.region ?_) | (refine PL.k rfl fun KK hKK => ?_; simp (disch := omega) [go_sem, stepK, h3]; refine hKK _ ?_; clear hKK KK) | (refine PL.k rfl fun KK hKK => ?_; simp [go_sem, stepK, h3]; refine hKK _ ?_; clear hKK KK) | (refine PL.g rfl rfl fun KK hKK => ?_; simp (disch := omega) [go_sem, L.stepG, h3]; refine hKK _ ?_; clear hKK KK) | (refine PL.g rfl rfl fun KK hKK => ?_; simp [go_sem, L.stepG, h3]; refine hKK _ ?_; clear hKK KK) | (refine PL.done hK ?_; clear hK) | (refine PC.skip (hK _ _ ?_); clear hK) | (refine PC.condT ?_ ?_; focus (simp [go_sem, h3]; done)) | (refine PC.condF ?_ ?_; focus (simp [go_sem, h3]; done)) | (refine PC.exit ?_; first | (refine hK _ _ ?_; clear hK) | (clear hK; refine hK _ _ ?_; clear hK) | (clear hK; clear hK; refine hK _ _ ?_; clear hK)))
    (refine PL.call rfl rfl (by kernel_rfl) (knows10_ok) (by simp [go_sem]) (by simp [go_sem]) (by simp [go_sem]) ?_)
    repeat (first | (refine PC.seq fun K hK => ?_) | (refine PC.block ?_) | (refine PC.region ?_) | (refine PL.k rfl fun KK hKK => ?_; simp (disch := omega) [go_sem, stepK]; refine hKK _ ?_; clear hKK KK) | (refine PL.k rfl fun KK hKK => ?_; simp [go_sem, stepK]; refine hKK _ ?_; clear hKK KK) | (refine PL.g rfl rfl fun KK hKK => ?_; simp (disch := omega) [go_sem, L.stepG]; refine hKK _ ?_; clear hKK KK) | (refine PL.g rfl rfl fun KK hKK => ?_; simp [go_sem, L.stepG]; refine hKK _ ?_; clear hKK KK) | (refine PL.done hK ?_; clear hK) | (refine PC.skip (hK _ _ ?_); clear hK) | (refine PC.condT ?_ ?_; focus (simp [go_sem]; done)) | (refine PC.condF ?_ ?_; focus (simp [go_sem]; done)) | (refine PC.exit ?_; first | (refine hK _ _ ?_; clear hK) | (clear hK; refine hK _ _ ?_; clear hK) | (clear hK; clear hK; refine hK _ _ ?_; clear hK)))
    (refine PC.ret ?_; refine fin (.inr rfl) (by simp [resP, resP1, Try.results4, go_sem]) (by simp [go_sem]))
  obtain ⟨e, he⟩ := wfx_of l h3
  obtain ⟨hS, hF, hL, hE, hO⟩ := sp_of he
  have cS := Sets_ok l
  have cF := First_ok l
  have cL := Last_ok l
  have cE := Free_ok l
  have cO := fun i => Follow_ok l i
  rw [hS] at cS
  rw [hF] at cF
  rw [hL] at cL
  rw [hE] at cE
  simp only [hO] at cO
  have hns : nset e ≤ 60 := by have := nset_le e; rw [← he.2] at this; omega
  have hsl := setsT_len e
  have hlenS : ∀ H, lenP Try.prog H 24 (slS (setsT e)) = some (I (nset e)) := fun H => by simp [slS, go_sem, hsl]
  repeat (first | (refine PC.seq fun K hK => ?_) | (refine PC.block ?_) | (refine PC.region ?_) | (refine PL.k rfl fun KK hKK => ?_; simp (disch := omega) [go_sem, stepK, h3]; refine hKK _ ?_; clear hKK KK) | (refine PL.k rfl fun KK hKK => ?_; simp [go_sem, stepK, h3]; refine hKK _ ?_; clear hKK KK) | (refine PL.g rfl rfl fun KK hKK => ?_; simp (disch := omega) [go_sem, L.stepG, h3]; refine hKK _ ?_; clear hKK KK) | (refine PL.g rfl rfl fun KK hKK => ?_; simp [go_sem, L.stepG, h3]; refine hKK _ ?_; clear hKK KK) | (refine PL.done hK ?_; clear hK) | (refine PC.skip (hK _ _ ?_); clear hK) | (refine PC.condT ?_ ?_; focus (simp [go_sem, h3]; done)) | (refine PC.condF ?_ ?_; focus (simp [go_sem, h3]; done)) | (refine PC.exit ?_; first | (refine hK _ _ ?_; clear hK) | (clear hK; refine hK _ _ ?_; clear hK) | (clear hK; clear hK; refine hK _ _ ?_; clear hK)))
  refine PL.callB rfl rfl (by kernel_rfl) cS (by simp [go_sem]) (by simp [go_sem]) (by simp [go_sem]) ?_
  repeat (first | (refine PC.seq fun K hK => ?_) | (refine PC.block ?_) | (refine PC.region ?_) | (refine PL.k rfl fun KK hKK => ?_; simp (disch := omega) [go_sem, stepK]; refine hKK _ ?_; clear hKK KK) | (refine PL.k rfl fun KK hKK => ?_; simp [go_sem, stepK]; refine hKK _ ?_; clear hKK KK) | (refine PL.g rfl rfl fun KK hKK => ?_; simp (disch := omega) [go_sem, L.stepG]; refine hKK _ ?_; clear hKK KK) | (refine PL.g rfl rfl fun KK hKK => ?_; simp [go_sem, L.stepG]; refine hKK _ ?_; clear hKK KK) | (refine PL.done hK ?_; clear hK) | (refine PC.skip (hK _ _ ?_); clear hK) | (refine PC.condT ?_ ?_; focus (simp [go_sem]; done)) | (refine PC.condF ?_ ?_; focus (simp [go_sem]; done)) | (refine PC.exit ?_; first | (refine hK _ _ ?_; clear hK) | (clear hK; refine hK _ _ ?_; clear hK) | (clear hK; clear hK; refine hK _ _ ?_; clear hK)))
  refine PL.buildSliceR (d := 31) rfl rfl rfl (by simp) selem_30 rfl (by omega) (ips := []) (by simp [go_sem]) (by simp [litOk]) (ps := []) rfl ?_
  repeat (first | (refine PC.seq fun K hK => ?_) | (refine PC.block ?_) | (refine PC.region ?_) | (refine PL.k rfl fun KK hKK => ?_; simp (disch := omega) [go_sem, stepK]; refine hKK _ ?_; clear hKK KK) | (refine PL.k rfl fun KK hKK => ?_; simp [go_sem, stepK]; refine hKK _ ?_; clear hKK KK) | (refine PL.g rfl rfl fun KK hKK => ?_; simp (disch := omega) [go_sem, L.stepG]; refine hKK _ ?_; clear hKK KK) | (refine PL.g rfl rfl fun KK hKK => ?_; simp [go_sem, L.stepG]; refine hKK _ ?_; clear hKK KK) | (refine PL.done hK ?_; clear hK) | (refine PC.skip (hK _ _ ?_); clear hK) | (refine PC.condT ?_ ?_; focus (simp [go_sem]; done)) | (refine PC.condF ?_ ?_; focus (simp [go_sem]; done)) | (refine PC.exit ?_; first | (refine hK _ _ ?_; clear hK) | (clear hK; refine hK _ _ ?_; clear hK) | (clear hK; clear hK; refine hK _ _ ?_; clear hK)))
  refine PC.loop (fun m F H' => ∃ k : Nat, k ≤ w.size ∧ m = w.size - k ∧ F 0 = slX l ∧ F 1 = S w ∧ F 5 = slS (setsT e) ∧ F 6 = slI (nowN e w k) ∧ F 7 = I k) (m := w.size) ⟨0, by omega, by omega, by simp [go_sem], by simp [go_sem], by simp [go_sem], by simp [go_sem, nowN, slI], by simp [go_sem]⟩ fun m F H' hI => ?_
  obtain ⟨k, hk, hm, f0, f1, f5, f6, f7⟩ := hI
  obtain ⟨nd, nr, nl⟩ := nowN_ok e w k
  by_cases hlt : k < w.size
  · have hnx := nextN_range e k (nowN e w k)
    have hnl : (nextN e k (nowN e w k)).length ≤ 4000 := by
      unfold nextN
      split
      · have := firstT_len e 0; omega
      · have h4 := flat_len (nowN e w k) (folR e) (folR_len e)
        have := Nat.mul_le_mul (show (nowN e w k).length ≤ 60 by omega) hns
        omega
    refine PC.seq fun K2 hK2 => ?_
    refine PC.seq fun K hK => ?_
    refine PC.region ?_
    repeat (refine PL.k rfl fun KK hKK => ?_; simp [go_sem, stepK, f1, f7, hlt]; refine hKK _ ?_; clear hKK KK)
    refine PL.done hK ?_; clear hK
    refine PC.condT (by simp [go_sem]) ?_
    refine PC.skip (hK2 _ _ ?_); clear hK2
    refine PC.seq fun K2 hK2 => ?_
    refine PC.block ?_
    refine PC.cut3 (fun F H => F 0 = slX l ∧ F 1 = S w ∧ F 5 = slS (setsT e) ∧ F 7 = I k ∧ F 8 = slI (nextN e k (nowN e w k))) ?_ ?_
    · refine PC.region ?_
      refine PL.buildSliceA 60 (d := 38) rfl rfl rfl (by simp) selem_30 rfl (by omega) (by unfold maxLen; omega) (ips := []) (by simp [go_sem]) (by simp [litOk]) (cs := []) rfl fun v0 H0 b0 o0 => ?_
      repeat (refine PL.k rfl fun KK hKK => ?_; simp [go_sem, stepK]; refine hKK _ ?_; clear hKK KK)
      refine PL.nil ?_
      by_cases hk0 : k = 0
      · subst hk0
        repeat (first | (refine PC.seq fun K hK => ?_) | (refine PC.block ?_) | (refine PC.region ?_) | (refine PL.k rfl fun KK hKK => ?_; simp (disch := omega) [go_sem, stepK, f7, f0]; refine hKK _ ?_; clear hKK KK) | (refine PL.k rfl fun KK hKK => ?_; simp [go_sem, stepK, f7, f0]; refine hKK _ ?_; clear hKK KK) | (refine PL.g rfl rfl fun KK hKK => ?_; simp (disch := omega) [go_sem, L.stepG, f7, f0]; refine hKK _ ?_; clear hKK KK) | (refine PL.g rfl rfl fun KK hKK => ?_; simp [go_sem, L.stepG, f7, f0]; refine hKK _ ?_; clear hKK KK) | (refine PL.done hK ?_; clear hK) | (refine PC.skip (hK _ _ ?_); clear hK) | (refine PC.condT ?_ ?_; focus (simp [go_sem, f7, f0]; done)) | (refine PC.condF ?_ ?_; focus (simp [go_sem, f7, f0]; done)) | (refine PC.exit ?_; first | (refine hK _ _ ?_; clear hK) | (clear hK; refine hK _ _ ?_; clear hK) | (clear hK; clear hK; refine hK _ _ ?_; clear hK)))
        refine PL.callB rfl rfl (by kernel_rfl) cF (by simp [go_sem]) (by simp [go_sem, f0]) (by simp [go_sem, f0]) ?_
        repeat (refine PL.k rfl fun KK hKK => ?_; simp [go_sem, stepK]; refine hKK _ ?_; clear hKK KK)
        refine PL.nil ?_
        have f6' : F 6 = slI [] := f6
        repeat (first | (refine PC.seq fun K hK => ?_) | (refine PC.block ?_) | (refine PC.region ?_) | (refine PL.k rfl fun KK hKK => ?_; simp (disch := omega) [go_sem, stepK, f6', hlenX]; refine hKK _ ?_; clear hKK KK) | (refine PL.k rfl fun KK hKK => ?_; simp [go_sem, stepK, f6', hlenX]; refine hKK _ ?_; clear hKK KK) | (refine PL.g rfl rfl fun KK hKK => ?_; simp (disch := omega) [go_sem, L.stepG, f6', hlenX]; refine hKK _ ?_; clear hKK KK) | (refine PL.g rfl rfl fun KK hKK => ?_; simp [go_sem, L.stepG, f6', hlenX]; refine hKK _ ?_; clear hKK KK) | (refine PL.done hK ?_; clear hK) | (refine PC.skip (hK _ _ ?_); clear hK) | (refine PC.condT ?_ ?_; focus (simp [go_sem, f6', hlenX]; done)) | (refine PC.condF ?_ ?_; focus (simp [go_sem, f6', hlenX]; done)) | (refine PC.exit ?_; first | (refine hK _ _ ?_; clear hK) | (clear hK; refine hK _ _ ?_; clear hK) | (clear hK; clear hK; refine hK _ _ ?_; clear hK)))
        refine PC.loop (fun m F H' => m = 0 ∧ F 0 = slX l ∧ F 1 = S w ∧ F 5 = slS (setsT e) ∧ F 6 = slI [] ∧ F 7 = I (0 : Nat) ∧ F 8 = slI (firstT e 0) ∧ F 9 = I 0) (m := 0) ⟨rfl, by simp [go_sem, f0], by simp [go_sem, f1], by simp [go_sem, f5], by simp [go_sem, f6'], by simp [go_sem, f7], by simp [go_sem], by simp [go_sem]⟩ fun m F H' hI => ?_
        obtain ⟨hm, f0, f1, f5, f6, f7, f8, f9⟩ := hI
        repeat (first | (refine PC.seq fun K hK => ?_) | (refine PC.block ?_) | (refine PC.region ?_) | (refine PL.k rfl fun KK hKK => ?_; simp (disch := omega) [go_sem, stepK, f6, f9]; refine hKK _ ?_; clear hKK KK) | (refine PL.k rfl fun KK hKK => ?_; simp [go_sem, stepK, f6, f9]; refine hKK _ ?_; clear hKK KK) | (refine PL.g rfl rfl fun KK hKK => ?_; simp (disch := omega) [go_sem, L.stepG, f6, f9]; refine hKK _ ?_; clear hKK KK) | (refine PL.g rfl rfl fun KK hKK => ?_; simp [go_sem, L.stepG, f6, f9]; refine hKK _ ?_; clear hKK KK) | (refine PL.done hK ?_; clear hK) | (refine PC.skip (hK _ _ ?_); clear hK) | (refine PC.condT ?_ ?_; focus (simp [go_sem, f6, f9]; done)) | (refine PC.condF ?_ ?_; focus (simp [go_sem, f6, f9]; done)) | (refine PC.exit ?_; first | (refine hK _ _ ?_; clear hK) | (clear hK; refine hK _ _ ?_; clear hK) | (clear hK; clear hK; refine hK _ _ ?_; clear hK)))
        refine PC.exit ?_
        exact ⟨by simp [go_sem, f0], by simp [go_sem, f1], by simp [go_sem, f5], by simp [go_sem, f7], by simp [go_sem, f8, nextN]⟩
      · have hk0' : ¬ (k : Int) = 0 := by omega
        have hnxe : nextN e k (nowN e w k) = (nowN e w k).flatMap (folR e) := by unfold nextN; rw [if_neg hk0]
        rw [hnxe] at *
        generalize hA : nowN e w k = A at *
        repeat (first | (refine PC.seq fun K hK => ?_) | (refine PC.block ?_) | (refine PC.region ?_) | (refine PL.k rfl fun KK hKK => ?_; simp (disch := omega) [go_sem, stepK, f7, hk0, hk0']; refine hKK _ ?_; clear hKK KK) | (refine PL.k rfl fun KK hKK => ?_; simp [go_sem, stepK, f7, hk0, hk0']; refine hKK _ ?_; clear hKK KK) | (refine PL.g rfl rfl fun KK hKK => ?_; simp (disch := omega) [go_sem, L.stepG, f7, hk0, hk0']; refine hKK _ ?_; clear hKK KK) | (refine PL.g rfl rfl fun KK hKK => ?_; simp [go_sem, L.stepG, f7, hk0, hk0']; refine hKK _ ?_; clear hKK KK) | (refine PL.done hK ?_; clear hK) | (refine PC.skip (hK _ _ ?_); clear hK) | (refine PC.condT ?_ ?_; focus (simp [go_sem, f7, hk0, hk0']; done)) | (refine PC.condF ?_ ?_; focus (simp [go_sem, f7, hk0, hk0']; done)) | (refine PC.exit ?_; first | (refine hK _ _ ?_; clear hK) | (clear hK; refine hK _ _ ?_; clear hK) | (clear hK; clear hK; refine hK _ _ ?_; clear hK)))
        refine PC.skip ?_
        repeat (first | (refine PC.seq fun K hK => ?_) | (refine PC.block ?_) | (refine PC.region ?_) | (refine PL.k rfl fun KK hKK => ?_; simp (disch := omega) [go_sem, stepK]; refine hKK _ ?_; clear hKK KK) | (refine PL.k rfl fun KK hKK => ?_; simp [go_sem, stepK]; refine hKK _ ?_; clear hKK KK) | (refine PL.g rfl rfl fun KK hKK => ?_; simp (disch := omega) [go_sem, L.stepG]; refine hKK _ ?_; clear hKK KK) | (refine PL.g rfl rfl fun KK hKK => ?_; simp [go_sem, L.stepG]; refine hKK _ ?_; clear hKK KK) | (refine PL.done hK ?_; clear hK) | (refine PC.skip (hK _ _ ?_); clear hK) | (refine PC.condT ?_ ?_; focus (simp [go_sem]; done)) | (refine PC.condF ?_ ?_; focus (simp [go_sem]; done)) | (refine PC.exit ?_; first | (refine hK _ _ ?_; clear hK) | (clear hK; refine hK _ _ ?_; clear hK) | (clear hK; clear hK; refine hK _ _ ?_; clear hK)))
        refine PC.loop (fun m F H' => ∃ j v : Nat, j ≤ A.length ∧ m = A.length - j ∧ F 0 = slX l ∧ F 1 = S w ∧ F 5 = slS (setsT e) ∧ F 6 = slI A ∧ F 7 = I k ∧ F 8 = .ps 60 v ∧ F 9 = I j ∧ ownI H' 60 v ((A.take j).flatMap (folR e))) (m := A.length) ⟨0, v0, by omega, by omega, by simp [go_sem, f0], by simp [go_sem, f1], by simp [go_sem, f5], by simp [go_sem, f6], by simp [go_sem, f7], by simp [go_sem], by simp [go_sem], b0⟩ fun m F H' hI => ?_
        obtain ⟨j, v, hj, hm, f0, f1, f5, f6, f7, f8, f9, hO8⟩ := hI
        by_cases hlj : j < A.length
        · have f6' : F 6 = .sl 1 (A.map I) := f6
          have hj' : (j : Int) < A.length := by omega
          repeat (first | (refine PC.seq fun K hK => ?_) | (refine PC.block ?_) | (refine PC.region ?_) | (refine PL.k rfl fun KK hKK => ?_; simp (disch := omega) [go_sem, stepK, f0, f6, f8, f9, hlj, hj']; refine hKK _ ?_; clear hKK KK) | (refine PL.k rfl fun KK hKK => ?_; simp [go_sem, stepK, f0, f6, f8, f9, hlj, hj']; refine hKK _ ?_; clear hKK KK) | (refine PL.g rfl rfl fun KK hKK => ?_; simp (disch := omega) [go_sem, L.stepG, f0, f6, f8, f9, hlj, hj']; refine hKK _ ?_; clear hKK KK) | (refine PL.g rfl rfl fun KK hKK => ?_; simp [go_sem, L.stepG, f0, f6, f8, f9, hlj, hj']; refine hKK _ ?_; clear hKK KK) | (refine PL.done hK ?_; clear hK) | (refine PC.skip (hK _ _ ?_); clear hK) | (refine PC.condT ?_ ?_; focus (simp [go_sem, f0, f6, f8, f9, hlj, hj']; done)) | (refine PC.condF ?_ ?_; focus (simp [go_sem, f0, f6, f8, f9, hlj, hj']; done)) | (refine PC.exit ?_; first | (refine hK _ _ ?_; clear hK) | (clear hK; refine hK _ _ ?_; clear hK) | (clear hK; clear hK; refine hK _ _ ?_; clear hK)))
          refine PL.callB rfl rfl (by kernel_rfl) (cO A[j]) (by simp [go_sem]) (by simp [go_sem]) (by simp [go_sem]) ?_
          have l1 : ((A.take j).flatMap (folR e)).length ≤ 3600 := by
            have h4 := flat_len (A.take j) (folR e) (folR_len e)
            have := Nat.mul_le_mul (show (A.take j).length ≤ 60 by simp; omega) hns
            omega
          have l2 := folR_len e A[j]
          refine PL.appendP (d := 56) (id := 60) (ver := v) (m := ((A.take j).flatMap (folR e)).length) (m2 := (folR e A[j]).length) (cs := ((A.take j).flatMap (folR e)).map I) (cs2 := (folR e A[j]).map I) (px := slI (folR e A[j])) rfl rfl rfl (by simp) selem_30 (by simp [go_sem]) hO8 (by simp [go_sem]) (srcI _ _) (leafIs _ _) (by unfold maxLen; omega) (by omega) fun v2 H2 b2 o2 => ?_
          repeat (first | (refine PC.seq fun K hK => ?_) | (refine PC.block ?_) | (refine PC.region ?_) | (refine PL.k rfl fun KK hKK => ?_; simp (disch := omega) [go_sem, stepK, f9]; refine hKK _ ?_; clear hKK KK) | (refine PL.k rfl fun KK hKK => ?_; simp [go_sem, stepK, f9]; refine hKK _ ?_; clear hKK KK) | (refine PL.g rfl rfl fun KK hKK => ?_; simp (disch := omega) [go_sem, L.stepG, f9]; refine hKK _ ?_; clear hKK KK) | (refine PL.g rfl rfl fun KK hKK => ?_; simp [go_sem, L.stepG, f9]; refine hKK _ ?_; clear hKK KK) | (refine PL.done hK ?_; clear hK) | (refine PC.skip (hK _ _ ?_); clear hK) | (refine PC.condT ?_ ?_; focus (simp [go_sem, f9]; done)) | (refine PC.condF ?_ ?_; focus (simp [go_sem, f9]; done)) | (refine PC.exit ?_; first | (refine hK _ _ ?_; clear hK) | (clear hK; refine hK _ _ ?_; clear hK) | (clear hK; clear hK; refine hK _ _ ?_; clear hK)))
          refine PL.nil ⟨A.length - (j + 1), by omega, j + 1, v2, by omega, by omega, by simp [go_sem, f0], by simp [go_sem, f1], by simp [go_sem, f5], by simp [go_sem, f6], by simp [go_sem, f7], by simp [go_sem], by simp [go_sem], ?_⟩
          unfold ownI
          rw [b2, flatMap_take hlj]
          simp
        · have hj' : ¬ (j : Int) < A.length := by omega
          repeat (first | (refine PC.seq fun K hK => ?_) | (refine PC.block ?_) | (refine PC.region ?_) | (refine PL.k rfl fun KK hKK => ?_; simp (disch := omega) [go_sem, stepK, f6, f9, hj']; refine hKK _ ?_; clear hKK KK) | (refine PL.k rfl fun KK hKK => ?_; simp [go_sem, stepK, f6, f9, hj']; refine hKK _ ?_; clear hKK KK) | (refine PL.g rfl rfl fun KK hKK => ?_; simp (disch := omega) [go_sem, L.stepG, f6, f9, hj']; refine hKK _ ?_; clear hKK KK) | (refine PL.g rfl rfl fun KK hKK => ?_; simp [go_sem, L.stepG, f6, f9, hj']; refine hKK _ ?_; clear hKK KK) | (refine PL.done hK ?_; clear hK) | (refine PC.skip (hK _ _ ?_); clear hK) | (refine PC.condT ?_ ?_; focus (simp [go_sem, f6, f9, hj']; done)) | (refine PC.condF ?_ ?_; focus (simp [go_sem, f6, f9, hj']; done)) | (refine PC.exit ?_; first | (refine hK _ _ ?_; clear hK) | (clear hK; refine hK _ _ ?_; clear hK) | (clear hK; clear hK; refine hK _ _ ?_; clear hK)))
          have hje : j = A.length := by omega
          rw [hje, List.take_length] at hO8
          refine PC.freeze 8 ((A.flatMap (folR e)).map I) (by simp [go_sem]; exact f8) hO8 (mapI_cells _) (fun y hy => by obtain ⟨z, _, rfl⟩ := List.mem_map.1 hy; rfl) (by simp) fun H6 o6 => ?_
          refine PC.exit ?_
          exact ⟨by simp [go_sem, f0], by simp [go_sem, f1], by simp [go_sem, f5], by simp [go_sem, f7], by simp [go_sem]; rfl⟩
    · intro F H ⟨f0, f1, f5, f7, f8⟩
      have hnow : nowN e w (k + 1) = filtL (setsT e) (byteAt w k) (nextN e k (nowN e w k)) := rfl
      generalize nextN e k (nowN e w k) = nx at *
      have hby := byte_get hlt
      generalize hbb : byteAt w k = b at *
      have hblt : b < 256 := by rw [← hbb]; exact byteAt_lt _ _
      have hset := fun (x : Int) (h : 0 ≤ x ∧ x < nset e) => set_at (e := e) h
      refine PC.seq fun K hK => ?_
      refine PC.region ?_
      refine PL.buildSliceA 61 (d := 57) rfl rfl rfl (by simp) selem_30 rfl (by omega) (by unfold maxLen; omega) (ips := []) (by simp [go_sem]) (by simp [litOk]) (cs := []) rfl fun v0 H0 b0 o0 => ?_
      repeat (first | (refine PC.seq fun K hK => ?_) | (refine PC.block ?_) | (refine PC.region ?_) | (refine PL.k rfl fun KK hKK => ?_; simp (disch := omega) [go_sem, stepK]; refine hKK _ ?_; clear hKK KK) | (refine PL.k rfl fun KK hKK => ?_; simp [go_sem, stepK]; refine hKK _ ?_; clear hKK KK) | (refine PL.g rfl rfl fun KK hKK => ?_; simp (disch := omega) [go_sem, L.stepG]; refine hKK _ ?_; clear hKK KK) | (refine PL.g rfl rfl fun KK hKK => ?_; simp [go_sem, L.stepG]; refine hKK _ ?_; clear hKK KK) | (refine PL.done hK ?_; clear hK) | (refine PC.skip (hK _ _ ?_); clear hK) | (refine PC.condT ?_ ?_; focus (simp [go_sem]; done)) | (refine PC.condF ?_ ?_; focus (simp [go_sem]; done)) | (refine PC.exit ?_; first | (refine hK _ _ ?_; clear hK) | (clear hK; refine hK _ _ ?_; clear hK) | (clear hK; clear hK; refine hK _ _ ?_; clear hK)))
      refine PC.loop (fun m F H' => ∃ j v : Nat, j ≤ nx.length ∧ m = nx.length - j ∧ F 0 = slX l ∧ F 1 = S w ∧ F 5 = slS (setsT e) ∧ F 6 = .ps 61 v ∧ F 7 = I k ∧ F 8 = slI nx ∧ F 10 = I j ∧ ownI H' 61 v (filtL (setsT e) b (nx.take j))) (m := nx.length) ⟨0, v0, by omega, by omega, by simp [go_sem, f0], by simp [go_sem, f1], by simp [go_sem, f5], by simp [go_sem], by simp [go_sem, f7], by simp [go_sem, f8], by simp [go_sem], b0⟩ fun m F H' hI => ?_
      clear f0 f1 f5 f7 f8
      obtain ⟨j, v, hj, hm, f0, f1, f5, f6, f7, f8, f10, hO6⟩ := hI
      by_cases hlj : j < nx.length
      · have f8' : F 8 = .sl 1 (nx.map I) := f8
        have f5' : F 5 = .sl 4 ((setsT e).map encS) := f5
        have hj' : (j : Int) < nx.length := by omega
        have hx := hnx nx[j] (List.getElem_mem hlj)
        obtain ⟨y, hy, hyb⟩ := hset nx[j] hx
        have hx0 : ¬ nx[j] < 0 := by omega
        have hx1 : ¬ (nset e : Int) ≤ nx[j] := by omega
        have hx2 := hx.1
        have hsucc := filtL_succ (setsT e) b nx j hlj
        rw [hyb] at hsucc
        have hacc : (filtL (setsT e) b (nx.take j)).length ≤ 60 := by
          have h5 := nodup_len (nset e) _ (filtL_nodup (setsT e) b (nx.take j)) (fun x hx => hnx x (List.mem_of_mem_take ((filtL_mem _ _ _ x).1 hx).1))
          omega
        generalize hX : nx[j] = x at *
        generalize hacc' : filtL (setsT e) b (nx.take j) = acc at *
        repeat (first | (refine PC.seq fun K hK => ?_) | (refine PC.block ?_) | (refine PC.region ?_) | (refine PL.k rfl fun KK hKK => ?_; simp (disch := omega) [go_sem, stepK, f8, f10, hlj, hj', hX, hx0, hx1, f5, hlenS]; refine hKK _ ?_; clear hKK KK) | (refine PL.k rfl fun KK hKK => ?_; simp [go_sem, stepK, f8, f10, hlj, hj', hX, hx0, hx1, f5, hlenS]; refine hKK _ ?_; clear hKK KK) | (refine PL.g rfl rfl fun KK hKK => ?_; simp (disch := omega) [go_sem, L.stepG, f8, f10, hlj, hj', hX, hx0, hx1, f5, hlenS]; refine hKK _ ?_; clear hKK KK) | (refine PL.g rfl rfl fun KK hKK => ?_; simp [go_sem, L.stepG, f8, f10, hlj, hj', hX, hx0, hx1, f5, hlenS]; refine hKK _ ?_; clear hKK KK) | (refine PL.done hK ?_; clear hK) | (refine PC.skip (hK _ _ ?_); clear hK) | (refine PC.condT ?_ ?_; focus (simp [go_sem, f8, f10, hlj, hj', hX, hx0, hx1, f5, hlenS]; done)) | (refine PC.condF ?_ ?_; focus (simp [go_sem, f8, f10, hlj, hj', hX, hx0, hx1, f5, hlenS]; done)) | (refine PC.exit ?_; first | (refine hK _ _ ?_; clear hK) | (clear hK; refine hK _ _ ?_; clear hK) | (clear hK; clear hK; refine hK _ _ ?_; clear hK)))
        refine PC.regionQ mixed (by kernel_rfl) ?_
        repeat (first | (refine QF.k rfl fun KK hKK => ?_; simp (disch := omega) [go_sem, stepK, f1, f5', f7, hlt, hy, hx2, hby]; refine hKK _ ?_; clear hKK KK) | (refine QF.k rfl fun KK hKK => ?_; simp [go_sem, stepK, f1, f5', f7, hlt, hy, hx2, hby]; refine hKK _ ?_; clear hKK KK) | (refine QF.g rfl rfl fun KK hKK => ?_; simp (disch := omega) [go_sem, L.stepG, f1, f5', f7, hlt, hy, hx2, hby]; refine hKK _ ?_; clear hKK KK) | (refine QF.g rfl rfl fun KK hKK => ?_; simp [go_sem, L.stepG, f1, f5', f7, hlt, hy, hx2, hby]; refine hKK _ ?_; clear hKK KK))
        refine QF.callA rfl rfl (by kernel_rfl) (refHas_ok y b hblt) (by simp [go_sem]) (by simp [go_sem]) (by simp [go_sem, encS, W64]) ?_
        have hview : View H' (.ps 61 v) (slI acc) := hO6.view
        cases hyh : hasS y b
        · repeat (first | (refine QF.k rfl fun KK hKK => ?_; simp (disch := omega) [go_sem, stepK]; refine hKK _ ?_; clear hKK KK) | (refine QF.k rfl fun KK hKK => ?_; simp [go_sem, stepK]; refine hKK _ ?_; clear hKK KK) | (refine QF.g rfl rfl fun KK hKK => ?_; simp (disch := omega) [go_sem, L.stepG]; refine hKK _ ?_; clear hKK KK) | (refine QF.g rfl rfl fun KK hKK => ?_; simp [go_sem, L.stepG]; refine hKK _ ?_; clear hKK KK))
          refine QF.done hK ?_; clear hK
          repeat (first | (refine PC.seq fun K hK => ?_) | (refine PC.block ?_) | (refine PC.region ?_) | (refine PL.k rfl fun KK hKK => ?_; simp (disch := omega) [go_sem, stepK, f10]; refine hKK _ ?_; clear hKK KK) | (refine PL.k rfl fun KK hKK => ?_; simp [go_sem, stepK, f10]; refine hKK _ ?_; clear hKK KK) | (refine PL.g rfl rfl fun KK hKK => ?_; simp (disch := omega) [go_sem, L.stepG, f10]; refine hKK _ ?_; clear hKK KK) | (refine PL.g rfl rfl fun KK hKK => ?_; simp [go_sem, L.stepG, f10]; refine hKK _ ?_; clear hKK KK) | (refine PL.done hK ?_; clear hK) | (refine PC.skip (hK _ _ ?_); clear hK) | (refine PC.condT ?_ ?_; focus (simp [go_sem, f10]; done)) | (refine PC.condF ?_ ?_; focus (simp [go_sem, f10]; done)) | (refine PC.exit ?_; first | (refine hK _ _ ?_; clear hK) | (clear hK; refine hK _ _ ?_; clear hK) | (clear hK; clear hK; refine hK _ _ ?_; clear hK)))
          refine PL.nil ⟨nx.length - (j + 1), by omega, j + 1, v, by omega, by omega, by simp [go_sem, f0], by simp [go_sem, f1], by simp [go_sem, f5], by simp [go_sem, f6], by simp [go_sem, f7], by simp [go_sem, f8], by simp [go_sem], ?_⟩
          rw [hsucc, hyh]; simpa [hacc'] using hO6
        · repeat (first | (refine QF.k rfl fun KK hKK => ?_; simp (disch := omega) [go_sem, stepK, f6, hX]; refine hKK _ ?_; clear hKK KK) | (refine QF.k rfl fun KK hKK => ?_; simp [go_sem, stepK, f6, hX]; refine hKK _ ?_; clear hKK KK) | (refine QF.g rfl rfl fun KK hKK => ?_; simp (disch := omega) [go_sem, L.stepG, f6, hX]; refine hKK _ ?_; clear hKK KK) | (refine QF.g rfl rfl fun KK hKK => ?_; simp [go_sem, L.stepG, f6, hX]; refine hKK _ ?_; clear hKK KK))
          refine QF.callg rfl rfl (by simp [go_sem]) (by simp [dstOk]) (PQ.callA rfl (target_func _ _ _) (by kernel_rfl) (qs := [slI acc, I x]) (by simp [go_sem, hview]) (Has_ok acc x (by omega)) (by simp [go_sem])) ?_
          by_cases hxa : x ∈ acc
          · repeat (first | (refine QF.k rfl fun KK hKK => ?_; simp (disch := omega) [go_sem, stepK, hxa]; refine hKK _ ?_; clear hKK KK) | (refine QF.k rfl fun KK hKK => ?_; simp [go_sem, stepK, hxa]; refine hKK _ ?_; clear hKK KK) | (refine QF.g rfl rfl fun KK hKK => ?_; simp (disch := omega) [go_sem, L.stepG, hxa]; refine hKK _ ?_; clear hKK KK) | (refine QF.g rfl rfl fun KK hKK => ?_; simp [go_sem, L.stepG, hxa]; refine hKK _ ?_; clear hKK KK))
            refine QF.done hK ?_; clear hK
            repeat (first | (refine PC.seq fun K hK => ?_) | (refine PC.block ?_) | (refine PC.region ?_) | (refine PL.k rfl fun KK hKK => ?_; simp (disch := omega) [go_sem, stepK, f10]; refine hKK _ ?_; clear hKK KK) | (refine PL.k rfl fun KK hKK => ?_; simp [go_sem, stepK, f10]; refine hKK _ ?_; clear hKK KK) | (refine PL.g rfl rfl fun KK hKK => ?_; simp (disch := omega) [go_sem, L.stepG, f10]; refine hKK _ ?_; clear hKK KK) | (refine PL.g rfl rfl fun KK hKK => ?_; simp [go_sem, L.stepG, f10]; refine hKK _ ?_; clear hKK KK) | (refine PL.done hK ?_; clear hK) | (refine PC.skip (hK _ _ ?_); clear hK) | (refine PC.condT ?_ ?_; focus (simp [go_sem, f10]; done)) | (refine PC.condF ?_ ?_; focus (simp [go_sem, f10]; done)) | (refine PC.exit ?_; first | (refine hK _ _ ?_; clear hK) | (clear hK; refine hK _ _ ?_; clear hK) | (clear hK; clear hK; refine hK _ _ ?_; clear hK)))
            refine PL.nil ⟨nx.length - (j + 1), by omega, j + 1, v, by omega, by omega, by simp [go_sem, f0], by simp [go_sem, f1], by simp [go_sem, f5], by simp [go_sem, f6], by simp [go_sem, f7], by simp [go_sem, f8], by simp [go_sem], ?_⟩
            rw [hsucc]; simpa [hacc', hxa] using hO6
          · repeat (first | (refine QF.k rfl fun KK hKK => ?_; simp (disch := omega) [go_sem, stepK, hxa]; refine hKK _ ?_; clear hKK KK) | (refine QF.k rfl fun KK hKK => ?_; simp [go_sem, stepK, hxa]; refine hKK _ ?_; clear hKK KK) | (refine QF.g rfl rfl fun KK hKK => ?_; simp (disch := omega) [go_sem, L.stepG, hxa]; refine hKK _ ?_; clear hKK KK) | (refine QF.g rfl rfl fun KK hKK => ?_; simp [go_sem, L.stepG, hxa]; refine hKK _ ?_; clear hKK KK))
            refine QF.done hK ?_; clear hK
            repeat (first | (refine PC.seq fun K hK => ?_) | (refine PC.block ?_) | (refine PC.region ?_) | (refine PL.k rfl fun KK hKK => ?_; simp (disch := omega) [go_sem, stepK, f6]; refine hKK _ ?_; clear hKK KK) | (refine PL.k rfl fun KK hKK => ?_; simp [go_sem, stepK, f6]; refine hKK _ ?_; clear hKK KK) | (refine PL.g rfl rfl fun KK hKK => ?_; simp (disch := omega) [go_sem, L.stepG, f6]; refine hKK _ ?_; clear hKK KK) | (refine PL.g rfl rfl fun KK hKK => ?_; simp [go_sem, L.stepG, f6]; refine hKK _ ?_; clear hKK KK) | (refine PL.done hK ?_; clear hK) | (refine PC.skip (hK _ _ ?_); clear hK) | (refine PC.condT ?_ ?_; focus (simp [go_sem, f6]; done)) | (refine PC.condF ?_ ?_; focus (simp [go_sem, f6]; done)) | (refine PC.exit ?_; first | (refine hK _ _ ?_; clear hK) | (clear hK; refine hK _ _ ?_; clear hK) | (clear hK; clear hK; refine hK _ _ ?_; clear hK)))
            refine PL.buildSliceR (d := 92) rfl rfl rfl (by simp) selem_30 rfl (by omega) (ips := [(0, I x)]) (by simp [go_sem]) (by simp [litOk, go_sem, okC]) (ps := [I x]) rfl ?_
            refine PL.appendP (d := 93) (id := 61) (ver := v) (m := acc.length) (m2 := 1) (cs := acc.map I) (cs2 := [I x]) (px := .sl 1 [I x]) rfl rfl rfl (by simp) selem_30 (by simp [go_sem]) hO6 (by simp [go_sem]) (by simp [srcP, PV.cells]) (by simp [leafOk, Value.oneCell']) (by unfold maxLen; omega) (by omega) fun v2 H2 b2 o2 => ?_
            repeat (first | (refine PC.seq fun K hK => ?_) | (refine PC.block ?_) | (refine PC.region ?_) | (refine PL.k rfl fun KK hKK => ?_; simp (disch := omega) [go_sem, stepK, f10]; refine hKK _ ?_; clear hKK KK) | (refine PL.k rfl fun KK hKK => ?_; simp [go_sem, stepK, f10]; refine hKK _ ?_; clear hKK KK) | (refine PL.g rfl rfl fun KK hKK => ?_; simp (disch := omega) [go_sem, L.stepG, f10]; refine hKK _ ?_; clear hKK KK) | (refine PL.g rfl rfl fun KK hKK => ?_; simp [go_sem, L.stepG, f10]; refine hKK _ ?_; clear hKK KK) | (refine PL.done hK ?_; clear hK) | (refine PC.skip (hK _ _ ?_); clear hK) | (refine PC.condT ?_ ?_; focus (simp [go_sem, f10]; done)) | (refine PC.condF ?_ ?_; focus (simp [go_sem, f10]; done)) | (refine PC.exit ?_; first | (refine hK _ _ ?_; clear hK) | (clear hK; refine hK _ _ ?_; clear hK) | (clear hK; clear hK; refine hK _ _ ?_; clear hK)))
            refine PL.nil ⟨nx.length - (j + 1), by omega, j + 1, v2, by omega, by omega, by simp [go_sem, f0], by simp [go_sem, f1], by simp [go_sem, f5], by simp [go_sem], by simp [go_sem, f7], by simp [go_sem, f8], by simp [go_sem], ?_⟩
            rw [hsucc, hyh]
            unfold ownI
            rw [b2]
            simp [hacc', hxa]
      · have hj' : ¬ (j : Int) < nx.length := by omega
        repeat (first | (refine PC.seq fun K hK => ?_) | (refine PC.block ?_) | (refine PC.region ?_) | (refine PL.k rfl fun KK hKK => ?_; simp (disch := omega) [go_sem, stepK, f8, f10, hj']; refine hKK _ ?_; clear hKK KK) | (refine PL.k rfl fun KK hKK => ?_; simp [go_sem, stepK, f8, f10, hj']; refine hKK _ ?_; clear hKK KK) | (refine PL.g rfl rfl fun KK hKK => ?_; simp (disch := omega) [go_sem, L.stepG, f8, f10, hj']; refine hKK _ ?_; clear hKK KK) | (refine PL.g rfl rfl fun KK hKK => ?_; simp [go_sem, L.stepG, f8, f10, hj']; refine hKK _ ?_; clear hKK KK) | (refine PL.done hK ?_; clear hK) | (refine PC.skip (hK _ _ ?_); clear hK) | (refine PC.condT ?_ ?_; focus (simp [go_sem, f8, f10, hj']; done)) | (refine PC.condF ?_ ?_; focus (simp [go_sem, f8, f10, hj']; done)) | (refine PC.exit ?_; first | (refine hK _ _ ?_; clear hK) | (clear hK; refine hK _ _ ?_; clear hK) | (clear hK; clear hK; refine hK _ _ ?_; clear hK)))
        have hje : j = nx.length := by omega
        rw [hje, List.take_length] at hO6
        refine PC.freeze 6 ((filtL (setsT e) b nx).map I) (by simp [go_sem]; exact f6) hO6 (mapI_cells _) (fun y hy => by obtain ⟨z, _, rfl⟩ := List.mem_map.1 hy; rfl) (by simp) fun H6 o6 => ?_
        refine PC.exit ?_
        refine hK2 _ _ ?_
        repeat (first | (refine PC.seq fun K hK => ?_) | (refine PC.block ?_) | (refine PC.region ?_) | (refine PL.k rfl fun KK hKK => ?_; simp (disch := omega) [go_sem, stepK, f7]; refine hKK _ ?_; clear hKK KK) | (refine PL.k rfl fun KK hKK => ?_; simp [go_sem, stepK, f7]; refine hKK _ ?_; clear hKK KK) | (refine PL.g rfl rfl fun KK hKK => ?_; simp (disch := omega) [go_sem, L.stepG, f7]; refine hKK _ ?_; clear hKK KK) | (refine PL.g rfl rfl fun KK hKK => ?_; simp [go_sem, L.stepG, f7]; refine hKK _ ?_; clear hKK KK) | (refine PL.done hK ?_; clear hK) | (refine PC.skip (hK _ _ ?_); clear hK) | (refine PC.condT ?_ ?_; focus (simp [go_sem, f7]; done)) | (refine PC.condF ?_ ?_; focus (simp [go_sem, f7]; done)) | (refine PC.exit ?_; first | (refine hK _ _ ?_; clear hK) | (clear hK; refine hK _ _ ?_; clear hK) | (clear hK; clear hK; refine hK _ _ ?_; clear hK)))
        refine PL.nil ⟨w.size - (k + 1), by omega, k + 1, by omega, by omega, by simp [go_sem, f0], by simp [go_sem, f1], by simp [go_sem, f5], by simp [go_sem, hnow, slI], by simp [go_sem]⟩
  · have hk' : ¬ (k : Int) < w.size := by omega
    have hke : k = w.size := by omega
    subst hke
    generalize hA : nowN e w w.size = A at *
    have hlaw := words_law e w
    rw [hA] at hlaw
    have hnA : A.length ≤ 60 := by omega
    have hll := lastT_len e 0
    cases hz : decide (w.size = 0)
    have hz' : ¬ w.size = 0 := by simpa using hz
    repeat (first | (refine PC.seq fun K hK => ?_) | (refine PC.block ?_) | (refine PC.region ?_) | (refine PL.k rfl fun KK hKK => ?_; simp (disch := omega) [go_sem, stepK, f0, f1, f7, hz', hz]; refine hKK _ ?_; clear hKK KK) | (refine PL.k rfl fun KK hKK => ?_; simp [go_sem, stepK, f0, f1, f7, hz', hz]; refine hKK _ ?_; clear hKK KK) | (refine PL.g rfl rfl fun KK hKK => ?_; simp (disch := omega) [go_sem, L.stepG, f0, f1, f7, hz', hz]; refine hKK _ ?_; clear hKK KK) | (refine PL.g rfl rfl fun KK hKK => ?_; simp [go_sem, L.stepG, f0, f1, f7, hz', hz]; refine hKK _ ?_; clear hKK KK) | (refine PL.done hK ?_; clear hK) | (refine PC.skip (hK _ _ ?_); clear hK) | (refine PC.condT ?_ ?_; focus (simp [go_sem, f0, f1, f7, hz', hz]; done)) | (refine PC.condF ?_ ?_; focus (simp [go_sem, f0, f1, f7, hz', hz]; done)) | (refine PC.exit ?_; first | (refine hK _ _ ?_; clear hK) | (clear hK; refine hK _ _ ?_; clear hK) | (clear hK; clear hK; refine hK _ _ ?_; clear hK)))
    rotate_left
    have hz' : w.size = 0 := by simpa using hz
    have hz2 : (w.size : Int) = 0 := by omega
    repeat (first | (refine PC.seq fun K hK => ?_) | (refine PC.block ?_) | (refine PC.region ?_) | (refine PL.k rfl fun KK hKK => ?_; simp (disch := omega) [go_sem, stepK, f0, f1, f7, hz', hz2, hz]; refine hKK _ ?_; clear hKK KK) | (refine PL.k rfl fun KK hKK => ?_; simp [go_sem, stepK, f0, f1, f7, hz', hz2, hz]; refine hKK _ ?_; clear hKK KK) | (refine PL.g rfl rfl fun KK hKK => ?_; simp (disch := omega) [go_sem, L.stepG, f0, f1, f7, hz', hz2, hz]; refine hKK _ ?_; clear hKK KK) | (refine PL.g rfl rfl fun KK hKK => ?_; simp [go_sem, L.stepG, f0, f1, f7, hz', hz2, hz]; refine hKK _ ?_; clear hKK KK) | (refine PL.done hK ?_; clear hK) | (refine PC.skip (hK _ _ ?_); clear hK) | (refine PC.condT ?_ ?_; focus (simp [go_sem, f0, f1, f7, hz', hz2, hz]; done)) | (refine PC.condF ?_ ?_; focus (simp [go_sem, f0, f1, f7, hz', hz2, hz]; done)) | (refine PC.exit ?_; first | (refine hK _ _ ?_; clear hK) | (clear hK; refine hK _ _ ?_; clear hK) | (clear hK; clear hK; refine hK _ _ ?_; clear hK)))
    refine PL.callBg rfl rfl rfl (by simp [go_sem]) (by kernel_rfl) cE (by simp [go_sem]) (by simp [go_sem]) (by simp [go_sem]) ?_
    repeat (first | (refine PC.seq fun K hK => ?_) | (refine PC.block ?_) | (refine PC.region ?_) | (refine PL.k rfl fun KK hKK => ?_; simp (disch := omega) [go_sem, stepK, f0]; refine hKK _ ?_; clear hKK KK) | (refine PL.k rfl fun KK hKK => ?_; simp [go_sem, stepK, f0]; refine hKK _ ?_; clear hKK KK) | (refine PL.g rfl rfl fun KK hKK => ?_; simp (disch := omega) [go_sem, L.stepG, f0]; refine hKK _ ?_; clear hKK KK) | (refine PL.g rfl rfl fun KK hKK => ?_; simp [go_sem, L.stepG, f0]; refine hKK _ ?_; clear hKK KK) | (refine PL.done hK ?_; clear hK) | (refine PC.skip (hK _ _ ?_); clear hK) | (refine PC.condT ?_ ?_; focus (simp [go_sem, f0]; done)) | (refine PC.condF ?_ ?_; focus (simp [go_sem, f0]; done)) | (refine PC.exit ?_; first | (refine hK _ _ ?_; clear hK) | (clear hK; refine hK _ _ ?_; clear hK) | (clear hK; clear hK; refine hK _ _ ?_; clear hK)))
    all_goals
      refine PL.callB rfl rfl (by kernel_rfl) cL (by simp [go_sem]) (by simp [go_sem]) (by simp [go_sem]) ?_
      repeat (first | (refine PC.seq fun K hK => ?_) | (refine PC.block ?_) | (refine PC.region ?_) | (refine PL.k rfl fun KK hKK => ?_; simp (disch := omega) [go_sem, stepK]; refine hKK _ ?_; clear hKK KK) | (refine PL.k rfl fun KK hKK => ?_; simp [go_sem, stepK]; refine hKK _ ?_; clear hKK KK) | (refine PL.g rfl rfl fun KK hKK => ?_; simp (disch := omega) [go_sem, L.stepG]; refine hKK _ ?_; clear hKK KK) | (refine PL.g rfl rfl fun KK hKK => ?_; simp [go_sem, L.stepG]; refine hKK _ ?_; clear hKK KK) | (refine PL.done hK ?_; clear hK) | (refine PC.skip (hK _ _ ?_); clear hK) | (refine PC.condT ?_ ?_; focus (simp [go_sem]; done)) | (refine PC.condF ?_ ?_; focus (simp [go_sem]; done)) | (refine PC.exit ?_; first | (refine hK _ _ ?_; clear hK) | (clear hK; refine hK _ _ ?_; clear hK) | (clear hK; clear hK; refine hK _ _ ?_; clear hK)))
      refine PC.loop (fun m F H' => ∃ j : Nat, j ≤ A.length ∧ m = A.length - j ∧ F 0 = slX l ∧ F 1 = S w ∧ F 6 = slI A ∧ F 13 = slI (lastT e 0) ∧ F 14 = I j ∧ F 12 = B ((decide (w.size = 0) && freeT e) || (A.take j).any fun x => decide (x ∈ lastT e 0))) (m := A.length) ⟨0, by omega, by omega, by simp [go_sem, f0], by simp [go_sem, f1], by simp [go_sem, f6], by simp [go_sem], by simp [go_sem], by rw [hz]; simp [go_sem]⟩ fun m F H' hI => ?_
      clear f0 f1 f5 f6 f7
      obtain ⟨j, hj, hm, f0, f1, f6, f13, f14, f12⟩ := hI
      by_cases hlj : j < A.length
      · have hj' : (j : Int) < A.length := by omega
        have hsucc : (A.take (j + 1)).any (fun x => decide (x ∈ lastT e 0)) = ((A.take j).any (fun x => decide (x ∈ lastT e 0)) || decide (A[j] ∈ lastT e 0)) := by
          rw [List.take_succ_eq_append_getElem hlj, List.any_append]; simp
        cases hb : ((decide (w.size = 0) && freeT e) || (A.take j).any fun x => decide (x ∈ lastT e 0))
        · rw [hb] at f12
          repeat (first | (refine PC.seq fun K hK => ?_) | (refine PC.block ?_) | (refine PC.region ?_) | (refine PL.k rfl fun KK hKK => ?_; simp (disch := omega) [go_sem, stepK, f6, f12, f13, f14, hlj, hj']; refine hKK _ ?_; clear hKK KK) | (refine PL.k rfl fun KK hKK => ?_; simp [go_sem, stepK, f6, f12, f13, f14, hlj, hj']; refine hKK _ ?_; clear hKK KK) | (refine PL.g rfl rfl fun KK hKK => ?_; simp (disch := omega) [go_sem, L.stepG, f6, f12, f13, f14, hlj, hj']; refine hKK _ ?_; clear hKK KK) | (refine PL.g rfl rfl fun KK hKK => ?_; simp [go_sem, L.stepG, f6, f12, f13, f14, hlj, hj']; refine hKK _ ?_; clear hKK KK) | (refine PL.done hK ?_; clear hK) | (refine PC.skip (hK _ _ ?_); clear hK) | (refine PC.condT ?_ ?_; focus (simp [go_sem, f6, f12, f13, f14, hlj, hj']; done)) | (refine PC.condF ?_ ?_; focus (simp [go_sem, f6, f12, f13, f14, hlj, hj']; done)) | (refine PC.exit ?_; first | (refine hK _ _ ?_; clear hK) | (clear hK; refine hK _ _ ?_; clear hK) | (clear hK; clear hK; refine hK _ _ ?_; clear hK)))
          refine PL.callBg rfl rfl rfl (by simp [go_sem]) (by kernel_rfl) (show PCall Try.prog 26 [slI (lastT e 0), I A[j]] (· = B (decide (A[j] ∈ lastT e 0))) from Has_ok (lastT e 0) A[j] (by omega)) (by simp [go_sem]) (by simp [go_sem]) (by simp [go_sem]) ?_
          repeat (first | (refine PC.seq fun K hK => ?_) | (refine PC.block ?_) | (refine PC.region ?_) | (refine PL.k rfl fun KK hKK => ?_; simp (disch := omega) [go_sem, stepK, f14]; refine hKK _ ?_; clear hKK KK) | (refine PL.k rfl fun KK hKK => ?_; simp [go_sem, stepK, f14]; refine hKK _ ?_; clear hKK KK) | (refine PL.g rfl rfl fun KK hKK => ?_; simp (disch := omega) [go_sem, L.stepG, f14]; refine hKK _ ?_; clear hKK KK) | (refine PL.g rfl rfl fun KK hKK => ?_; simp [go_sem, L.stepG, f14]; refine hKK _ ?_; clear hKK KK) | (refine PL.done hK ?_; clear hK) | (refine PC.skip (hK _ _ ?_); clear hK) | (refine PC.condT ?_ ?_; focus (simp [go_sem, f14]; done)) | (refine PC.condF ?_ ?_; focus (simp [go_sem, f14]; done)) | (refine PC.exit ?_; first | (refine hK _ _ ?_; clear hK) | (clear hK; refine hK _ _ ?_; clear hK) | (clear hK; clear hK; refine hK _ _ ?_; clear hK)))
          refine PL.nil ⟨A.length - (j + 1), by omega, j + 1, by omega, by omega, by simp [go_sem, f0], by simp [go_sem, f1], by simp [go_sem, f6], by simp [go_sem, f13], by simp [go_sem], ?_⟩
          rw [hsucc, ← Bool.or_assoc, hb]
          simp [go_sem]
        · rw [hb] at f12
          repeat (first | (refine PC.seq fun K hK => ?_) | (refine PC.block ?_) | (refine PC.region ?_) | (refine PL.k rfl fun KK hKK => ?_; simp (disch := omega) [go_sem, stepK, f6, f12, f13, f14, hlj, hj']; refine hKK _ ?_; clear hKK KK) | (refine PL.k rfl fun KK hKK => ?_; simp [go_sem, stepK, f6, f12, f13, f14, hlj, hj']; refine hKK _ ?_; clear hKK KK) | (refine PL.g rfl rfl fun KK hKK => ?_; simp (disch := omega) [go_sem, L.stepG, f6, f12, f13, f14, hlj, hj']; refine hKK _ ?_; clear hKK KK) | (refine PL.g rfl rfl fun KK hKK => ?_; simp [go_sem, L.stepG, f6, f12, f13, f14, hlj, hj']; refine hKK _ ?_; clear hKK KK) | (refine PL.done hK ?_; clear hK) | (refine PC.skip (hK _ _ ?_); clear hK) | (refine PC.condT ?_ ?_; focus (simp [go_sem, f6, f12, f13, f14, hlj, hj']; done)) | (refine PC.condF ?_ ?_; focus (simp [go_sem, f6, f12, f13, f14, hlj, hj']; done)) | (refine PC.exit ?_; first | (refine hK _ _ ?_; clear hK) | (clear hK; refine hK _ _ ?_; clear hK) | (clear hK; clear hK; refine hK _ _ ?_; clear hK)))
          refine PL.nil ⟨A.length - (j + 1), by omega, j + 1, by omega, by omega, by simp [go_sem, f0], by simp [go_sem, f1], by simp [go_sem, f6], by simp [go_sem, f13], by simp [go_sem], ?_⟩
          rw [hsucc, ← Bool.or_assoc, hb]
          simp [go_sem]
      · have hj' : ¬ (j : Int) < A.length := by omega
        have hje : j = A.length := by omega
        rw [hje, List.take_length, hlaw] at f12
        repeat (first | (refine PC.seq fun K hK => ?_) | (refine PC.block ?_) | (refine PC.region ?_) | (refine PL.k rfl fun KK hKK => ?_; simp (disch := omega) [go_sem, stepK, f0, f1, f6, f12, f14, hj']; refine hKK _ ?_; clear hKK KK) | (refine PL.k rfl fun KK hKK => ?_; simp [go_sem, stepK, f0, f1, f6, f12, f14, hj']; refine hKK _ ?_; clear hKK KK) | (refine PL.g rfl rfl fun KK hKK => ?_; simp (disch := omega) [go_sem, L.stepG, f0, f1, f6, f12, f14, hj']; refine hKK _ ?_; clear hKK KK) | (refine PL.g rfl rfl fun KK hKK => ?_; simp [go_sem, L.stepG, f0, f1, f6, f12, f14, hj']; refine hKK _ ?_; clear hKK KK) | (refine PL.done hK ?_; clear hK) | (refine PC.skip (hK _ _ ?_); clear hK) | (refine PC.condT ?_ ?_; focus (simp [go_sem, f0, f1, f6, f12, f14, hj']; done)) | (refine PC.condF ?_ ?_; focus (simp [go_sem, f0, f1, f6, f12, f14, hj']; done)) | (refine PC.exit ?_; first | (refine hK _ _ ?_; clear hK) | (clear hK; refine hK _ _ ?_; clear hK) | (clear hK; clear hK; refine hK _ _ ?_; clear hK)))
        refine PL.callB rfl rfl (by kernel_rfl) (Says_ok l e he w (by omega)) (by simp [go_sem]) (by simp [go_sem]) (by simp [go_sem]) ?_
        repeat (first | (refine PC.seq fun K hK => ?_) | (refine PC.block ?_) | (refine PC.region ?_) | (refine PL.k rfl fun KK hKK => ?_; simp (disch := omega) [go_sem, stepK]; refine hKK _ ?_; clear hKK KK) | (refine PL.k rfl fun KK hKK => ?_; simp [go_sem, stepK]; refine hKK _ ?_; clear hKK KK) | (refine PL.g rfl rfl fun KK hKK => ?_; simp (disch := omega) [go_sem, L.stepG]; refine hKK _ ?_; clear hKK KK) | (refine PL.g rfl rfl fun KK hKK => ?_; simp [go_sem, L.stepG]; refine hKK _ ?_; clear hKK KK) | (refine PL.done hK ?_; clear hK) | (refine PC.skip (hK _ _ ?_); clear hK) | (refine PC.condT ?_ ?_; focus (simp [go_sem]; done)) | (refine PC.condF ?_ ?_; focus (simp [go_sem]; done)) | (refine PC.exit ?_; first | (refine hK _ _ ?_; clear hK) | (clear hK; refine hK _ _ ?_; clear hK) | (clear hK; clear hK; refine hK _ _ ?_; clear hK)))
        (refine PL.callBg rfl rfl rfl (by simp [go_sem]) (by kernel_rfl) (knows10_ok) (by simp [go_sem]) (by simp [go_sem]) (by simp [go_sem]) ?_)
        repeat (first | (refine PC.seq fun K hK => ?_) | (refine PC.block ?_) | (refine PC.region ?_) | (refine PL.k rfl fun KK hKK => ?_; simp (disch := omega) [go_sem, stepK]; refine hKK _ ?_; clear hKK KK) | (refine PL.k rfl fun KK hKK => ?_; simp [go_sem, stepK]; refine hKK _ ?_; clear hKK KK) | (refine PL.g rfl rfl fun KK hKK => ?_; simp (disch := omega) [go_sem, L.stepG]; refine hKK _ ?_; clear hKK KK) | (refine PL.g rfl rfl fun KK hKK => ?_; simp [go_sem, L.stepG]; refine hKK _ ?_; clear hKK KK) | (refine PL.done hK ?_; clear hK) | (refine PC.skip (hK _ _ ?_); clear hK) | (refine PC.condT ?_ ?_; focus (simp [go_sem]; done)) | (refine PC.condF ?_ ?_; focus (simp [go_sem]; done)) | (refine PC.exit ?_; first | (refine hK _ _ ?_; clear hK) | (clear hK; refine hK _ _ ?_; clear hK) | (clear hK; clear hK; refine hK _ _ ?_; clear hK)))
        (refine PC.ret ?_; refine fin (.inr rfl) (by simp [resP, resP1, Try.results4, go_sem]) (by simp [go_sem]))
end Go.Proofs.Ytficeeaaaijgcaa

/-
  From a law's contract (true comes back, nothing that was there has turned) to its row, whatever its parameters' shapes.
-/
namespace Go.Proofs.Ytficeeaaaijgcaa
open Go.ChangeShapes Go.WideShapes Go.ChangeAt Go.RowKit

theorem trodAll_below {H : Type} {enc : TypeId × Value → H} {P : Program} (hl : laidOutB P = true) {W W' : World} (hb : Below W.heap.size W W') :
    ∀ (ts : List TypeId) (vs : List Value) (ds : List (DataW H)) (ps : List MemPlace), (∀ t ∈ ts, P.readableRec t = true ∧ t < P.types.size) → (∀ x ∈ ps, x.block < W.heap.size) →
      DataW.TrodAll enc P W 0 (fun _ => true) true ts vs ds ps → DataW.TrodAll enc P W' 0 (fun b => decide (b < W.heap.size)) true ts vs ds ps
  | [], vs, ds, ps, _, _, h => by
    obtain ⟨rfl, rfl, rfl⟩ := trodAll_nil h
    exact trodAll_mk0
  | t :: ts, vs, ds, ps, hr, hlt, h => by
    obtain ⟨v, vs', d, ds', p, q, rfl, rfl, rfl, h0, h1⟩ := trodAll_cons h
    have ht := hr t (by simp)
    exact trodAll_cons_mk (Below.trod hl ht.1 ht.2 h0 hb fun x hx => hlt x (by simp [hx]))
      (trodAll_below hl hb ts vs' ds' q (fun t ht => hr t (by simp [ht])) (fun x hx => hlt x (by simp [hx])) h1)

/-- A LAW's row, out of its contract. -/
theorem law_post {H : Type} {enc : TypeId × Value → H} {P : Program} {f : Func} {s : ChangeSpec} {tB : TypeId} (hl : laidOutB P = true) (hr : (f.params.toList.all fun t => P.readableRec t && decide (t < P.types.size)) = true)
    (hvars : s.vars = []) (hbool : f.resultTypes = #[tB]) (hB : P.underlying tB = some .bool) {W W' : World} {args : Array Value} {ds gs : List (DataW H)} {before : List MemPlace}
    (hW : DataW.Whole enc P f.params.toList s.vars false W args.toList ds gs before) (hfn : s.fn H ds = { results := [.lit (.bool true)], args := ds }) (hb : Below W.heap.size W W') :
    s.post enc P f false true false false W args (.bool true) W' := by
  have hW' := hW
  obtain ⟨p, q, hA, hV, hbef, _, _⟩ := hW
  rw [hvars] at hV
  obtain ⟨rfl, rfl⟩ := trodVars_none hV
  rw [List.append_nil] at hbef
  subst hbef
  have hlt : ∀ x ∈ before, x.block < W.heap.size := fun x hx => by simpa using hW'.lt x hx
  have hr' : ∀ t ∈ f.params.toList, P.readableRec t = true ∧ t < P.types.size := by
    intro t ht
    have := List.all_eq_true.1 hr t ht
    simpa using this
  refine ⟨ds, [], before, [], before, [], hW', ?_, ?_, ?_, hb.frame _, fun h => by cases h⟩
  · rw [List.append_nil, hfn, hbool]
    exact trodAll_mk1 (shut_bool hB true)
  · rw [List.append_nil, hfn]
    exact trodAll_below hl hb _ _ _ _ hr' hlt hA
  · rw [List.append_nil, hfn, hvars]
    rfl

/-- an argument of type []int, as this family reads it -/
theorem open_I {H : Type} {enc : TypeId × Value → H} {P : Program} {t e : TypeId} {w : World} {base : Nat} {held : Bool} {fuel : Nat} {a0 : Option Addr} {len cap : Nat} {d : DataW H} {p : List MemPlace} (ht : P.underlying t = some (.slice e)) (he : P.underlying e = some (.int .i64)) (hc : P.cellsOf e = 1)
    (hf : DataW.trod enc P w base (fun _ => true) held fuel t (Value.slice a0 len cap).cells.toList = some (d, p)) :
    ∃ l : List Int, RdI w (.slice a0 len cap) l ∧ CapOK (.slice a0 len cap) ∧ ∀ x ∈ l, -9223372036854775808 ≤ x ∧ x ≤ 9223372036854775807 := by
  rcases open_ints ht he hc hf with ⟨hcs, hx⟩ | ⟨a, len', cap', zs, hcs, _, hl, hm, hz, hx, hcell, hwz⟩
  · simp [Value.cells] at hcs
    obtain ⟨rfl, rfl, rfl⟩ := hcs
    exact ⟨[], Rd_nil _ _ _, Nat.le_refl _, fun x hx => by cases hx⟩
  · simp [Value.cells] at hcs
    obtain ⟨rfl, rfl, rfl⟩ := hcs
    simp only [if_true] at hz
    refine ⟨zs.take len, ⟨some a, cap, ?_, fun j hj => ?_⟩, hl, fun x hx => ?_⟩
    · rw [List.length_take, Nat.min_eq_left (by omega)]
    · rw [List.length_take] at hj
      have hcj := hcell j (by omega)
      have hsp := World.cell?_spot (hcell 0 (by omega))
      obtain ⟨b, o, sp⟩ := a
      have hsp' : sp = none := by simpa [Addr.add] using hsp
      subst hsp'
      refine ⟨b, o, rfl, ?_⟩
      rw [add_plain] at hcj
      rw [hcj, List.getElem_take, List.getD_eq_getElem?_getD, List.getElem?_eq_getElem (by omega)]
      rfl
    · have := hwz x (List.mem_of_mem_take hx)
      simpa [Lit.wf, IntKind.min, IntKind.max, IntKind.signed, IntKind.bits] using this
end Go.Proofs.Ytficeeaaaijgcaa

/-
  An argument of type []api.Rx, as the rows read it.
-/
namespace Go.Proofs.Ytficeeaaaijgcaa
open Go Go.RowKit Go.ChangeShapes Go.WideShapes L
set_option linter.unusedVariables false
set_option linter.unusedSimpArgs false

theorem cellsRx : Try.prog.cellsOf 88 = 5 := by kernel_rfl
theorem cellsSetA : Try.prog.cellsOf 28 = 4 := by kernel_rfl
theorem cellsKd : Try.prog.cellsOf 86 = 1 := by kernel_rfl
theorem cellsU64 : Try.prog.cellsOf 26 = 1 := by kernel_rfl

instance : Inhabited Rx := ⟨⟨0, 0, 0, 0, 0⟩⟩
set_option maxRecDepth 20000 in
theorem open_rxcells {H : Type} {enc : TypeId × Value → H} {w : World} {base fuel : Nat} {spare : Nat → Bool} {held : Bool} {cs : List Value} {x : DataW H × List MemPlace} (h : DataW.trod enc Try.prog w base spare held fuel 88 cs = some x) :
    ∃ r : Rx, cs = [.int .i64 r.kind, .int .u64 r.s0, .int .u64 r.s1, .int .u64 r.s2, .int .u64 r.s3] := by
  obtain ⟨xs, n, _, _, hcl, hxl, hf⟩ := DataW.trod_struct Try.underlying88 h
  rw [cellsRx] at hcl
  match cs, hcl with
  | [v0, v1, v2, v3, v4], _ =>
    have g0 := hf 0 _ rfl
    have g1 := hf 1 _ rfl
    have hx2 : xs.length = 2 := hxl
    match xs, hx2 with
    | [y0, y1], _ =>
      simp [cellsKd, cellsSetA] at g0 g1
      obtain ⟨k, hk, _, _⟩ := DataW.trod_int Try.underlying86 g0
      obtain ⟨zs, m, _, _, _, hzl, hz⟩ := DataW.trod_array Try.underlying28 g1
      have e := fun (i : Nat) (hi : i < 4) => hz i hi
      match zs, hzl with
      | [z0, z1, z2, z3], _ =>
        have e0 := e 0 (by decide)
        have e1 := e 1 (by decide)
        have e2 := e 2 (by decide)
        have e3 := e 3 (by decide)
        simp [cellsU64] at e0 e1 e2 e3
        obtain ⟨s0, h0, _, _⟩ := DataW.trod_int Try.underlying26 e0
        obtain ⟨s1, h1, _, _⟩ := DataW.trod_int Try.underlying26 e1
        obtain ⟨s2, h2, _, _⟩ := DataW.trod_int Try.underlying26 e2
        obtain ⟨s3, h3, _, _⟩ := DataW.trod_int Try.underlying26 e3
        simp at hk h0 h1 h2 h3
        subst hk h0 h1 h2 h3
        exact ⟨⟨k, s0, s1, s2, s3⟩, rfl⟩

theorem open_Rx {H : Type} {enc : TypeId × Value → H} {w : World} {base fuel : Nat} {spare : Nat → Bool} {held : Bool} {a0 : Option Addr} {len cap : Nat} {d : DataW H} {p : List MemPlace}
    (h : DataW.trod enc Try.prog w base spare held fuel 22 (Value.slice a0 len cap).cells.toList = some (d, p)) :
    ∃ l : List Rx, Rp (fun _ => False) PHeap.empty V0 w (slX l) (.slice a0 len cap) := by
  rcases Go.Deep.open_slice Try.underlying22 h with ⟨hcs, _⟩ | ⟨a, len', cap', m, n, D, Pl, hcs, hb, hl, hm, hmm, _, hx⟩
  · simp [Value.cells] at hcs
    obtain ⟨rfl, rfl, rfl⟩ := hcs
    exact ⟨[], .nil _ _ _⟩
  · simp [Value.cells] at hcs
    obtain ⟨rfl, rfl, rfl⟩ := hcs
    have hlm : len ≤ m := by rw [hmm]; split <;> omega
    by_cases h0 : len = 0
    · subst h0; exact ⟨[], .nil _ _ _⟩
    have each : ∀ i, i < m → ∃ r : Rx, w.cell? (a.add (i * 5)) = some (.int .i64 r.kind) ∧ w.cell? (a.add (i * 5 + 1)) = some (.int .u64 r.s0) ∧ w.cell? (a.add (i * 5 + 2)) = some (.int .u64 r.s1) ∧ w.cell? (a.add (i * 5 + 3)) = some (.int .u64 r.s2) ∧ w.cell? (a.add (i * 5 + 4)) = some (.int .u64 r.s3) := fun i hi => by
      obtain ⟨cs', h1, h2⟩ := hx i hi
      rw [cellsRx] at h1
      obtain ⟨_, hlen, hcell⟩ := World.cells?_some h1
      obtain ⟨r, rfl⟩ := open_rxcells h2
      have e0 := hcell 0 (by decide)
      have e1 := hcell 1 (by decide)
      have e2 := hcell 2 (by decide)
      have e3 := hcell 3 (by decide)
      have e4 := hcell 4 (by decide)
      rw [Go.Deep.add_add] at e0 e1 e2 e3 e4
      exact ⟨r, e0, e1, e2, e3, e4⟩
    obtain ⟨q, hq⟩ := Go.Deep.choose_lt each
    obtain ⟨b, o, spot⟩ := a
    have hspot : spot = none := by
      have := (hq 0 (by omega)).1
      simpa [Addr.add] using World.cell?_spot this
    subst hspot
    have hbl : b < w.heap.size := by
      have := (hq 0 (by omega)).1
      unfold World.cell? at this
      by_cases hlt : b < w.heap.size
      · exact hlt
      · simp [Addr.add, Array.getElem?_eq_none (by omega : w.heap.size ≤ b)] at this
    refine ⟨(List.range len).map q, ?_⟩
    have hu : ∀ y ∈ ((List.range len).map q).map encX, y.cells.length = 5 := fun y hy => by obtain ⟨z, _, rfl⟩ := List.mem_map.1 hy; rfl
    have hlx : (((List.range len).map q).map encX).length = len := by simp
    have hfl : ∀ (xs : List PV), (∀ y ∈ xs, y.cells.length = 5) → (xs.flatMap PV.cells).length = xs.length * 5 := fun xs hxs => flat_length xs hxs
    have key : ∀ (i : Nat) (p : PV), ((((List.range len).map q).map encX).flatMap PV.cells)[i]? = some p → ∃ v, p = .u v ∧ w.cell? ⟨b, o + i, none⟩ = some v := fun i p hp => by
      have hi : i < len * 5 := by
        have := (List.getElem?_eq_some_iff.1 hp).1
        rw [hfl _ hu, hlx] at this
        exact this
      have hj : i / 5 < len := by omega
      have hk : i % 5 < 5 := by omega
      have hy : (((List.range len).map q).map encX)[i / 5]? = some (encX (q (i / 5))) := by simp [hj]
      have e := flat_at hu (i / 5) (i % 5) _ hy hk
      rw [show i / 5 * 5 + i % 5 = i by omega, hp] at e
      obtain ⟨c0, c1, c2, c3, c4⟩ := hq (i / 5) (by omega)
      have hadd : ∀ k, w.cell? ((⟨b, o, none⟩ : Addr).add k) = w.cell? ⟨b, o + k, none⟩ := fun k => by rw [addr_add]
      rw [hadd] at c0 c1 c2 c3 c4
      have h5 : i % 5 = 0 ∨ i % 5 = 1 ∨ i % 5 = 2 ∨ i % 5 = 3 ∨ i % 5 = 4 := by omega
      rcases h5 with h5 | h5 | h5 | h5 | h5 <;> rw [h5] at e <;> simp [encX, PV.cells] at e <;> subst e
      · exact ⟨_, rfl, by rw [show o + i = o + i / 5 * 5 by omega]; exact c0⟩
      · exact ⟨_, rfl, by rw [show o + i = o + (i / 5 * 5 + 1) by omega]; exact c1⟩
      · exact ⟨_, rfl, by rw [show o + i = o + (i / 5 * 5 + 2) by omega]; exact c2⟩
      · exact ⟨_, rfl, by rw [show o + i = o + (i / 5 * 5 + 3) by omega]; exact c3⟩
      · exact ⟨_, rfl, by rw [show o + i = o + (i / 5 * 5 + 4) by omega]; exact c4⟩
    have hsl := Rp.sl (Z := fun _ => False) (H := PHeap.empty) (V := V0) (w := w) 5 (((List.range len).map q).map encX) b o cap (fun i => (w.cell? ⟨b, o + i, none⟩).getD undef) hu (by simpa using hl) (fun h => (pz_empty.1 h).elim) hbl
      (fun i p hp => by obtain ⟨v, _, hv⟩ := key i p hp; rw [hv]; rfl) (fun i p hp => by obtain ⟨v, rfl, hv⟩ := key i p hp; simp only [hv, Option.getD_some]; exact .u v)
    rwa [hlx] at hsl

/-- a law's contract over pure values, as a row takes it -/
theorem law_calls {f : FuncId} {qs : List PV} (h : PCall Try.prog f qs (· = B true)) {w : World} {vs : List Value} (hr : RpL (fun _ => False) PHeap.empty V0 w qs vs) : Calls Try.prog f vs.toArray w fun e w' => e = .returned (.bool true) ∧ Below w.heap.size w w' :=
  (h (fun _ => False) w vs (fun b hb => hb.elim) hr).mono fun e w' ⟨v, p, he, hp, _, hR, hb⟩ => by
    subst hp
    rw [rpu hR] at he
    exact ⟨he, hb⟩
theorem rpl_nil {Z : Nat → Prop} {H : PHeap} {V : Nat → Value} {w : World} : RpL Z H V w [] [] := ⟨rfl, fun i p v h => by simp at h⟩
theorem rpl_cons {Z : Nat → Prop} {H : PHeap} {V : Nat → Value} {w : World} {p : PV} {v : Value} {ps : List PV} {vs : List Value} (h : Rp Z H V w p v) (hs : RpL Z H V w ps vs) : RpL Z H V w (p :: ps) (v :: vs) := ⟨by simp [hs.1], fun i a b h1 h2 => by
  cases i with
  | zero => simp at h1 h2; subst h1; subst h2; exact h
  | succ i => exact hs.2 i a b (by simpa using h1) (by simpa using h2)⟩
section
variable {P : Program} {H : Type} {enc : TypeId × Value → H} {w : World} {base b0 : Nat} {spare : Nat → Bool} {held : Bool}
theorem open_string {r : Reach} {t : TypeId} {v : Value} {d : DataW H} {ps : List MemPlace} (ht : P.underlying t = some .string) (hval : Value.okWide P w r b0 t v) (hd : DataW.Trod enc P w base spare held t v d ps) :
    ∃ s : ByteArray, v = .string s ∧ d = .lit (.string s.data.toList) ∧ ps = [] ∧ s.size ≤ maxLen := by
  obtain ⟨s, rfl⟩ := Go.WideShapes.okWide_string ht hval
  obtain ⟨fuel, hf⟩ := hd
  cases fuel with
  | zero => simp [DataW.trod] at hf
  | succ n =>
    simp [DataW.trod, ht, Value.cells] at hf
    obtain ⟨h1, h2, h3⟩ := hf
    exact ⟨s, rfl, h2.symm, h3, h1⟩
end
end Go.Proofs.Ytficeeaaaijgcaa
