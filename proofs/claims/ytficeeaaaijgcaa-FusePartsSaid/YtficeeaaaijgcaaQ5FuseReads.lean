/-
  Texts of this proof, put together: Sd3, Fa, MrFn, Nm1, Nm2, MmFn, Nm3, Nm4, Mr1, Mr2, MlFn, Fb, Fc, Fd, Fe, Ff, Fg, Fh.
-/
import Derived.OneCell
import Derived.StillTailTactics
import Derived.Outline
import Derived.Deep.QuietTactic
import Derived.BigQuiet
import Derived.Test.YtficeeaaaijgcaaQ4FuseReads

/-
  SpotWords, of chapter 10, over pure values.
-/
namespace Go.Proofs.Ytficeeaaaijgcaa
open Go Go.RowKit L
set_option linter.unusedVariables false
set_option linter.unusedSimpArgs false

@[go_sem] theorem NoP_slX (l : List Rx) : NoP (slX l) = True := eq_true (slX_noP l)
@[go_sem] theorem NoP_slI (l : List Int) : NoP (slI l) = True := eq_true (noP_slI l)
@[go_sem] theorem NoP_slS (l : List Rx) : NoP (slS l) = True := eq_true (slS_noP l)
@[go_sem] theorem lenP_slI (H : PHeap) (l : List Int) : lenP Try.prog H 30 (slI l) = some (I l.length) := by simp [slI, go_sem]
@[go_sem] theorem indexAddrP_slI (H : PHeap) (l : List Int) (z : Int) (h0 : 0 ≤ z) : indexAddrP Try.prog H 30 (slI l) (I z) = (l[z.toNat]?).elim none fun y => some (.rp [I y]) := by
  rw [slI, indexAddrP_sl esz_30 _ _ h0, List.getElem?_map]
  cases l[z.toNat]? <;> rfl
theorem encS_noP (x : Rx) : NoP (encS x) := .agg _ fun c hc => by simp [encS] at hc; rcases hc with rfl | rfl | rfl | rfl <;> exact .u _
theorem set_at {e : E} {x : Int} (h : 0 ≤ x ∧ x < nset e) : ∃ y, (setsT e)[x.toNat]? = some y ∧ ∀ b, hasI (setsT e) x b = hasS y b := by
  have hl : x.toNat < (setsT e).length := by rw [setsT_len]; omega
  refine ⟨(setsT e)[x.toNat], List.getElem?_eq_getElem hl, fun b => ?_⟩
  unfold hasI
  simp [List.getD, hl]
def ownI (H : PHeap) (id v : Nat) (l : List Int) : Prop := H id = ⟨v, some (.row 3 1 l.length (l.map I))⟩
theorem flatMap_take {l : List Int} {f : Int → List Int} {j : Nat} (h : j < l.length) : (l.take (j + 1)).flatMap f = (l.take j).flatMap f ++ f l[j] := by
  rw [List.take_succ_eq_append_getElem h, List.flatMap_append]; simp
theorem flat_len {N : Nat} (l : List Int) (f : Int → List Int) (h : ∀ x, (f x).length ≤ N) : (l.flatMap f).length ≤ l.length * N := by
  induction l with
  | nil => simp
  | cons x l ih => rw [List.flatMap_cons, List.length_append, List.length_cons, Nat.add_mul]; have := h x; omega
theorem mapI_cells (l : List Int) : (l.map I).flatMap PV.cells = l.map I := by
  induction l with
  | nil => rfl
  | cons m ms ih => rw [List.map_cons, List.flatMap_cons, ih]; rfl
theorem srcI (H : PHeap) (l : List Int) : srcP H 1 (slI l) = some (l.length, l.map I) := by rw [slI, srcP, mapI_cells]; simp
theorem leafIs (H : PHeap) (l : List Int) : ∀ p ∈ l.map I, leafOk H p = true := fun p hp => by obtain ⟨y, _, rfl⟩ := List.mem_map.1 hp; rfl
theorem ownI.view {H : PHeap} {id v : Nat} {l : List Int} (h : ownI H id v l) : View H (.ps id v) (slI l) :=
  View.row1 (t := 3) (n := l.length) (by simp [liveRow, show H id = _ from h]) (by simp) fun c hc => by obtain ⟨q, _, rfl⟩ := List.mem_map.1 hc; exact ⟨.u _, rfl⟩

set_option maxRecDepth 20000 in
set_option maxHeartbeats 4000000 in
theorem SpotWords_ok (l : List Rx) (w : ByteArray) : PCall Try.prog 4 [slX l, S w] (· = B true) := by
  have nX := slX_noP l
  have hlenX : ∀ H, lenP Try.prog H 22 (slX l) = some (I l.length) := fun H => by simp [slX, go_sem]
  refine PCall.intro' Try.func4 rfl Try.ntmps4 (by simp) fun W => ?_
  by_cases h1 : l.length ≤ 60
  rotate_left
  · have h1' : (60 : Int) < l.length := by omega
    repeat (first | (refine PC.seq fun K hK => ?_) | (refine PC.block ?_) | (refine PC.region ?_) | (refine PL.k rfl fun KK hKK => ?_; simp (disch := omega) [go_sem, stepK, hlenX, h1']; refine hKK _ ?_; clear hKK KK) | (refine PL.k rfl fun KK hKK => ?_; simp [go_sem, stepK, hlenX, h1']; refine hKK _ ?_; clear hKK KK) | (refine PL.g rfl rfl fun KK hKK => ?_; simp (disch := omega) [go_sem, L.stepG, hlenX, h1']; refine hKK _ ?_; clear hKK KK) | (refine PL.g rfl rfl fun KK hKK => ?_; simp [go_sem, L.stepG, hlenX, h1']; refine hKK _ ?_; clear hKK KK) | (refine PL.done hK ?_; clear hK) | (refine PC.skip (hK _ _ ?_); clear hK) | (refine PC.condT ?_ ?_; focus (simp [go_sem, hlenX, h1']; done)) | (refine PC.condF ?_ ?_; focus (simp [go_sem, hlenX, h1']; done)) | (refine PC.exit ?_; first | (refine hK _ _ ?_; clear hK) | (clear hK; refine hK _ _ ?_; clear hK) | (clear hK; clear hK; refine hK _ _ ?_; clear hK)))
    refine PL.callB rfl rfl (by kernel_rfl) knows10_ok (by simp [go_sem]) (by simp [go_sem]) (by simp [go_sem]) ?_
    repeat (first | (refine PC.seq fun K hK => ?_) | (refine PC.block ?_) | (refine PC.region ?_) | (refine PL.k rfl fun KK hKK => ?_; simp (disch := omega) [go_sem, stepK]; refine hKK _ ?_; clear hKK KK) | (refine PL.k rfl fun KK hKK => ?_; simp [go_sem, stepK]; refine hKK _ ?_; clear hKK KK) | (refine PL.g rfl rfl fun KK hKK => ?_; simp (disch := omega) [go_sem, L.stepG]; refine hKK _ ?_; clear hKK KK) | (refine PL.g rfl rfl fun KK hKK => ?_; simp [go_sem, L.stepG]; refine hKK _ ?_; clear hKK KK) | (refine PL.done hK ?_; clear hK) | (refine PC.skip (hK _ _ ?_); clear hK) | (refine PC.condT ?_ ?_; focus (simp [go_sem]; done)) | (refine PC.condF ?_ ?_; focus (simp [go_sem]; done)) | (refine PC.exit ?_; first | (refine hK _ _ ?_; clear hK) | (clear hK; refine hK _ _ ?_; clear hK) | (clear hK; clear hK; refine hK _ _ ?_; clear hK)))
    (refine PC.ret ?_; refine fin (.inr rfl) (by simp [resP, resP1, Try.results4, go_sem]) (by simp [go_sem]))
  have h1' : ¬ (60 : Int) < l.length := by omega
  by_cases h2 : w.size ≤ 30
  rotate_left
  · have h2' : (30 : Int) < w.size := by omega
    repeat (first | (refine PC.seq fun K hK => ?_) | (refine PC.block ?_) | (refine PC.region ?_) | (refine PL.k rfl fun KK hKK => ?_; simp (disch := omega) [go_sem, stepK, hlenX, h1', h2']; refine hKK _ ?_; clear hKK KK) | (refine PL.k rfl fun KK hKK => ?_; simp [go_sem, stepK, hlenX, h1', h2']; refine hKK _ ?_; clear hKK KK) | (refine PL.g rfl rfl fun KK hKK => ?_; simp (disch := omega) [go_sem, L.stepG, hlenX, h1', h2']; refine hKK _ ?_; clear hKK KK) | (refine PL.g rfl rfl fun KK hKK => ?_; simp [go_sem, L.stepG, hlenX, h1', h2']; refine hKK _ ?_; clear hKK KK) | (refine PL.done hK ?_; clear hK) | (refine PC.skip (hK _ _ ?_); clear hK) | (refine PC.condT ?_ ?_; focus (simp [go_sem, hlenX, h1', h2']; done)) | (refine PC.condF ?_ ?_; focus (simp [go_sem, hlenX, h1', h2']; done)) | (refine PC.exit ?_; first | (refine hK _ _ ?_; clear hK) | (clear hK; refine hK _ _ ?_; clear hK) | (clear hK; clear hK; refine hK _ _ ?_; clear hK)))
    refine PL.callB rfl rfl (by kernel_rfl) knows10_ok (by simp [go_sem]) (by simp [go_sem]) (by simp [go_sem]) ?_
    repeat (first | (refine PC.seq fun K hK => ?_) | (refine PC.block ?_) | (refine PC.region ?_) | (refine PL.k rfl fun KK hKK => ?_; simp (disch := omega) [go_sem, stepK]; refine hKK _ ?_; clear hKK KK) | (refine PL.k rfl fun KK hKK => ?_; simp [go_sem, stepK]; refine hKK _ ?_; clear hKK KK) | (refine PL.g rfl rfl fun KK hKK => ?_; simp (disch := omega) [go_sem, L.stepG]; refine hKK _ ?_; clear hKK KK) | (refine PL.g rfl rfl fun KK hKK => ?_; simp [go_sem, L.stepG]; refine hKK _ ?_; clear hKK KK) | (refine PL.done hK ?_; clear hK) | (refine PC.skip (hK _ _ ?_); clear hK) | (refine PC.condT ?_ ?_; focus (simp [go_sem]; done)) | (refine PC.condF ?_ ?_; focus (simp [go_sem]; done)) | (refine PC.exit ?_; first | (refine hK _ _ ?_; clear hK) | (clear hK; refine hK _ _ ?_; clear hK) | (clear hK; clear hK; refine hK _ _ ?_; clear hK)))
    (refine PC.ret ?_; refine fin (.inr rfl) (by simp [resP, resP1, Try.results4, go_sem]) (by simp [go_sem]))
  have h2' : ¬ (30 : Int) < w.size := by omega
  repeat (first | (refine PC.seq fun K hK => ?_) | (refine PC.block ?_) | (refine PC.region ?_) | (refine PL.k rfl fun KK hKK => ?_; simp (disch := omega) [go_sem, stepK, hlenX, h1', h2']; refine hKK _ ?_; clear hKK KK) | (refine PL.k rfl fun KK hKK => ?_; simp [go_sem, stepK, hlenX, h1', h2']; refine hKK _ ?_; clear hKK KK) | (refine PL.g rfl rfl fun KK hKK => ?_; simp (disch := omega) [go_sem, L.stepG, hlenX, h1', h2']; refine hKK _ ?_; clear hKK KK) | (refine PL.g rfl rfl fun KK hKK => ?_; simp [go_sem, L.stepG, hlenX, h1', h2']; refine hKK _ ?_; clear hKK KK) | (refine PL.done hK ?_; clear hK) | (refine PC.skip (hK _ _ ?_); clear hK) | (refine PC.condT ?_ ?_; focus (simp [go_sem, hlenX, h1', h2']; done)) | (refine PC.condF ?_ ?_; focus (simp [go_sem, hlenX, h1', h2']; done)) | (refine PC.exit ?_; first | (refine hK _ _ ?_; clear hK) | (clear hK; refine hK _ _ ?_; clear hK) | (clear hK; clear hK; refine hK _ _ ?_; clear hK)))
  (refine PL.callBg rfl rfl rfl (by simp [go_sem]) (by kernel_rfl) (ref7Check_ok l) (by simp [go_sem]) (by simp [go_sem]) (by simp [go_sem]) ?_)
  by_cases h3 : checkL l = 0
  rotate_left
  · repeat (first | (refine PC.seq fun K hK => ?_) | (refine PC.block ?_) | (refine PC.region ?_) | (refine PL.k rfl fun KK hKK => ?_; simp (disch := omega) [go_sem, stepK, h3]; refine hKK _ ?_; clear hKK KK) | (refine PL.k rfl fun KK hKK => ?_; simp [go_sem, stepK, h3]; refine hKK _ ?_; clear hKK KK) | (refine PL.g rfl rfl fun KK hKK => ?_; simp (disch := omega) [go_sem, L.stepG, h3]; refine hKK _ ?_; clear hKK KK) | (refine PL.g rfl rfl fun KK hKK => ?_; simp [go_sem, L.stepG, h3]; refine hKK _ ?_; clear hKK KK) | (refine PL.done hK ?_; clear hK) | (refine PC.skip (hK _ _ ?_); clear hK) | (refine PC.condT ?_ ?_; focus (simp [go_sem, h3]; done)) | (refine PC.condF ?_ ?_; focus (simp [go_sem, h3]; done)) | (refine PC.exit ?_; first | (refine hK _ _ ?_; clear hK) | (clear hK; refine hK _ _ ?_; clear hK) | (clear hK; clear hK; refine hK _ _ ?_; clear hK)))
    (refine PL.call rfl rfl (by kernel_rfl) (knows10_ok) (by simp [go_sem]) (by simp [go_sem]) (by simp [go_sem]) ?_)
    repeat (first | (refine PC.seq fun K hK => ?_) | (refine PC.block ?_) | (refine PC.region ?_) | (refine PL.k rfl fun KK hKK => ?_; simp (disch := omega) [go_sem, stepK]; refine hKK _ ?_; clear hKK KK) | (refine PL.k rfl fun KK hKK => ?_; simp [go_sem, stepK]; refine hKK _ ?_; clear hKK KK) | (refine PL.g rfl rfl fun KK hKK => ?_; simp (disch := omega) [go_sem, L.stepG]; refine hKK _ ?_; clear hKK KK) | (refine PL.g rfl rfl fun KK hKK => ?_; simp [go_sem, L.stepG]; refine hKK _ ?_; clear hKK KK) | (refine PL.done hK ?_; clear hK) | (refine PC.skip (hK _ _ ?_); clear hK) | (refine PC.condT ?_ ?_; focus (simp [go_sem]; done)) | (refine PC.condF ?_ ?_; focus (simp [go_sem]; done)) | (refine PC.exit ?_; first | (refine hK _ _ ?_; clear hK) | (clear hK; refine hK _ _ ?_; clear hK) | (clear hK; clear hK; refine hK _ _ ?_; clear hK)))
    (refine PC.ret ?_; refine fin (.inr rfl) (by simp [resP, resP1, Try.results4, go_sem]) (by simp [go_sem]))
  obtain ⟨e, he⟩ := wfx_of l h3
  obtain ⟨hS, hF, hL, hE, hO⟩ := sp_of he
  have cS := Sets_ok l
  have cF := First_ok l
  have cL := Last_ok l
  have cE := Free_ok l
  have cO := fun i => Follow_ok l i
  rw [hS] at cS
  rw [hF] at cF
  rw [hL] at cL
  rw [hE] at cE
  simp only [hO] at cO
  have hns : nset e ≤ 60 := by have := nset_le e; rw [← he.2] at this; omega
  have hsl := setsT_len e
  have hlenS : ∀ H, lenP Try.prog H 24 (slS (setsT e)) = some (I (nset e)) := fun H => by simp [slS, go_sem, hsl]
  repeat (first | (refine PC.seq fun K hK => ?_) | (refine PC.block ?_) | (refine PC.region ?_) | (refine PL.k rfl fun KK hKK => ?_; simp (disch := omega) [go_sem, stepK, h3]; refine hKK _ ?_; clear hKK KK) | (refine PL.k rfl fun KK hKK => ?_; simp [go_sem, stepK, h3]; refine hKK _ ?_; clear hKK KK) | (refine PL.g rfl rfl fun KK hKK => ?_; simp (disch := omega) [go_sem, L.stepG, h3]; refine hKK _ ?_; clear hKK KK) | (refine PL.g rfl rfl fun KK hKK => ?_; simp [go_sem, L.stepG, h3]; refine hKK _ ?_; clear hKK KK) | (refine PL.done hK ?_; clear hK) | (refine PC.skip (hK _ _ ?_); clear hK) | (refine PC.condT ?_ ?_; focus (simp [go_sem, h3]; done)) | (refine PC.condF ?_ ?_; focus (simp [go_sem, h3]; done)) | (refine PC.exit ?_; first | (refine hK _ _ ?_; clear hK) | (clear hK; refine hK _ _ ?_; clear hK) | (clear hK; clear hK; refine hK _ _ ?_; clear hK)))
  refine PL.callB rfl rfl (by kernel_rfl) cS (by simp [go_sem]) (by simp [go_sem]) (by simp [go_sem]) ?_
  repeat (first | (refine PC.seq fun K hK => ?_) | (refine PC.block ?_) | (refine PC.region ?_) | (refine PL.k rfl fun KK hKK => ?_; simp (disch := omega) [go_sem, stepK]; refine hKK _ ?_; clear hKK KK) | (refine PL.k rfl fun KK hKK => ?_; simp [go_sem, stepK]; refine hKK _ ?_; clear hKK KK) | (refine PL.g rfl rfl fun KK hKK => ?_; simp (disch := omega) [go_sem, L.stepG]; refine hKK _ ?_; clear hKK KK) | (refine PL.g rfl rfl fun KK hKK => ?_; simp [go_sem, L.stepG]; refine hKK _ ?_; clear hKK KK) | (refine PL.done hK ?_; clear hK) | (refine PC.skip (hK _ _ ?_); clear hK) | (refine PC.condT ?_ ?_; focus (simp [go_sem]; done)) | (refine PC.condF ?_ ?_; focus (simp [go_sem]; done)) | (refine PC.exit ?_; first | (refine hK _ _ ?_; clear hK) | (clear hK; refine hK _ _ ?_; clear hK) | (clear hK; clear hK; refine hK _ _ ?_; clear hK)))
  refine PL.buildSliceR (d := 31) rfl rfl rfl (by simp) selem_30 rfl (by omega) (ips := []) (by simp [go_sem]) (by simp [litOk]) (ps := []) rfl ?_
  repeat (first | (refine PC.seq fun K hK => ?_) | (refine PC.block ?_) | (refine PC.region ?_) | (refine PL.k rfl fun KK hKK => ?_; simp (disch := omega) [go_sem, stepK]; refine hKK _ ?_; clear hKK KK) | (refine PL.k rfl fun KK hKK => ?_; simp [go_sem, stepK]; refine hKK _ ?_; clear hKK KK) | (refine PL.g rfl rfl fun KK hKK => ?_; simp (disch := omega) [go_sem, L.stepG]; refine hKK _ ?_; clear hKK KK) | (refine PL.g rfl rfl fun KK hKK => ?_; simp [go_sem, L.stepG]; refine hKK _ ?_; clear hKK KK) | (refine PL.done hK ?_; clear hK) | (refine PC.skip (hK _ _ ?_); clear hK) | (refine PC.condT ?_ ?_; focus (simp [go_sem]; done)) | (refine PC.condF ?_ ?_; focus (simp [go_sem]; done)) | (refine PC.exit ?_; first | (refine hK _ _ ?_; clear hK) | (clear hK; refine hK _ _ ?_; clear hK) | (clear hK; clear hK; refine hK _ _ ?_; clear hK)))
  refine PC.loop (fun m F H' => ∃ k : Nat, k ≤ w.size ∧ m = w.size - k ∧ F 0 = slX l ∧ F 1 = S w ∧ F 5 = slS (setsT e) ∧ F 6 = slI (nowN e w k) ∧ F 7 = I k) (m := w.size) ⟨0, by omega, by omega, by simp [go_sem], by simp [go_sem], by simp [go_sem], by simp [go_sem, nowN, slI], by simp [go_sem]⟩ fun m F H' hI => ?_
  obtain ⟨k, hk, hm, f0, f1, f5, f6, f7⟩ := hI
  obtain ⟨nd, nr, nl⟩ := nowN_ok e w k
  by_cases hlt : k < w.size
  · have hnx := nextN_range e k (nowN e w k)
    have hnl : (nextN e k (nowN e w k)).length ≤ 4000 := by
      unfold nextN
      split
      · have := firstT_len e 0; omega
      · have h4 := flat_len (nowN e w k) (folR e) (folR_len e)
        have := Nat.mul_le_mul (show (nowN e w k).length ≤ 60 by omega) hns
        omega
    refine PC.seq fun K2 hK2 => ?_
    refine PC.seq fun K hK => ?_
    refine PC.region ?_
    repeat (refine PL.k rfl fun KK hKK => ?_; simp [go_sem, stepK, f1, f7, hlt]; refine hKK _ ?_; clear hKK KK)
    refine PL.done hK ?_; clear hK
    refine PC.condT (by simp [go_sem]) ?_
    refine PC.skip (hK2 _ _ ?_); clear hK2
    refine PC.seq fun K2 hK2 => ?_
    refine PC.block ?_
    refine PC.cut3 (fun F H => F 0 = slX l ∧ F 1 = S w ∧ F 5 = slS (setsT e) ∧ F 7 = I k ∧ F 8 = slI (nextN e k (nowN e w k))) ?_ ?_
    · refine PC.region ?_
      refine PL.buildSliceA 60 (d := 38) rfl rfl rfl (by simp) selem_30 rfl (by omega) (by unfold maxLen; omega) (ips := []) (by simp [go_sem]) (by simp [litOk]) (cs := []) rfl fun v0 H0 b0 o0 => ?_
      repeat (refine PL.k rfl fun KK hKK => ?_; simp [go_sem, stepK]; refine hKK _ ?_; clear hKK KK)
      refine PL.nil ?_
      by_cases hk0 : k = 0
      · subst hk0
        repeat (first | (refine PC.seq fun K hK => ?_) | (refine PC.block ?_) | (refine PC.region ?_) | (refine PL.k rfl fun KK hKK => ?_; simp (disch := omega) [go_sem, stepK, f7, f0]; refine hKK _ ?_; clear hKK KK) | (refine PL.k rfl fun KK hKK => ?_; simp [go_sem, stepK, f7, f0]; refine hKK _ ?_; clear hKK KK) | (refine PL.g rfl rfl fun KK hKK => ?_; simp (disch := omega) [go_sem, L.stepG, f7, f0]; refine hKK _ ?_; clear hKK KK) | (refine PL.g rfl rfl fun KK hKK => ?_; simp [go_sem, L.stepG, f7, f0]; refine hKK _ ?_; clear hKK KK) | (refine PL.done hK ?_; clear hK) | (refine PC.skip (hK _ _ ?_); clear hK) | (refine PC.condT ?_ ?_; focus (simp [go_sem, f7, f0]; done)) | (refine PC.condF ?_ ?_; focus (simp [go_sem, f7, f0]; done)) | (refine PC.exit ?_; first | (refine hK _ _ ?_; clear hK) | (clear hK; refine hK _ _ ?_; clear hK) | (clear hK; clear hK; refine hK _ _ ?_; clear hK)))
        refine PL.callB rfl rfl (by kernel_rfl) cF (by simp [go_sem]) (by simp [go_sem, f0]) (by simp [go_sem, f0]) ?_
        repeat (refine PL.k rfl fun KK hKK => ?_; simp [go_sem, stepK]; refine hKK _ ?_; clear hKK KK)
        refine PL.nil ?_
        have f6' : F 6 = slI [] := f6
        repeat (first | (refine PC.seq fun K hK => ?_) | (refine PC.block ?_) | (refine PC.region ?_) | (refine PL.k rfl fun KK hKK => ?_; simp (disch := omega) [go_sem, stepK, f6', hlenX]; refine hKK _ ?_; clear hKK KK) | (refine PL.k rfl fun KK hKK => ?_; simp [go_sem, stepK, f6', hlenX]; refine hKK _ ?_; clear hKK KK) | (refine PL.g rfl rfl fun KK hKK => ?_; simp (disch := omega) [go_sem, L.stepG, f6', hlenX]; refine hKK _ ?_; clear hKK KK) | (refine PL.g rfl rfl fun KK hKK => ?_; simp [go_sem, L.stepG, f6', hlenX]; refine hKK _ ?_; clear hKK KK) | (refine PL.done hK ?_; clear hK) | (refine PC.skip (hK _ _ ?_); clear hK) | (refine PC.condT ?_ ?_; focus (simp [go_sem, f6', hlenX]; done)) | (refine PC.condF ?_ ?_; focus (simp [go_sem, f6', hlenX]; done)) | (refine PC.exit ?_; first | (refine hK _ _ ?_; clear hK) | (clear hK; refine hK _ _ ?_; clear hK) | (clear hK; clear hK; refine hK _ _ ?_; clear hK)))
        refine PC.loop (fun m F H' => m = 0 ∧ F 0 = slX l ∧ F 1 = S w ∧ F 5 = slS (setsT e) ∧ F 6 = slI [] ∧ F 7 = I (0 : Nat) ∧ F 8 = slI (firstT e 0) ∧ F 9 = I 0) (m := 0) ⟨rfl, by simp [go_sem, f0], by simp [go_sem, f1], by simp [go_sem, f5], by simp [go_sem, f6'], by simp [go_sem, f7], by simp [go_sem], by simp [go_sem]⟩ fun m F H' hI => ?_
        obtain ⟨hm, f0, f1, f5, f6, f7, f8, f9⟩ := hI
        repeat (first | (refine PC.seq fun K hK => ?_) | (refine PC.block ?_) | (refine PC.region ?_) | (refine PL.k rfl fun KK hKK => ?_; simp (disch := omega) [go_sem, stepK, f6, f9]; refine hKK _ ?_; clear hKK KK) | (refine PL.k rfl fun KK hKK => ?_; simp [go_sem, stepK, f6, f9]; refine hKK _ ?_; clear hKK KK) | (refine PL.g rfl rfl fun KK hKK => ?_; simp (disch := omega) [go_sem, L.stepG, f6, f9]; refine hKK _ ?_; clear hKK KK) | (refine PL.g rfl rfl fun KK hKK => ?_; simp [go_sem, L.stepG, f6, f9]; refine hKK _ ?_; clear hKK KK) | (refine PL.done hK ?_; clear hK) | (refine PC.skip (hK _ _ ?_); clear hK) | (refine PC.condT ?_ ?_; focus (simp [go_sem, f6, f9]; done)) | (refine PC.condF ?_ ?_; focus (simp [go_sem, f6, f9]; done)) | (refine PC.exit ?_; first | (refine hK _ _ ?_; clear hK) | (clear hK; refine hK _ _ ?_; clear hK) | (clear hK; clear hK; refine hK _ _ ?_; clear hK)))
        refine PC.exit ?_
        exact ⟨by simp [go_sem, f0], by simp [go_sem, f1], by simp [go_sem, f5], by simp [go_sem, f7], by simp [go_sem, f8, nextN]⟩
      · have hk0' : ¬ (k : Int) = 0 := by omega
        have hnxe : nextN e k (nowN e w k) = (nowN e w k).flatMap (folR e) := by unfold nextN; rw [if_neg hk0]
        rw [hnxe] at *
        generalize hA : nowN e w k = A at *
        repeat (first | (refine PC.seq fun K hK => ?_) | (refine PC.block ?_) | (refine PC.region ?_) | (refine PL.k rfl fun KK hKK => ?_; simp (disch := omega) [go_sem, stepK, f7, hk0, hk0']; refine hKK _ ?_; clear hKK KK) | (refine PL.k rfl fun KK hKK => ?_; simp [go_sem, stepK, f7, hk0, hk0']; refine hKK _ ?_; clear hKK KK) | (refine PL.g rfl rfl fun KK hKK => ?_; simp (disch := omega) [go_sem, L.stepG, f7, hk0, hk0']; refine hKK _ ?_; clear hKK KK) | (refine PL.g rfl rfl fun KK hKK => ?_; simp [go_sem, L.stepG, f7, hk0, hk0']; refine hKK _ ?_; clear hKK KK) | (refine PL.done hK ?_; clear hK) | (refine PC.skip (hK _ _ ?_); clear hK) | (refine PC.condT ?_ ?_; focus (simp [go_sem, f7, hk0, hk0']; done)) | (refine PC.condF ?_ ?_; focus (simp [go_sem, f7, hk0, hk0']; done)) | (refine PC.exit ?_; first | (refine hK _ _ ?_; clear hK) | (clear hK; refine hK _ _ ?_; clear hK) | (clear hK; clear hK; refine hK _ _ ?_; clear hK)))
        refine PC.skip ?_
        repeat (first | (refine PC.seq fun K hK => ?_) | (refine PC.block ?_) | (refine PC.region ?_) | (refine PL.k rfl fun KK hKK => ?_; simp (disch := omega) [go_sem, stepK]; refine hKK _ ?_; clear hKK KK) | (refine PL.k rfl fun KK hKK => ?_; simp [go_sem, stepK]; refine hKK _ ?_; clear hKK KK) | (refine PL.g rfl rfl fun KK hKK => ?_; simp (disch := omega) [go_sem, L.stepG]; refine hKK _ ?_; clear hKK KK) | (refine PL.g rfl rfl fun KK hKK => ?_; simp [go_sem, L.stepG]; refine hKK _ ?_; clear hKK KK) | (refine PL.done hK ?_; clear hK) | (refine PC.skip (hK _ _ ?_); clear hK) | (refine PC.condT ?_ ?_; focus (simp [go_sem]; done)) | (refine PC.condF ?_ ?_; focus (simp [go_sem]; done)) | (refine PC.exit ?_; first | (refine hK _ _ ?_; clear hK) | (clear hK; refine hK _ _ ?_; clear hK) | (clear hK; clear hK; refine hK _ _ ?_; clear hK)))
        refine PC.loop (fun m F H' => ∃ j v : Nat, j ≤ A.length ∧ m = A.length - j ∧ F 0 = slX l ∧ F 1 = S w ∧ F 5 = slS (setsT e) ∧ F 6 = slI A ∧ F 7 = I k ∧ F 8 = .ps 60 v ∧ F 9 = I j ∧ ownI H' 60 v ((A.take j).flatMap (folR e))) (m := A.length) ⟨0, v0, by omega, by omega, by simp [go_sem, f0], by simp [go_sem, f1], by simp [go_sem, f5], by simp [go_sem, f6], by simp [go_sem, f7], by simp [go_sem], by simp [go_sem], b0⟩ fun m F H' hI => ?_
        obtain ⟨j, v, hj, hm, f0, f1, f5, f6, f7, f8, f9, hO8⟩ := hI
        by_cases hlj : j < A.length
        · have f6' : F 6 = .sl 1 (A.map I) := f6
          have hj' : (j : Int) < A.length := by omega
          repeat (first | (refine PC.seq fun K hK => ?_) | (refine PC.block ?_) | (refine PC.region ?_) | (refine PL.k rfl fun KK hKK => ?_; simp (disch := omega) [go_sem, stepK, f0, f6, f8, f9, hlj, hj']; refine hKK _ ?_; clear hKK KK) | (refine PL.k rfl fun KK hKK => ?_; simp [go_sem, stepK, f0, f6, f8, f9, hlj, hj']; refine hKK _ ?_; clear hKK KK) | (refine PL.g rfl rfl fun KK hKK => ?_; simp (disch := omega) [go_sem, L.stepG, f0, f6, f8, f9, hlj, hj']; refine hKK _ ?_; clear hKK KK) | (refine PL.g rfl rfl fun KK hKK => ?_; simp [go_sem, L.stepG, f0, f6, f8, f9, hlj, hj']; refine hKK _ ?_; clear hKK KK) | (refine PL.done hK ?_; clear hK) | (refine PC.skip (hK _ _ ?_); clear hK) | (refine PC.condT ?_ ?_; focus (simp [go_sem, f0, f6, f8, f9, hlj, hj']; done)) | (refine PC.condF ?_ ?_; focus (simp [go_sem, f0, f6, f8, f9, hlj, hj']; done)) | (refine PC.exit ?_; first | (refine hK _ _ ?_; clear hK) | (clear hK; refine hK _ _ ?_; clear hK) | (clear hK; clear hK; refine hK _ _ ?_; clear hK)))
          refine PL.callB rfl rfl (by kernel_rfl) (cO A[j]) (by simp [go_sem]) (by simp [go_sem]) (by simp [go_sem]) ?_
          have l1 : ((A.take j).flatMap (folR e)).length ≤ 3600 := by
            have h4 := flat_len (A.take j) (folR e) (folR_len e)
            have := Nat.mul_le_mul (show (A.take j).length ≤ 60 by simp; omega) hns
            omega
          have l2 := folR_len e A[j]
          refine PL.appendP (d := 56) (id := 60) (ver := v) (m := ((A.take j).flatMap (folR e)).length) (m2 := (folR e A[j]).length) (cs := ((A.take j).flatMap (folR e)).map I) (cs2 := (folR e A[j]).map I) (px := slI (folR e A[j])) rfl rfl rfl (by simp) selem_30 (by simp [go_sem]) hO8 (by simp [go_sem]) (srcI _ _) (leafIs _ _) (by unfold maxLen; omega) (by omega) fun v2 H2 b2 o2 => ?_
          repeat (first | (refine PC.seq fun K hK => ?_) | (refine PC.block ?_) | (refine PC.region ?_) | (refine PL.k rfl fun KK hKK => ?_; simp (disch := omega) [go_sem, stepK, f9]; refine hKK _ ?_; clear hKK KK) | (refine PL.k rfl fun KK hKK => ?_; simp [go_sem, stepK, f9]; refine hKK _ ?_; clear hKK KK) | (refine PL.g rfl rfl fun KK hKK => ?_; simp (disch := omega) [go_sem, L.stepG, f9]; refine hKK _ ?_; clear hKK KK) | (refine PL.g rfl rfl fun KK hKK => ?_; simp [go_sem, L.stepG, f9]; refine hKK _ ?_; clear hKK KK) | (refine PL.done hK ?_; clear hK) | (refine PC.skip (hK _ _ ?_); clear hK) | (refine PC.condT ?_ ?_; focus (simp [go_sem, f9]; done)) | (refine PC.condF ?_ ?_; focus (simp [go_sem, f9]; done)) | (refine PC.exit ?_; first | (refine hK _ _ ?_; clear hK) | (clear hK; refine hK _ _ ?_; clear hK) | (clear hK; clear hK; refine hK _ _ ?_; clear hK)))
          refine PL.nil ⟨A.length - (j + 1), by omega, j + 1, v2, by omega, by omega, by simp [go_sem, f0], by simp [go_sem, f1], by simp [go_sem, f5], by simp [go_sem, f6], by simp [go_sem, f7], by simp [go_sem], by simp [go_sem], ?_⟩
          unfold ownI
          rw [b2, flatMap_take hlj]
          simp
        · have hj' : ¬ (j : Int) < A.length := by omega
          repeat (first | (refine PC.seq fun K hK => ?_) | (refine PC.block ?_) | (refine PC.region ?_) | (refine PL.k rfl fun KK hKK => ?_; simp (disch := omega) [go_sem, stepK, f6, f9, hj']; refine hKK _ ?_; clear hKK KK) | (refine PL.k rfl fun KK hKK => ?_; simp [go_sem, stepK, f6, f9, hj']; refine hKK _ ?_; clear hKK KK) | (refine PL.g rfl rfl fun KK hKK => ?_; simp (disch := omega) [go_sem, L.stepG, f6, f9, hj']; refine hKK _ ?_; clear hKK KK) | (refine PL.g rfl rfl fun KK hKK => ?_; simp [go_sem, L.stepG, f6, f9, hj']; refine hKK _ ?_; clear hKK KK) | (refine PL.done hK ?_; clear hK) | (refine PC.skip (hK _ _ ?_); clear hK) | (refine PC.condT ?_ ?_; focus (simp [go_sem, f6, f9, hj']; done)) | (refine PC.condF ?_ ?_; focus (simp [go_sem, f6, f9, hj']; done)) | (refine PC.exit ?_; first | (refine hK _ _ ?_; clear hK) | (clear hK; refine hK _ _ ?_; clear hK) | (clear hK; clear hK; refine hK _ _ ?_; clear hK)))
          have hje : j = A.length := by omega
          rw [hje, List.take_length] at hO8
          refine PC.freeze 8 ((A.flatMap (folR e)).map I) (by simp [go_sem]; exact f8) hO8 (mapI_cells _) (fun y hy => by obtain ⟨z, _, rfl⟩ := List.mem_map.1 hy; rfl) (by simp) fun H6 o6 => ?_
          refine PC.exit ?_
          exact ⟨by simp [go_sem, f0], by simp [go_sem, f1], by simp [go_sem, f5], by simp [go_sem, f7], by simp [go_sem]; rfl⟩
    · intro F H ⟨f0, f1, f5, f7, f8⟩
      have hnow : nowN e w (k + 1) = filtL (setsT e) (byteAt w k) (nextN e k (nowN e w k)) := rfl
      generalize nextN e k (nowN e w k) = nx at *
      have hby := byte_get hlt
      generalize hbb : byteAt w k = b at *
      have hblt : b < 256 := by rw [← hbb]; exact byteAt_lt _ _
      have hset := fun (x : Int) (h : 0 ≤ x ∧ x < nset e) => set_at (e := e) h
      refine PC.seq fun K hK => ?_
      refine PC.region ?_
      refine PL.buildSliceA 61 (d := 57) rfl rfl rfl (by simp) selem_30 rfl (by omega) (by unfold maxLen; omega) (ips := []) (by simp [go_sem]) (by simp [litOk]) (cs := []) rfl fun v0 H0 b0 o0 => ?_
      repeat (first | (refine PC.seq fun K hK => ?_) | (refine PC.block ?_) | (refine PC.region ?_) | (refine PL.k rfl fun KK hKK => ?_; simp (disch := omega) [go_sem, stepK]; refine hKK _ ?_; clear hKK KK) | (refine PL.k rfl fun KK hKK => ?_; simp [go_sem, stepK]; refine hKK _ ?_; clear hKK KK) | (refine PL.g rfl rfl fun KK hKK => ?_; simp (disch := omega) [go_sem, L.stepG]; refine hKK _ ?_; clear hKK KK) | (refine PL.g rfl rfl fun KK hKK => ?_; simp [go_sem, L.stepG]; refine hKK _ ?_; clear hKK KK) | (refine PL.done hK ?_; clear hK) | (refine PC.skip (hK _ _ ?_); clear hK) | (refine PC.condT ?_ ?_; focus (simp [go_sem]; done)) | (refine PC.condF ?_ ?_; focus (simp [go_sem]; done)) | (refine PC.exit ?_; first | (refine hK _ _ ?_; clear hK) | (clear hK; refine hK _ _ ?_; clear hK) | (clear hK; clear hK; refine hK _ _ ?_; clear hK)))
      refine PC.loop (fun m F H' => ∃ j v : Nat, j ≤ nx.length ∧ m = nx.length - j ∧ F 0 = slX l ∧ F 1 = S w ∧ F 5 = slS (setsT e) ∧ F 6 = .ps 61 v ∧ F 7 = I k ∧ F 8 = slI nx ∧ F 10 = I j ∧ ownI H' 61 v (filtL (setsT e) b (nx.take j))) (m := nx.length) ⟨0, v0, by omega, by omega, by simp [go_sem, f0], by simp [go_sem, f1], by simp [go_sem, f5], by simp [go_sem], by simp [go_sem, f7], by simp [go_sem, f8], by simp [go_sem], b0⟩ fun m F H' hI => ?_
      clear f0 f1 f5 f7 f8
      obtain ⟨j, v, hj, hm, f0, f1, f5, f6, f7, f8, f10, hO6⟩ := hI
      by_cases hlj : j < nx.length
      · have f8' : F 8 = .sl 1 (nx.map I) := f8
        have f5' : F 5 = .sl 4 ((setsT e).map encS) := f5
        have hj' : (j : Int) < nx.length := by omega
        have hx := hnx nx[j] (List.getElem_mem hlj)
        obtain ⟨y, hy, hyb⟩ := hset nx[j] hx
        have hx0 : ¬ nx[j] < 0 := by omega
        have hx1 : ¬ (nset e : Int) ≤ nx[j] := by omega
        have hx2 := hx.1
        have hsucc := filtL_succ (setsT e) b nx j hlj
        rw [hyb] at hsucc
        have hacc : (filtL (setsT e) b (nx.take j)).length ≤ 60 := by
          have h5 := nodup_len (nset e) _ (filtL_nodup (setsT e) b (nx.take j)) (fun x hx => hnx x (List.mem_of_mem_take ((filtL_mem _ _ _ x).1 hx).1))
          omega
        generalize hX : nx[j] = x at *
        generalize hacc' : filtL (setsT e) b (nx.take j) = acc at *
        repeat (first | (refine PC.seq fun K hK => ?_) | (refine PC.block ?_) | (refine PC.region ?_) | (refine PL.k rfl fun KK hKK => ?_; simp (disch := omega) [go_sem, stepK, f8, f10, hlj, hj', hX, hx0, hx1, f5, hlenS]; refine hKK _ ?_; clear hKK KK) | (refine PL.k rfl fun KK hKK => ?_; simp [go_sem, stepK, f8, f10, hlj, hj', hX, hx0, hx1, f5, hlenS]; refine hKK _ ?_; clear hKK KK) | (refine PL.g rfl rfl fun KK hKK => ?_; simp (disch := omega) [go_sem, L.stepG, f8, f10, hlj, hj', hX, hx0, hx1, f5, hlenS]; refine hKK _ ?_; clear hKK KK) | (refine PL.g rfl rfl fun KK hKK => ?_; simp [go_sem, L.stepG, f8, f10, hlj, hj', hX, hx0, hx1, f5, hlenS]; refine hKK _ ?_; clear hKK KK) | (refine PL.done hK ?_; clear hK) | (refine PC.skip (hK _ _ ?_); clear hK) | (refine PC.condT ?_ ?_; focus (simp [go_sem, f8, f10, hlj, hj', hX, hx0, hx1, f5, hlenS]; done)) | (refine PC.condF ?_ ?_; focus (simp [go_sem, f8, f10, hlj, hj', hX, hx0, hx1, f5, hlenS]; done)) | (refine PC.exit ?_; first | (refine hK _ _ ?_; clear hK) | (clear hK; refine hK _ _ ?_; clear hK) | (clear hK; clear hK; refine hK _ _ ?_; clear hK)))
        refine PC.regionQ mixed (by kernel_rfl) ?_
        repeat (first | (refine QF.k rfl fun KK hKK => ?_; simp (disch := omega) [go_sem, stepK, f1, f5', f7, hlt, hy, hx2, hby]; refine hKK _ ?_; clear hKK KK) | (refine QF.k rfl fun KK hKK => ?_; simp [go_sem, stepK, f1, f5', f7, hlt, hy, hx2, hby]; refine hKK _ ?_; clear hKK KK) | (refine QF.g rfl rfl fun KK hKK => ?_; simp (disch := omega) [go_sem, L.stepG, f1, f5', f7, hlt, hy, hx2, hby]; refine hKK _ ?_; clear hKK KK) | (refine QF.g rfl rfl fun KK hKK => ?_; simp [go_sem, L.stepG, f1, f5', f7, hlt, hy, hx2, hby]; refine hKK _ ?_; clear hKK KK))
        refine QF.callA rfl rfl (by kernel_rfl) (refHas_ok y b hblt) (by simp [go_sem]) (by simp [go_sem]) (by simp [go_sem, encS, W64]) ?_
        have hview : View H' (.ps 61 v) (slI acc) := hO6.view
        cases hyh : hasS y b
        · repeat (first | (refine QF.k rfl fun KK hKK => ?_; simp (disch := omega) [go_sem, stepK]; refine hKK _ ?_; clear hKK KK) | (refine QF.k rfl fun KK hKK => ?_; simp [go_sem, stepK]; refine hKK _ ?_; clear hKK KK) | (refine QF.g rfl rfl fun KK hKK => ?_; simp (disch := omega) [go_sem, L.stepG]; refine hKK _ ?_; clear hKK KK) | (refine QF.g rfl rfl fun KK hKK => ?_; simp [go_sem, L.stepG]; refine hKK _ ?_; clear hKK KK))
          refine QF.done hK ?_; clear hK
          repeat (first | (refine PC.seq fun K hK => ?_) | (refine PC.block ?_) | (refine PC.region ?_) | (refine PL.k rfl fun KK hKK => ?_; simp (disch := omega) [go_sem, stepK, f10]; refine hKK _ ?_; clear hKK KK) | (refine PL.k rfl fun KK hKK => ?_; simp [go_sem, stepK, f10]; refine hKK _ ?_; clear hKK KK) | (refine PL.g rfl rfl fun KK hKK => ?_; simp (disch := omega) [go_sem, L.stepG, f10]; refine hKK _ ?_; clear hKK KK) | (refine PL.g rfl rfl fun KK hKK => ?_; simp [go_sem, L.stepG, f10]; refine hKK _ ?_; clear hKK KK) | (refine PL.done hK ?_; clear hK) | (refine PC.skip (hK _ _ ?_); clear hK) | (refine PC.condT ?_ ?_; focus (simp [go_sem, f10]; done)) | (refine PC.condF ?_ ?_; focus (simp [go_sem, f10]; done)) | (refine PC.exit ?_; first | (refine hK _ _ ?_; clear hK) | (clear hK; refine hK _ _ ?_; clear hK) | (clear hK; clear hK; refine hK _ _ ?_; clear hK)))
          refine PL.nil ⟨nx.length - (j + 1), by omega, j + 1, v, by omega, by omega, by simp [go_sem, f0], by simp [go_sem, f1], by simp [go_sem, f5], by simp [go_sem, f6], by simp [go_sem, f7], by simp [go_sem, f8], by simp [go_sem], ?_⟩
          rw [hsucc, hyh]; simpa [hacc'] using hO6
        · repeat (first | (refine QF.k rfl fun KK hKK => ?_; simp (disch := omega) [go_sem, stepK, f6, hX]; refine hKK _ ?_; clear hKK KK) | (refine QF.k rfl fun KK hKK => ?_; simp [go_sem, stepK, f6, hX]; refine hKK _ ?_; clear hKK KK) | (refine QF.g rfl rfl fun KK hKK => ?_; simp (disch := omega) [go_sem, L.stepG, f6, hX]; refine hKK _ ?_; clear hKK KK) | (refine QF.g rfl rfl fun KK hKK => ?_; simp [go_sem, L.stepG, f6, hX]; refine hKK _ ?_; clear hKK KK))
          refine QF.callg rfl rfl (by simp [go_sem]) (by simp [dstOk]) (PQ.callA rfl (target_func _ _ _) (by kernel_rfl) (qs := [slI acc, I x]) (by simp [go_sem, hview]) (Has_ok acc x (by omega)) (by simp [go_sem])) ?_
          by_cases hxa : x ∈ acc
          · repeat (first | (refine QF.k rfl fun KK hKK => ?_; simp (disch := omega) [go_sem, stepK, hxa]; refine hKK _ ?_; clear hKK KK) | (refine QF.k rfl fun KK hKK => ?_; simp [go_sem, stepK, hxa]; refine hKK _ ?_; clear hKK KK) | (refine QF.g rfl rfl fun KK hKK => ?_; simp (disch := omega) [go_sem, L.stepG, hxa]; refine hKK _ ?_; clear hKK KK) | (refine QF.g rfl rfl fun KK hKK => ?_; simp [go_sem, L.stepG, hxa]; refine hKK _ ?_; clear hKK KK))
            refine QF.done hK ?_; clear hK
            repeat (first | (refine PC.seq fun K hK => ?_) | (refine PC.block ?_) | (refine PC.region ?_) | (refine PL.k rfl fun KK hKK => ?_; simp (disch := omega) [go_sem, stepK, f10]; refine hKK _ ?_; clear hKK KK) | (refine PL.k rfl fun KK hKK => ?_; simp [go_sem, stepK, f10]; refine hKK _ ?_; clear hKK KK) | (refine PL.g rfl rfl fun KK hKK => ?_; simp (disch := omega) [go_sem, L.stepG, f10]; refine hKK _ ?_; clear hKK KK) | (refine PL.g rfl rfl fun KK hKK => ?_; simp [go_sem, L.stepG, f10]; refine hKK _ ?_; clear hKK KK) | (refine PL.done hK ?_; clear hK) | (refine PC.skip (hK _ _ ?_); clear hK) | (refine PC.condT ?_ ?_; focus (simp [go_sem, f10]; done)) | (refine PC.condF ?_ ?_; focus (simp [go_sem, f10]; done)) | (refine PC.exit ?_; first | (refine hK _ _ ?_; clear hK) | (clear hK; refine hK _ _ ?_; clear hK) | (clear hK; clear hK; refine hK _ _ ?_; clear hK)))
            refine PL.nil ⟨nx.length - (j + 1), by omega, j + 1, v, by omega, by omega, by simp [go_sem, f0], by simp [go_sem, f1], by simp [go_sem, f5], by simp [go_sem, f6], by simp [go_sem, f7], by simp [go_sem, f8], by simp [go_sem], ?_⟩
            rw [hsucc]; simpa [hacc', hxa] using hO6
          · repeat (first | (refine QF.k rfl fun KK hKK => ?_; simp (disch := omega) [go_sem, stepK, hxa]; refine hKK _ ?_; clear hKK KK) | (refine QF.k rfl fun KK hKK => ?_; simp [go_sem, stepK, hxa]; refine hKK _ ?_; clear hKK KK) | (refine QF.g rfl rfl fun KK hKK => ?_; simp (disch := omega) [go_sem, L.stepG, hxa]; refine hKK _ ?_; clear hKK KK) | (refine QF.g rfl rfl fun KK hKK => ?_; simp [go_sem, L.stepG, hxa]; refine hKK _ ?_; clear hKK KK))
            refine QF.done hK ?_; clear hK
            repeat (first | (refine PC.seq fun K hK => ?_) | (refine PC.block ?_) | (refine PC.region ?_) | (refine PL.k rfl fun KK hKK => ?_; simp (disch := omega) [go_sem, stepK, f6]; refine hKK _ ?_; clear hKK KK) | (refine PL.k rfl fun KK hKK => ?_; simp [go_sem, stepK, f6]; refine hKK _ ?_; clear hKK KK) | (refine PL.g rfl rfl fun KK hKK => ?_; simp (disch := omega) [go_sem, L.stepG, f6]; refine hKK _ ?_; clear hKK KK) | (refine PL.g rfl rfl fun KK hKK => ?_; simp [go_sem, L.stepG, f6]; refine hKK _ ?_; clear hKK KK) | (refine PL.done hK ?_; clear hK) | (refine PC.skip (hK _ _ ?_); clear hK) | (refine PC.condT ?_ ?_; focus (simp [go_sem, f6]; done)) | (refine PC.condF ?_ ?_; focus (simp [go_sem, f6]; done)) | (refine PC.exit ?_; first | (refine hK _ _ ?_; clear hK) | (clear hK; refine hK _ _ ?_; clear hK) | (clear hK; clear hK; refine hK _ _ ?_; clear hK)))
            refine PL.buildSliceR (d := 92) rfl rfl rfl (by simp) selem_30 rfl (by omega) (ips := [(0, I x)]) (by simp [go_sem]) (by simp [litOk, go_sem, okC]) (ps := [I x]) rfl ?_
            refine PL.appendP (d := 93) (id := 61) (ver := v) (m := acc.length) (m2 := 1) (cs := acc.map I) (cs2 := [I x]) (px := .sl 1 [I x]) rfl rfl rfl (by simp) selem_30 (by simp [go_sem]) hO6 (by simp [go_sem]) (by simp [srcP, PV.cells]) (by simp [leafOk, Value.oneCell']) (by unfold maxLen; omega) (by omega) fun v2 H2 b2 o2 => ?_
            repeat (first | (refine PC.seq fun K hK => ?_) | (refine PC.block ?_) | (refine PC.region ?_) | (refine PL.k rfl fun KK hKK => ?_; simp (disch := omega) [go_sem, stepK, f10]; refine hKK _ ?_; clear hKK KK) | (refine PL.k rfl fun KK hKK => ?_; simp [go_sem, stepK, f10]; refine hKK _ ?_; clear hKK KK) | (refine PL.g rfl rfl fun KK hKK => ?_; simp (disch := omega) [go_sem, L.stepG, f10]; refine hKK _ ?_; clear hKK KK) | (refine PL.g rfl rfl fun KK hKK => ?_; simp [go_sem, L.stepG, f10]; refine hKK _ ?_; clear hKK KK) | (refine PL.done hK ?_; clear hK) | (refine PC.skip (hK _ _ ?_); clear hK) | (refine PC.condT ?_ ?_; focus (simp [go_sem, f10]; done)) | (refine PC.condF ?_ ?_; focus (simp [go_sem, f10]; done)) | (refine PC.exit ?_; first | (refine hK _ _ ?_; clear hK) | (clear hK; refine hK _ _ ?_; clear hK) | (clear hK; clear hK; refine hK _ _ ?_; clear hK)))
            refine PL.nil ⟨nx.length - (j + 1), by omega, j + 1, v2, by omega, by omega, by simp [go_sem, f0], by simp [go_sem, f1], by simp [go_sem, f5], by simp [go_sem], by simp [go_sem, f7], by simp [go_sem, f8], by simp [go_sem], ?_⟩
            rw [hsucc, hyh]
            unfold ownI
            rw [b2]
            simp [hacc', hxa]
      · have hj' : ¬ (j : Int) < nx.length := by omega
        repeat (first | (refine PC.seq fun K hK => ?_) | (refine PC.block ?_) | (refine PC.region ?_) | (refine PL.k rfl fun KK hKK => ?_; simp (disch := omega) [go_sem, stepK, f8, f10, hj']; refine hKK _ ?_; clear hKK KK) | (refine PL.k rfl fun KK hKK => ?_; simp [go_sem, stepK, f8, f10, hj']; refine hKK _ ?_; clear hKK KK) | (refine PL.g rfl rfl fun KK hKK => ?_; simp (disch := omega) [go_sem, L.stepG, f8, f10, hj']; refine hKK _ ?_; clear hKK KK) | (refine PL.g rfl rfl fun KK hKK => ?_; simp [go_sem, L.stepG, f8, f10, hj']; refine hKK _ ?_; clear hKK KK) | (refine PL.done hK ?_; clear hK) | (refine PC.skip (hK _ _ ?_); clear hK) | (refine PC.condT ?_ ?_; focus (simp [go_sem, f8, f10, hj']; done)) | (refine PC.condF ?_ ?_; focus (simp [go_sem, f8, f10, hj']; done)) | (refine PC.exit ?_; first | (refine hK _ _ ?_; clear hK) | (clear hK; refine hK _ _ ?_; clear hK) | (clear hK; clear hK; refine hK _ _ ?_; clear hK)))
        have hje : j = nx.length := by omega
        rw [hje, List.take_length] at hO6
        refine PC.freeze 6 ((filtL (setsT e) b nx).map I) (by simp [go_sem]; exact f6) hO6 (mapI_cells _) (fun y hy => by obtain ⟨z, _, rfl⟩ := List.mem_map.1 hy; rfl) (by simp) fun H6 o6 => ?_
        refine PC.exit ?_
        refine hK2 _ _ ?_
        repeat (first | (refine PC.seq fun K hK => ?_) | (refine PC.block ?_) | (refine PC.region ?_) | (refine PL.k rfl fun KK hKK => ?_; simp (disch := omega) [go_sem, stepK, f7]; refine hKK _ ?_; clear hKK KK) | (refine PL.k rfl fun KK hKK => ?_; simp [go_sem, stepK, f7]; refine hKK _ ?_; clear hKK KK) | (refine PL.g rfl rfl fun KK hKK => ?_; simp (disch := omega) [go_sem, L.stepG, f7]; refine hKK _ ?_; clear hKK KK) | (refine PL.g rfl rfl fun KK hKK => ?_; simp [go_sem, L.stepG, f7]; refine hKK _ ?_; clear hKK KK) | (refine PL.done hK ?_; clear hK) | (refine PC.skip (hK _ _ ?_); clear hK) | (refine PC.condT ?_ ?_; focus (simp [go_sem, f7]; done)) | (refine PC.condF ?_ ?_; focus (simp [go_sem, f7]; done)) | (refine PC.exit ?_; first | (refine hK _ _ ?_; clear hK) | (clear hK; refine hK _ _ ?_; clear hK) | (clear hK; clear hK; refine hK _ _ ?_; clear hK)))
        refine PL.nil ⟨w.size - (k + 1), by omega, k + 1, by omega, by omega, by simp [go_sem, f0], by simp [go_sem, f1], by simp [go_sem, f5], by simp [go_sem, hnow, slI], by simp [go_sem]⟩
  · have hk' : ¬ (k : Int) < w.size := by omega
    have hke : k = w.size := by omega
    subst hke
    generalize hA : nowN e w w.size = A at *
    have hlaw := words_law e w
    rw [hA] at hlaw
    have hnA : A.length ≤ 60 := by omega
    have hll := lastT_len e 0
    cases hz : decide (w.size = 0)
    have hz' : ¬ w.size = 0 := by simpa using hz
    repeat (first | (refine PC.seq fun K hK => ?_) | (refine PC.block ?_) | (refine PC.region ?_) | (refine PL.k rfl fun KK hKK => ?_; simp (disch := omega) [go_sem, stepK, f0, f1, f7, hz', hz]; refine hKK _ ?_; clear hKK KK) | (refine PL.k rfl fun KK hKK => ?_; simp [go_sem, stepK, f0, f1, f7, hz', hz]; refine hKK _ ?_; clear hKK KK) | (refine PL.g rfl rfl fun KK hKK => ?_; simp (disch := omega) [go_sem, L.stepG, f0, f1, f7, hz', hz]; refine hKK _ ?_; clear hKK KK) | (refine PL.g rfl rfl fun KK hKK => ?_; simp [go_sem, L.stepG, f0, f1, f7, hz', hz]; refine hKK _ ?_; clear hKK KK) | (refine PL.done hK ?_; clear hK) | (refine PC.skip (hK _ _ ?_); clear hK) | (refine PC.condT ?_ ?_; focus (simp [go_sem, f0, f1, f7, hz', hz]; done)) | (refine PC.condF ?_ ?_; focus (simp [go_sem, f0, f1, f7, hz', hz]; done)) | (refine PC.exit ?_; first | (refine hK _ _ ?_; clear hK) | (clear hK; refine hK _ _ ?_; clear hK) | (clear hK; clear hK; refine hK _ _ ?_; clear hK)))
    rotate_left
    have hz' : w.size = 0 := by simpa using hz
    have hz2 : (w.size : Int) = 0 := by omega
    repeat (first | (refine PC.seq fun K hK => ?_) | (refine PC.block ?_) | (refine PC.region ?_) | (refine PL.k rfl fun KK hKK => ?_; simp (disch := omega) [go_sem, stepK, f0, f1, f7, hz', hz2, hz]; refine hKK _ ?_; clear hKK KK) | (refine PL.k rfl fun KK hKK => ?_; simp [go_sem, stepK, f0, f1, f7, hz', hz2, hz]; refine hKK _ ?_; clear hKK KK) | (refine PL.g rfl rfl fun KK hKK => ?_; simp (disch := omega) [go_sem, L.stepG, f0, f1, f7, hz', hz2, hz]; refine hKK _ ?_; clear hKK KK) | (refine PL.g rfl rfl fun KK hKK => ?_; simp [go_sem, L.stepG, f0, f1, f7, hz', hz2, hz]; refine hKK _ ?_; clear hKK KK) | (refine PL.done hK ?_; clear hK) | (refine PC.skip (hK _ _ ?_); clear hK) | (refine PC.condT ?_ ?_; focus (simp [go_sem, f0, f1, f7, hz', hz2, hz]; done)) | (refine PC.condF ?_ ?_; focus (simp [go_sem, f0, f1, f7, hz', hz2, hz]; done)) | (refine PC.exit ?_; first | (refine hK _ _ ?_; clear hK) | (clear hK; refine hK _ _ ?_; clear hK) | (clear hK; clear hK; refine hK _ _ ?_; clear hK)))
    refine PL.callBg rfl rfl rfl (by simp [go_sem]) (by kernel_rfl) cE (by simp [go_sem]) (by simp [go_sem]) (by simp [go_sem]) ?_
    repeat (first | (refine PC.seq fun K hK => ?_) | (refine PC.block ?_) | (refine PC.region ?_) | (refine PL.k rfl fun KK hKK => ?_; simp (disch := omega) [go_sem, stepK, f0]; refine hKK _ ?_; clear hKK KK) | (refine PL.k rfl fun KK hKK => ?_; simp [go_sem, stepK, f0]; refine hKK _ ?_; clear hKK KK) | (refine PL.g rfl rfl fun KK hKK => ?_; simp (disch := omega) [go_sem, L.stepG, f0]; refine hKK _ ?_; clear hKK KK) | (refine PL.g rfl rfl fun KK hKK => ?_; simp [go_sem, L.stepG, f0]; refine hKK _ ?_; clear hKK KK) | (refine PL.done hK ?_; clear hK) | (refine PC.skip (hK _ _ ?_); clear hK) | (refine PC.condT ?_ ?_; focus (simp [go_sem, f0]; done)) | (refine PC.condF ?_ ?_; focus (simp [go_sem, f0]; done)) | (refine PC.exit ?_; first | (refine hK _ _ ?_; clear hK) | (clear hK; refine hK _ _ ?_; clear hK) | (clear hK; clear hK; refine hK _ _ ?_; clear hK)))
    all_goals
      refine PL.callB rfl rfl (by kernel_rfl) cL (by simp [go_sem]) (by simp [go_sem]) (by simp [go_sem]) ?_
      repeat (first | (refine PC.seq fun K hK => ?_) | (refine PC.block ?_) | (refine PC.region ?_) | (refine PL.k rfl fun KK hKK => ?_; simp (disch := omega) [go_sem, stepK]; refine hKK _ ?_; clear hKK KK) | (refine PL.k rfl fun KK hKK => ?_; simp [go_sem, stepK]; refine hKK _ ?_; clear hKK KK) | (refine PL.g rfl rfl fun KK hKK => ?_; simp (disch := omega) [go_sem, L.stepG]; refine hKK _ ?_; clear hKK KK) | (refine PL.g rfl rfl fun KK hKK => ?_; simp [go_sem, L.stepG]; refine hKK _ ?_; clear hKK KK) | (refine PL.done hK ?_; clear hK) | (refine PC.skip (hK _ _ ?_); clear hK) | (refine PC.condT ?_ ?_; focus (simp [go_sem]; done)) | (refine PC.condF ?_ ?_; focus (simp [go_sem]; done)) | (refine PC.exit ?_; first | (refine hK _ _ ?_; clear hK) | (clear hK; refine hK _ _ ?_; clear hK) | (clear hK; clear hK; refine hK _ _ ?_; clear hK)))
      refine PC.loop (fun m F H' => ∃ j : Nat, j ≤ A.length ∧ m = A.length - j ∧ F 0 = slX l ∧ F 1 = S w ∧ F 6 = slI A ∧ F 13 = slI (lastT e 0) ∧ F 14 = I j ∧ F 12 = B ((decide (w.size = 0) && freeT e) || (A.take j).any fun x => decide (x ∈ lastT e 0))) (m := A.length) ⟨0, by omega, by omega, by simp [go_sem, f0], by simp [go_sem, f1], by simp [go_sem, f6], by simp [go_sem], by simp [go_sem], by rw [hz]; simp [go_sem]⟩ fun m F H' hI => ?_
      clear f0 f1 f5 f6 f7
      obtain ⟨j, hj, hm, f0, f1, f6, f13, f14, f12⟩ := hI
      by_cases hlj : j < A.length
      · have hj' : (j : Int) < A.length := by omega
        have hsucc : (A.take (j + 1)).any (fun x => decide (x ∈ lastT e 0)) = ((A.take j).any (fun x => decide (x ∈ lastT e 0)) || decide (A[j] ∈ lastT e 0)) := by
          rw [List.take_succ_eq_append_getElem hlj, List.any_append]; simp
        cases hb : ((decide (w.size = 0) && freeT e) || (A.take j).any fun x => decide (x ∈ lastT e 0))
        · rw [hb] at f12
          repeat (first | (refine PC.seq fun K hK => ?_) | (refine PC.block ?_) | (refine PC.region ?_) | (refine PL.k rfl fun KK hKK => ?_; simp (disch := omega) [go_sem, stepK, f6, f12, f13, f14, hlj, hj']; refine hKK _ ?_; clear hKK KK) | (refine PL.k rfl fun KK hKK => ?_; simp [go_sem, stepK, f6, f12, f13, f14, hlj, hj']; refine hKK _ ?_; clear hKK KK) | (refine PL.g rfl rfl fun KK hKK => ?_; simp (disch := omega) [go_sem, L.stepG, f6, f12, f13, f14, hlj, hj']; refine hKK _ ?_; clear hKK KK) | (refine PL.g rfl rfl fun KK hKK => ?_; simp [go_sem, L.stepG, f6, f12, f13, f14, hlj, hj']; refine hKK _ ?_; clear hKK KK) | (refine PL.done hK ?_; clear hK) | (refine PC.skip (hK _ _ ?_); clear hK) | (refine PC.condT ?_ ?_; focus (simp [go_sem, f6, f12, f13, f14, hlj, hj']; done)) | (refine PC.condF ?_ ?_; focus (simp [go_sem, f6, f12, f13, f14, hlj, hj']; done)) | (refine PC.exit ?_; first | (refine hK _ _ ?_; clear hK) | (clear hK; refine hK _ _ ?_; clear hK) | (clear hK; clear hK; refine hK _ _ ?_; clear hK)))
          refine PL.callBg rfl rfl rfl (by simp [go_sem]) (by kernel_rfl) (show PCall Try.prog 26 [slI (lastT e 0), I A[j]] (· = B (decide (A[j] ∈ lastT e 0))) from Has_ok (lastT e 0) A[j] (by omega)) (by simp [go_sem]) (by simp [go_sem]) (by simp [go_sem]) ?_
          repeat (first | (refine PC.seq fun K hK => ?_) | (refine PC.block ?_) | (refine PC.region ?_) | (refine PL.k rfl fun KK hKK => ?_; simp (disch := omega) [go_sem, stepK, f14]; refine hKK _ ?_; clear hKK KK) | (refine PL.k rfl fun KK hKK => ?_; simp [go_sem, stepK, f14]; refine hKK _ ?_; clear hKK KK) | (refine PL.g rfl rfl fun KK hKK => ?_; simp (disch := omega) [go_sem, L.stepG, f14]; refine hKK _ ?_; clear hKK KK) | (refine PL.g rfl rfl fun KK hKK => ?_; simp [go_sem, L.stepG, f14]; refine hKK _ ?_; clear hKK KK) | (refine PL.done hK ?_; clear hK) | (refine PC.skip (hK _ _ ?_); clear hK) | (refine PC.condT ?_ ?_; focus (simp [go_sem, f14]; done)) | (refine PC.condF ?_ ?_; focus (simp [go_sem, f14]; done)) | (refine PC.exit ?_; first | (refine hK _ _ ?_; clear hK) | (clear hK; refine hK _ _ ?_; clear hK) | (clear hK; clear hK; refine hK _ _ ?_; clear hK)))
          refine PL.nil ⟨A.length - (j + 1), by omega, j + 1, by omega, by omega, by simp [go_sem, f0], by simp [go_sem, f1], by simp [go_sem, f6], by simp [go_sem, f13], by simp [go_sem], ?_⟩
          rw [hsucc, ← Bool.or_assoc, hb]
          simp [go_sem]
        · rw [hb] at f12
          repeat (first | (refine PC.seq fun K hK => ?_) | (refine PC.block ?_) | (refine PC.region ?_) | (refine PL.k rfl fun KK hKK => ?_; simp (disch := omega) [go_sem, stepK, f6, f12, f13, f14, hlj, hj']; refine hKK _ ?_; clear hKK KK) | (refine PL.k rfl fun KK hKK => ?_; simp [go_sem, stepK, f6, f12, f13, f14, hlj, hj']; refine hKK _ ?_; clear hKK KK) | (refine PL.g rfl rfl fun KK hKK => ?_; simp (disch := omega) [go_sem, L.stepG, f6, f12, f13, f14, hlj, hj']; refine hKK _ ?_; clear hKK KK) | (refine PL.g rfl rfl fun KK hKK => ?_; simp [go_sem, L.stepG, f6, f12, f13, f14, hlj, hj']; refine hKK _ ?_; clear hKK KK) | (refine PL.done hK ?_; clear hK) | (refine PC.skip (hK _ _ ?_); clear hK) | (refine PC.condT ?_ ?_; focus (simp [go_sem, f6, f12, f13, f14, hlj, hj']; done)) | (refine PC.condF ?_ ?_; focus (simp [go_sem, f6, f12, f13, f14, hlj, hj']; done)) | (refine PC.exit ?_; first | (refine hK _ _ ?_; clear hK) | (clear hK; refine hK _ _ ?_; clear hK) | (clear hK; clear hK; refine hK _ _ ?_; clear hK)))
          refine PL.nil ⟨A.length - (j + 1), by omega, j + 1, by omega, by omega, by simp [go_sem, f0], by simp [go_sem, f1], by simp [go_sem, f6], by simp [go_sem, f13], by simp [go_sem], ?_⟩
          rw [hsucc, ← Bool.or_assoc, hb]
          simp [go_sem]
      · have hj' : ¬ (j : Int) < A.length := by omega
        have hje : j = A.length := by omega
        rw [hje, List.take_length, hlaw] at f12
        repeat (first | (refine PC.seq fun K hK => ?_) | (refine PC.block ?_) | (refine PC.region ?_) | (refine PL.k rfl fun KK hKK => ?_; simp (disch := omega) [go_sem, stepK, f0, f1, f6, f12, f14, hj']; refine hKK _ ?_; clear hKK KK) | (refine PL.k rfl fun KK hKK => ?_; simp [go_sem, stepK, f0, f1, f6, f12, f14, hj']; refine hKK _ ?_; clear hKK KK) | (refine PL.g rfl rfl fun KK hKK => ?_; simp (disch := omega) [go_sem, L.stepG, f0, f1, f6, f12, f14, hj']; refine hKK _ ?_; clear hKK KK) | (refine PL.g rfl rfl fun KK hKK => ?_; simp [go_sem, L.stepG, f0, f1, f6, f12, f14, hj']; refine hKK _ ?_; clear hKK KK) | (refine PL.done hK ?_; clear hK) | (refine PC.skip (hK _ _ ?_); clear hK) | (refine PC.condT ?_ ?_; focus (simp [go_sem, f0, f1, f6, f12, f14, hj']; done)) | (refine PC.condF ?_ ?_; focus (simp [go_sem, f0, f1, f6, f12, f14, hj']; done)) | (refine PC.exit ?_; first | (refine hK _ _ ?_; clear hK) | (clear hK; refine hK _ _ ?_; clear hK) | (clear hK; clear hK; refine hK _ _ ?_; clear hK)))
        refine PL.callB rfl rfl (by kernel_rfl) (Says_ok l e he w (by omega)) (by simp [go_sem]) (by simp [go_sem]) (by simp [go_sem]) ?_
        repeat (first | (refine PC.seq fun K hK => ?_) | (refine PC.block ?_) | (refine PC.region ?_) | (refine PL.k rfl fun KK hKK => ?_; simp (disch := omega) [go_sem, stepK]; refine hKK _ ?_; clear hKK KK) | (refine PL.k rfl fun KK hKK => ?_; simp [go_sem, stepK]; refine hKK _ ?_; clear hKK KK) | (refine PL.g rfl rfl fun KK hKK => ?_; simp (disch := omega) [go_sem, L.stepG]; refine hKK _ ?_; clear hKK KK) | (refine PL.g rfl rfl fun KK hKK => ?_; simp [go_sem, L.stepG]; refine hKK _ ?_; clear hKK KK) | (refine PL.done hK ?_; clear hK) | (refine PC.skip (hK _ _ ?_); clear hK) | (refine PC.condT ?_ ?_; focus (simp [go_sem]; done)) | (refine PC.condF ?_ ?_; focus (simp [go_sem]; done)) | (refine PC.exit ?_; first | (refine hK _ _ ?_; clear hK) | (clear hK; refine hK _ _ ?_; clear hK) | (clear hK; clear hK; refine hK _ _ ?_; clear hK)))
        (refine PL.callBg rfl rfl rfl (by simp [go_sem]) (by kernel_rfl) (knows10_ok) (by simp [go_sem]) (by simp [go_sem]) (by simp [go_sem]) ?_)
        repeat (first | (refine PC.seq fun K hK => ?_) | (refine PC.block ?_) | (refine PC.region ?_) | (refine PL.k rfl fun KK hKK => ?_; simp (disch := omega) [go_sem, stepK]; refine hKK _ ?_; clear hKK KK) | (refine PL.k rfl fun KK hKK => ?_; simp [go_sem, stepK]; refine hKK _ ?_; clear hKK KK) | (refine PL.g rfl rfl fun KK hKK => ?_; simp (disch := omega) [go_sem, L.stepG]; refine hKK _ ?_; clear hKK KK) | (refine PL.g rfl rfl fun KK hKK => ?_; simp [go_sem, L.stepG]; refine hKK _ ?_; clear hKK KK) | (refine PL.done hK ?_; clear hK) | (refine PC.skip (hK _ _ ?_); clear hK) | (refine PC.condT ?_ ?_; focus (simp [go_sem]; done)) | (refine PC.condF ?_ ?_; focus (simp [go_sem]; done)) | (refine PC.exit ?_; first | (refine hK _ _ ?_; clear hK) | (clear hK; refine hK _ _ ?_; clear hK) | (clear hK; clear hK; refine hK _ _ ?_; clear hK)))
        (refine PC.ret ?_; refine fin (.inr rfl) (by simp [resP, resP1, Try.results4, go_sem]) (by simp [go_sem]))
end Go.Proofs.Ytficeeaaaijgcaa

/-
  Values of the packages fuse and live over pure values: lists of truth values, of lists, of sets, of tokens; nets; rules for simp.
-/
namespace Go.Proofs.Ytficeeaaaijgcaa
open Go Go.RowKit L
set_option linter.unusedVariables false
set_option linter.unusedSimpArgs false

structure Tok where
  name : ByteArray
  rex : List Rx
  cls : Int
structure Net where
  sets : List Rx
  of_ : List Int
  last : List Bool
  follow : List (List Int)
  first : List Int
def tokV (t : Tok) : PV := .agg [S t.name, slX t.rex, I t.cls]
def netV (n : Net) : PV := .agg [slS n.sets, slI n.of_, .sl 1 (n.last.map B), .sl 1 (n.follow.map slI), slI n.first]
def slB (l : List Bool) : PV := .sl 1 (l.map B)
def slLL (l : List (List Int)) : PV := .sl 1 (l.map slI)
def slT (l : List Tok) : PV := .sl 3 (l.map tokV)
@[go_sem] theorem netV_def (n : Net) : netV n = .agg [slS n.sets, slI n.of_, slB n.last, slLL n.follow, slI n.first] := rfl
theorem slB_noP (l : List Bool) : NoP (slB l) := .sl _ _ fun c hc => by obtain ⟨z, _, rfl⟩ := List.mem_map.1 hc; exact .u _
@[go_sem] theorem NoP_slB (l : List Bool) : NoP (slB l) = True := eq_true (slB_noP l)
@[go_sem] theorem lenP_slB (H : PHeap) (l : List Bool) : lenP Try.prog H 51 (slB l) = some (I l.length) := by simp [slB, go_sem]
@[go_sem] theorem indexAddrP_slB (H : PHeap) (l : List Bool) (kd : IntKind) (z : Int) (h0 : 0 ≤ z) : indexAddrP Try.prog H 51 (slB l) (.u (.int kd z)) = (l[z.toNat]?).elim none fun y => some (.rp ([B y])) := by
  rw [slB, indexAddrP_sl esz_51 _ _ h0, List.getElem?_map]
  cases l[z.toNat]? <;> rfl
@[go_sem] theorem slB_cells (l : List Bool) : (slB l).cells = [slB l] := rfl
@[go_sem] theorem slB_okC (H : PHeap) (l : List Bool) : okC H (slB l) = true := rfl
@[go_sem] theorem slB_leaf (H : PHeap) (l : List Bool) : leafOk H (slB l) = true := rfl
theorem slB_flat (l : List Bool) : (slB l) = .sl 1 (l.map B) := rfl
theorem slLL_noP (l : List (List Int)) : NoP (slLL l) := .sl _ _ fun c hc => by obtain ⟨z, _, rfl⟩ := List.mem_map.1 hc; exact noP_slI _
@[go_sem] theorem NoP_slLL (l : List (List Int)) : NoP (slLL l) = True := eq_true (slLL_noP l)
@[go_sem] theorem lenP_slLL (H : PHeap) (l : List (List Int)) : lenP Try.prog H 44 (slLL l) = some (I l.length) := by simp [slLL, go_sem]
@[go_sem] theorem indexAddrP_slLL (H : PHeap) (l : List (List Int)) (kd : IntKind) (z : Int) (h0 : 0 ≤ z) : indexAddrP Try.prog H 44 (slLL l) (.u (.int kd z)) = (l[z.toNat]?).elim none fun y => some (.rp ([slI y])) := by
  rw [slLL, indexAddrP_sl esz_44 _ _ h0, List.getElem?_map]
  cases l[z.toNat]? <;> rfl
@[go_sem] theorem slLL_cells (l : List (List Int)) : (slLL l).cells = [slLL l] := rfl
@[go_sem] theorem slLL_okC (H : PHeap) (l : List (List Int)) : okC H (slLL l) = true := rfl
@[go_sem] theorem slLL_leaf (H : PHeap) (l : List (List Int)) : leafOk H (slLL l) = true := rfl
theorem slLL_flat (l : List (List Int)) : (slLL l) = .sl 1 (l.map slI) := rfl
@[go_sem] theorem lenP_slS (H : PHeap) (l : List Rx) : lenP Try.prog H 24 (slS l) = some (I l.length) := by simp [slS, go_sem]
@[go_sem] theorem indexAddrP_slS (H : PHeap) (l : List Rx) (kd : IntKind) (z : Int) (h0 : 0 ≤ z) : indexAddrP Try.prog H 24 (slS l) (.u (.int kd z)) = (l[z.toNat]?).elim none fun y => some (.rp ([W64 y.s0, W64 y.s1, W64 y.s2, W64 y.s3])) := by
  rw [slS, indexAddrP_sl esz_24 _ _ h0, List.getElem?_map]
  cases l[z.toNat]? <;> rfl
@[go_sem] theorem slS_cells (l : List Rx) : (slS l).cells = [slS l] := rfl
@[go_sem] theorem slS_okC (H : PHeap) (l : List Rx) : okC H (slS l) = true := rfl
@[go_sem] theorem slS_leaf (H : PHeap) (l : List Rx) : leafOk H (slS l) = true := rfl
theorem slS_flat (l : List Rx) : (slS l) = .sl 4 (l.map encS) := rfl
@[go_sem] theorem lenP_slX (H : PHeap) (l : List Rx) : lenP Try.prog H 22 (slX l) = some (I l.length) := by simp [slX, go_sem]
@[go_sem] theorem indexAddrP_slX (H : PHeap) (l : List Rx) (kd : IntKind) (z : Int) (h0 : 0 ≤ z) : indexAddrP Try.prog H 22 (slX l) (.u (.int kd z)) = (l[z.toNat]?).elim none fun y => some (.rp ([I y.kind, W64 y.s0, W64 y.s1, W64 y.s2, W64 y.s3])) := by
  rw [slX, indexAddrP_sl esz_22 _ _ h0, List.getElem?_map]
  cases l[z.toNat]? <;> rfl
@[go_sem] theorem slX_cells (l : List Rx) : (slX l).cells = [slX l] := rfl
@[go_sem] theorem slX_okC (H : PHeap) (l : List Rx) : okC H (slX l) = true := rfl
@[go_sem] theorem slX_leaf (H : PHeap) (l : List Rx) : leafOk H (slX l) = true := rfl
theorem slX_flat (l : List Rx) : (slX l) = .sl 5 (l.map encX) := rfl
theorem slT_noP (l : List Tok) : NoP (slT l) := .sl _ _ fun c hc => by obtain ⟨z, _, rfl⟩ := List.mem_map.1 hc; exact .agg _ fun c hc => by simp at hc; rcases hc with rfl | rfl | rfl; exact .u _; exact slX_noP _; exact .u _
@[go_sem] theorem NoP_slT (l : List Tok) : NoP (slT l) = True := eq_true (slT_noP l)
@[go_sem] theorem lenP_slT (H : PHeap) (l : List Tok) : lenP Try.prog H 58 (slT l) = some (I l.length) := by simp [slT, go_sem]
@[go_sem] theorem indexAddrP_slT (H : PHeap) (l : List Tok) (kd : IntKind) (z : Int) (h0 : 0 ≤ z) : indexAddrP Try.prog H 58 (slT l) (.u (.int kd z)) = (l[z.toNat]?).elim none fun y => some (.rp ([S y.name, slX y.rex, I y.cls])) := by
  rw [slT, indexAddrP_sl esz_58 _ _ h0, List.getElem?_map]
  cases l[z.toNat]? <;> rfl
@[go_sem] theorem slT_cells (l : List Tok) : (slT l).cells = [slT l] := rfl
@[go_sem] theorem slT_okC (H : PHeap) (l : List Tok) : okC H (slT l) = true := rfl
@[go_sem] theorem slT_leaf (H : PHeap) (l : List Tok) : leafOk H (slT l) = true := rfl
theorem slT_flat (l : List Tok) : (slT l) = .sl 3 (l.map tokV) := rfl
theorem netV_noP (n : Net) : NoP (netV n) := by simp [go_sem]

/-- own rows of lists -/
def ownL {α : Type} (e k : Nat) (rep : α → PV) (H : PHeap) (id : Nat) (q : PV) (l : List α) : Prop := OwnS H e k id q l.length ((l.map rep).flatMap PV.cells)
theorem cells1 {α : Type} {rep : α → PV} (h : ∀ x, (rep x).cells = [rep x]) (l : List α) : (l.map rep).flatMap PV.cells = l.map rep := by
  induction l with
  | nil => rfl
  | cons m ms ih => rw [List.map_cons, List.flatMap_cons, ih, h]; rfl
theorem ownL.nil {α : Type} {e k : Nat} {rep : α → PV} (H : PHeap) (id : Nat) : ownL e k rep H id (.u (.slice none 0 0)) [] := OwnS.nil H e k id
theorem ownL.mono {α : Type} {e k id : Nat} {rep : α → PV} {H H' : PHeap} {q : PV} {l : List α} (h : ownL e k rep H id q l) (he : H' id = H id) : ownL e k rep H' id q l := OwnS.mono h he
theorem ownL.view {α : Type} {e k id : Nat} {rep : α → PV} {H : PHeap} {q : PV} {l : List α} (h : ownL e k rep H id q l) (hk : ∀ x, (rep x).cells.length = k) (hn : ∀ x, ∀ c ∈ (rep x).cells, NoP c) : View H q (.sl k (l.map rep)) :=
  OwnS.viewN h _ (by simp) (fun y hy => by obtain ⟨z, _, rfl⟩ := List.mem_map.1 hy; exact hk z) rfl fun c hc => by
    obtain ⟨y, hy, hc⟩ := List.mem_flatMap.1 hc
    obtain ⟨z, _, rfl⟩ := List.mem_map.1 hy
    exact hn z c hc
section
variable {P : Program} {W : Env} {n : Nat} {F : PFrame} {H : PHeap} {o : Oper} {l : List Oper} {ops : Array Oper} {K : PFrame → PHeap → Prop}
/-- a list read only, appended to an own row -/
theorem PL.appendL {α : Type} {rep : α → PV} {s x : Operand} {t e : TypeId} {k b d id : Nat} {z : Value} {q : PV} {xs ys : List α} (hg : o.guard = none) (ho : o.op = .call { callee := .builtin .append, args := #[s, x], argTypes := #[t, t] }) (hd : o.dst = some d) (hdn : d < n) (ht : selem P t = some (e, k, b, z))
    (hs : evP F s = q) (hr : ownL e k rep H id q xs) (hp : evP F x = .sl k (ys.map rep)) (hk : ∀ x, (rep x).cells.length = k) (hleaf : ∀ x, ∀ c ∈ (rep x).cells, leafOk H c = true) (h63 : xs.length + ys.length ≤ maxLen) (hbytes : (xs.length + ys.length) * b ≤ 140737488355328)
    (h : ∀ q' H', ownL e k rep H' id q' (xs ++ ys) → (∀ j, j ≠ id → H' j = H j) → PL P W n ops l (F.put (some d) q') H' K) : PL P W n ops (o :: l) F H K := by
  have hfl : ((ys.map rep).flatMap PV.cells).length = ys.length * k := by
    have := L.flat_length (k := k) (ys.map rep) (fun y hy => by obtain ⟨z, _, rfl⟩ := List.mem_map.1 hy; exact hk z)
    simpa using this
  refine PL.appendO (m2 := ys.length) (cs2 := (ys.map rep).flatMap PV.cells) hg ho hd hdn ht hs hr hp (by simp [srcP]) hfl (fun p hp => ?_) h63 hbytes fun q' H' h1 o1 => h q' H' ?_ o1
  · obtain ⟨y, hy, hc⟩ := List.mem_flatMap.1 hp
    obtain ⟨z, _, rfl⟩ := List.mem_map.1 hy
    exact hleaf z p hc
  · unfold ownL
    rw [List.length_append, List.map_append, List.flatMap_append]
    exact h1
theorem Rel.freezeO {a : Act} {w : World} {V : Nat → Value} {s e k id m : Nat} {q : PV} {cs : List PV} (hr : Rel P W n F H V a w) (hs : F s = q) (ho : OwnS H e k id q m cs) (xs : List PV) (hx : xs.flatMap PV.cells = cs) (hu : ∀ y ∈ xs, y.cells.length = k) (hm : xs.length = m) :
    ∃ H', (∀ j, j ≠ id → H' j = H j) ∧ Rel P W n (F.put (some s) (.sl k xs)) H' V a w := by
  rcases ho.2 with ⟨rfl, h0⟩ | ⟨v, rfl, h2⟩
  · refine ⟨H, fun _ _ => rfl, hr.heap, hr.size, hr.defers, fun t => ?_⟩
    have : xs = [] := List.eq_nil_of_length_eq_zero (by omega)
    subst this
    by_cases e : s = t
    · subst e
      have := hr.slot s
      rw [hs] at this
      generalize a.tmps.getD s undef = u at this
      cases this
      simp only [PFrame.put, if_true]
      exact .nil _ _ _
    · have e2 : ¬ (some s = some t) := by simpa using e
      simp only [PFrame.put, if_neg e2]
      exact hr.slot t
  · exact ⟨_, fun j hj => by simp [PHeap.set, hj], hr.freeze hs h2 xs hx hu hm⟩
theorem PC.freezeL {α : Type} {rep : α → PV} {c : Code} {Q : Exit → PFrame → PHeap → Prop} {e k id : Nat} {q : PV} {xs : List α} (s : Nat) (hs : F s = q) (ho : ownL e k rep H id q xs) (hk : ∀ x, (rep x).cells.length = k)
    (h : ∀ H', (∀ j, j ≠ id → H' j = H j) → PC P W n c (F.put (some s) (.sl k (xs.map rep))) H' Q) : PC P W n c F H Q := fun V a w Q' hr hQ => by
  obtain ⟨H', h1, h2⟩ := Rel.freezeO hr hs ho (xs.map rep) rfl (fun y hy => by obtain ⟨z, _, rfl⟩ := List.mem_map.1 hy; exact hk z) (by simp)
  exact h H' h1 V a w Q' h2 hQ
theorem PL.freezeL {α : Type} {rep : α → PV} {e k id : Nat} {q : PV} {xs : List α} (s : Nat) (hs : F s = q) (ho : ownL e k rep H id q xs) (hk : ∀ x, (rep x).cells.length = k)
    (h : ∀ H', (∀ j, j ≠ id → H' j = H j) → PL P W n ops l (F.put (some s) (.sl k (xs.map rep))) H' K) : PL P W n ops l F H K := fun V a w Q' hr hQ => by
  obtain ⟨H', h1, h2⟩ := Rel.freezeO hr hs ho (xs.map rep) rfl (fun y hy => by obtain ⟨z, _, rfl⟩ := List.mem_map.1 hy; exact hk z) (by simp)
  exact h H' h1 V a w Q' h2 hQ
end
abbrev ownIs := ownL 3 1 I
abbrev ownBs := ownL 4 1 B
abbrev ownLs := ownL 30 1 slI
abbrev ownSs := ownL 28 4 encS
end Go.Proofs.Ytficeeaaaijgcaa

/-
  The functions that the reference of chapter 11 computes, as plain Lean functions on lists; no program here.
-/
namespace Go.Proofs.Ytficeeaaaijgcaa

def rightL : List Int → Bool
  | a :: b :: r => decide (a < b) && rightL (b :: r)
  | _ => true

theorem rightL_iff (l : List Int) : rightL l = true ↔ ∀ (j : Nat) (h : j + 1 < l.length), l[j] < l[j+1] := by
  induction l with
  | nil => simp [rightL]
  | cons a r ih =>
    cases r with
    | nil => simp [rightL]
    | cons b r =>
      simp only [rightL, Bool.and_eq_true, decide_eq_true_eq, ih]
      constructor
      · rintro ⟨h1, h2⟩ j hj
        cases j with
        | zero => simpa using h1
        | succ j => exact h2 j (by simpa using hj)
      · intro h
        exact ⟨by simpa using h 0 (by simp), fun j hj => h (j+1) (by simpa using hj)⟩

def putAt (l : List Int) (n : Int) : Nat := (l.takeWhile (· < n)).length
def putL (l : List Int) (n : Int) : List Int := if n ∈ l then l else l.take (putAt l n) ++ n :: l.drop (putAt l n)
def ofL (l : List Int) : List Int := l.foldl putL []
def unionL (a b : List Int) : List Int := b.foldl putL (ofL a)
def keptL (a b : List Int) (inn : Bool) : List Int := a.filter fun x => decide (x ∈ b) == inn

theorem putAt_le (l : List Int) (n : Int) : putAt l n ≤ l.length := List.Sublist.length_le (List.takeWhile_sublist _)
theorem putAt_lt (l : List Int) (n : Int) (k : Nat) (hk : k < putAt l n) (h : k < l.length) : l[k] < n := by
  induction l generalizing k with
  | nil => cases h
  | cons a r ih =>
    unfold putAt at hk
    rw [List.takeWhile_cons] at hk
    split at hk
    · rename_i ha
      cases k with
      | zero => simpa using ha
      | succ k => simpa using ih k (by unfold putAt; simpa using hk) (by simpa using h)
    · simp at hk
theorem putAt_ge (l : List Int) (n : Int) (h : putAt l n < l.length) : n ≤ l[putAt l n] := by
  induction l with
  | nil => cases h
  | cons a r ih =>
    by_cases ha : a < n
    · have e : putAt (a :: r) n = putAt r n + 1 := by simp [putAt, ha]
      have h' : putAt r n < r.length := by simp only [e, List.length_cons] at h; omega
      have := ih h'
      simpa [e] using this
    · have e : putAt (a :: r) n = 0 := by simp [putAt, ha]
      simp [e]; omega
theorem putL_length (l : List Int) (n : Int) : (putL l n).length ≤ l.length + 1 := by
  unfold putL; split
  · omega
  · have := putAt_le l n; simp; omega
theorem foldl_putL_length (l : List Int) (acc : List Int) : (l.foldl putL acc).length ≤ acc.length + l.length := by
  induction l generalizing acc with
  | nil => simp
  | cons a r ih => have := ih (putL acc a); have := putL_length acc a; simp only [List.foldl_cons, List.length_cons]; omega
theorem foldl_take_succ {α β : Type} (f : β → α → β) (b : β) (l : List α) (k : Nat) (h : k < l.length) : (l.take (k+1)).foldl f b = f ((l.take k).foldl f b) l[k] := by
  rw [List.take_succ_eq_append_getElem h, List.foldl_append]; rfl
theorem drop_take_succ {α : Type} (l : List α) (t m : Nat) (h : m < l.length) (htm : t ≤ m) : (l.drop t).take (m + 1 - t) = (l.drop t).take (m - t) ++ [l[m]] := by
  have e : m + 1 - t = (m - t) + 1 := by omega
  have hl : m - t < (l.drop t).length := by rw [List.length_drop]; omega
  rw [e, List.take_succ_eq_append_getElem hl, List.getElem_drop]
  congr 3
  omega
theorem filter_take_succ {α : Type} (p : α → Bool) (l : List α) (k : Nat) (h : k < l.length) : (l.take (k+1)).filter p = (l.take k).filter p ++ (if p l[k] then [l[k]] else []) := by
  rw [List.take_succ_eq_append_getElem h, List.filter_append]; congr 1
  cases hp : p l[k] <;> simp [hp]
end Go.Proofs.Ytficeeaaaijgcaa

/-
  The package many: what its functions return, as contracts.
-/
namespace Go.Proofs.Ytficeeaaaijgcaa
open Go.RowKit

set_option maxHeartbeats 400000 in
theorem many_Right_any (v : Value) (l : List Int) (w : World) (hv : RdI w v l) (hl : l.length ≤ 9223372036854775807) :
    Calls Try.prog 104 #[v] w fun e w' => e = .returned (.bool (rightL l)) ∧ ∃ n, w' = w.drewN n := by
  obtain ⟨a, c, rfl, hc⟩ := hv
  go_enter Try.func104, Try.ntmps104
  go_wp2
  go_loopw [7] (fun i wr => (∃ n, wr = w.drewN n) ∧ ∃ k : Nat, i = .int .i64 k ∧ (∀ (j : Nat) (h : j + 1 < l.length), j < k → l[j] < l[j+1])) (fun i _ => l.length - (intOf i).toNat)
  case atStart => exact ⟨⟨0, rfl⟩, 0, rfl, by intro j h hj; omega⟩
  case round =>
    obtain ⟨⟨q, rfl⟩, m, rfl, hn⟩ := hrel
    have Hn := Lib.hid hn; clear hn
    by_cases hlt : m + 1 < l.length
    · obtain ⟨b, o, rfl, hcell⟩ := hc (m+1) hlt
      obtain ⟨b', o', ha, hcell'⟩ := hc m (by omega)
      cases ha
      clear hc
      have hlt' : (m : Int) < (l.length : Int) - 1 := by omega
      go_wp2
      go_quiet (fail)
      by_cases hd : l[m] < l[m+1]
      · have hm : Hid (∀ (j : Nat) (h : j + 1 < l.length), j < m + 1 → l[j] < l[j+1]) := by
          intro j h hj
          by_cases e : j = m
          · subst e; exact hd
          · exact Hn.out j h (by omega)
        go_wp2
        go_roundw
        case rel => exact ⟨⟨_, rfl⟩, m + 1, by go_num, hm.out⟩
        case measure => simp [intOf]; omega
      · have hf : Hid (rightL l = false) := Lib.hid (by
          rw [Bool.eq_false_iff]; intro h; exact hd ((rightL_iff l).1 h m hlt))
        go_wp2
        go_ret
        exact ⟨ret_bool hf.out.symm, _, rfl⟩
    · have hlt' : ¬ (m : Int) < (l.length : Int) - 1 := by omega
      go_wp2
      go_ret
      have h := Hn.out
      exact ⟨ret_bool ((rightL_iff l).2 (fun j hj => h j hj (by omega))).symm, _, rfl⟩

set_option maxHeartbeats 400000 in
theorem many_Has_any (v : Value) (l : List Int) (n : Int) (w : World) (hv : RdI w v l) (hl : l.length ≤ 10000000) (hs : l.Pairwise (· ≤ ·)) :
    Calls Try.prog 78 #[v, .int .i64 n] w fun e w' => e = .returned (.bool (decide (n ∈ l))) ∧ ∃ n, w' = w.drewN n := by
  have Hs := Lib.hid hs; clear hs
  go_enter Try.func78, Try.ntmps78
  go_wp2_with fail
  refine (bsearch_any _ _ _ _ hv hl Hs.out).mono ?_
  rintro e w1 ⟨k, rfl, q, rfl⟩
  go_wp2_with fail
  go_ret
  exact ⟨rfl, q, rfl⟩

end Go.Proofs.Ytficeeaaaijgcaa

/-
  The package many: the merge of two rising lists, and the closures that it is handed.
-/
namespace Go.Proofs.Ytficeeaaaijgcaa
open Go.RowKit

/-- the captured variable in block Bo holds v, which owns acc from block Br on -/
def AccAt (w : World) (Bo Br : Nat) (v : Value) (acc : List Int) : Prop :=
  Bo < Br ∧ Br ≤ w.heap.size ∧ w.heap[Bo]? = some (.cells #[v] 30 (0, 0)) ∧ OwI w Br v acc

set_option maxHeartbeats 400000 in
theorem put1_any (Bo Br : Nat) (v : Value) (acc : List Int) (n : Int) (w : World) (ha : AccAt w Bo Br v acc) (hl : acc.length ≤ 10000000) :
    Calls Try.prog 121 #[.int .i64 n, .pointer (some ⟨Bo, 0, none⟩)] w fun e w' => e = .returned (.tuple #[]) ∧ (∃ v', AccAt w' Bo Br v' (acc ++ [n])) ∧ BelowBut Br Bo w w' := by
  obtain ⟨h1, h2, h3, h4⟩ := ha
  have hcell := cell_of_one h3
  have hfree := free_of_one h3
  go_enter Try.func121, Try.ntmps121
  go_wp2_with (at_builtin; refine wpList_append_I rfl _ _ rfl Br _ _ rfl h4 _ rfl hl h2 ?_; intro v' w1 hown1 hb1; obtain ⟨a1, c1, rfl⟩ := hown1.shape; (have h31 := (hb1.block Bo h1).trans h3); (have hcell1 := cell_of_one h31); (have hfree1 := free_of_one h31); clear hcell hfree h4)
  go_end0
  exact ⟨rfl, ⟨_, h1, by have := hb1.size; simp [World.setCell]; omega, one_setCell h31, by have hz := ownsRow_setCell_below hown1 (a := ⟨Bo, 0, none⟩) h1 (.slice a1 (acc.length + 1) c1); simpa [OwI, Ow] using hz⟩, (BelowBut.of_below hb1).setCell _⟩

/-- what 'to(f, x)' does, f a closure that appends to the captured variable, or nil -/
def ToSpec (Bo Br : Nat) (f : Value) (on : Bool) : Prop :=
  ∀ (v : Value) (acc : List Int) (n : Int) (w : World), AccAt w Bo Br v acc → acc.length ≤ 10000000 →
    Calls Try.prog 141 #[f, .int .i64 n] w fun e w' => e = .returned (.tuple #[]) ∧ (∃ v', AccAt w' Bo Br v' (acc ++ if on then [n] else [])) ∧ BelowBut Br Bo w w'

theorem to_nil (Bo Br : Nat) : ToSpec Bo Br .nilFunc false := by
  intro v acc n w ha hl
  have hb : ∀ w : World, (binOp .neq 146 .nilFunc .nilFunc).run Try.prog w = .ok (.bool false) w := fun _ => by kernel_rfl
  go_enter Try.func141, Try.ntmps141
  go_wp2_with fail
  go_end0
  exact ⟨rfl, ⟨v, by simpa using ha⟩, BelowBut.refl _ _ _⟩

theorem to_put1 (Bo Br : Nat) : ToSpec Bo Br (.func (.func 121) #[] #[.pointer (some ⟨Bo, 0, none⟩)]) true := by
  intro v acc n w ha hl
  have hb : ∀ w : World, (binOp .neq 146 (.func (.func 121) #[] #[.pointer (some ⟨Bo, 0, none⟩)]) .nilFunc).run Try.prog w = .ok (.bool true) w := fun _ => by kernel_rfl
  go_enter Try.func141, Try.ntmps141
  go_wp2_with fail
  refine (put1_any Bo Br v acc n w ha hl).mono ?_
  rintro e w1 ⟨rfl, ha1, hb1⟩
  go_wp2_with fail
  go_end0
  exact ⟨rfl, by simpa using ha1, hb1⟩
end Go.Proofs.Ytficeeaaaijgcaa

/-
  The merge of two rising lists, as a plain function; no program here.
-/
namespace Go.Proofs.Ytficeeaaaijgcaa
def opt (b : Bool) (x : Int) : List Int := if b then [x] else []
def mergeF (f g h : Bool) : Nat → List Int → List Int → List Int
  | 0, _, _ => []
  | _ + 1, [], [] => []
  | n + 1, x :: a, [] => opt f x ++ mergeF f g h n a []
  | n + 1, [], y :: b => opt h y ++ mergeF f g h n [] b
  | n + 1, x :: a, y :: b => if x < y then opt f x ++ mergeF f g h n a (y :: b) else if y < x then opt h y ++ mergeF f g h n (x :: a) b else opt g x ++ mergeF f g h n a b
theorem mergeF_none (f g h : Bool) (n : Nat) : mergeF f g h n [] [] = [] := by cases n <;> rfl
theorem opt_len (b : Bool) (x : Int) : (opt b x).length ≤ 1 := by cases b <;> simp [opt]
def mergeL (f g h : Bool) (a b : List Int) : List Int := mergeF f g h (a.length + b.length) a b
end Go.Proofs.Ytficeeaaaijgcaa

namespace Go.Proofs.Ytficeeaaaijgcaa
open Go.RowKit

def lenOf : Value → Nat | .slice _ n _ => n | _ => 0

/-- what is left to merge, in whatever world of a round -/
structure MergeAt (Bo Bk : Nat) (k : Array Value) (tot : List Int) (f g h : Bool) (w0 : World) (v0 v1 : Value) (wr : World) (ra rb acc : List Int) (n : Nat) : Prop where
  pacc : ∃ v, AccAt wr Bo (Bk + 1) v acc
  pcell : wr.heap[Bk]? = some (.cells k 149 (0, 0))
  pblw : Below Bo w0 wr
  pra : RdLoI wr Bo v0 ra
  prb : RdLoI wr Bo v1 rb
  pca : CapOK v0
  pcb : CapOK v1
  peq : acc ++ mergeF f g h n ra rb = tot
  pfuel : ra.length + rb.length ≤ n
  psmall : acc.length + ra.length + rb.length ≤ 10000000

theorem BelowBut.next {Bo Bk : Nat} {k : Array Value} {tot : List Int} {f g h : Bool} {w0 wr w2 : World} {v0 v1 : Value} {ra rb acc : List Int} {n : Nat} {q : Nat}
    (hb : BelowBut (Bk + 1) Bo (wr.drewN q) w2) (hBk : Bo < Bk) (hacc : ∃ v, AccAt w2 Bo (Bk + 1) v acc) (hcell : wr.heap[Bk]? = some (.cells k 149 (0, 0))) (hblw : Below Bo w0 wr)
    (hra : RdLoI wr Bo v0 ra) (hrb : RdLoI wr Bo v1 rb) (hca : CapOK v0) (hcb : CapOK v1) (heq : acc ++ mergeF f g h n ra rb = tot) (hfuel : ra.length + rb.length ≤ n) (hs : acc.length + ra.length + rb.length ≤ 10000000) :
    MergeAt Bo Bk k tot f g h w0 v0 v1 w2 ra rb acc n := by
  have hb' : BelowBut (Bk + 1) Bo wr w2 := ⟨hb.os, hb.tape, hb.output, hb.size, hb.block⟩
  have hlo : Below Bo wr w2 := hb'.below (by omega) (Nat.le_refl _)
  exact ⟨hacc, by rw [hb'.block Bk (by omega) (by omega)]; exact hcell, hblw.trans hlo, hra.below hlo, hrb.below hlo, hca, hcb, heq, hfuel, hs⟩

theorem MergeAt.drewN {Bo Bk : Nat} {k : Array Value} {tot : List Int} {f g h : Bool} {w0 w2 : World} {v0 v1 : Value} {ra rb acc : List Int} {n : Nat}
    (m : MergeAt Bo Bk k tot f g h w0 v0 v1 w2 ra rb acc n) (q : Nat) : MergeAt Bo Bk k tot f g h w0 v0 v1 (w2.drewN q) ra rb acc n :=
  ⟨m.pacc, m.pcell, below_drewN m.pblw q, m.pra, m.prb, m.pca, m.pcb, m.peq, m.pfuel, m.psmall⟩

theorem RdLo_tail {w : World} {B b o c0 : Nat} {x : Int} {ra : List Int} (h : RdLoI w B (.slice (some ⟨b, o, none⟩) (ra.length + 1) c0) (x :: ra)) (hc : ra.length + 1 ≤ c0) :
    RdLoI w B (.slice (if c0 = 1 then some ⟨b, o, none⟩ else some ⟨b, o + 1, none⟩) ra.length (c0 - 1)) ra := by
  obtain ⟨a, c, hv, hcell⟩ := h
  cases hv
  refine ⟨_, _, rfl, fun j hj => ?_⟩
  have h1 : c0 ≠ 1 := by omega
  rw [if_neg h1]
  obtain ⟨b', o', ha, hb, hx⟩ := hcell (j + 1) (by simpa using hj)
  cases ha
  refine ⟨b, o + 1, rfl, hb, ?_⟩
  rw [show o + 1 + j = o + (j + 1) from by omega]
  exact hx
theorem cap_tail {a : Option Addr} {n c0 : Nat} (hc : n + 1 ≤ c0) : CapOK (.slice a n (c0 - 1)) := by simp only [CapOK]; omega

theorem heqStep {acc o m t T : List Int} (h : acc ++ m = T) (hm : m = o ++ t) : (acc ++ o) ++ t = T := by rw [List.append_assoc, ← hm]; exact h

/-- a slice that is not empty, spelt out -/
theorem RdLo_cons {w : World} {B : Nat} {v : Value} {x : Int} {ra : List Int} (h : RdLoI w B v (x :: ra)) (hc : CapOK v) :
    ∃ b o c, v = .slice (some ⟨b, o, none⟩) (ra.length + 1) c ∧ ra.length + 1 ≤ c ∧ w.cell? ⟨b, o, none⟩ = some (.int .i64 x) := by
  obtain ⟨a, c, rfl, hcell⟩ := h
  obtain ⟨b, o, rfl, _, hx⟩ := hcell 0 (by simp)
  exact ⟨b, o, c, rfl, by simpa [CapOK] using hc, by simpa using hx⟩

set_option maxHeartbeats 1000000 in
set_option maxRecDepth 50000 in
theorem merge_any (v u f1 f2 f3 : Value) (g1 g2 g3 : Bool) (la lb : List Int) (Bo : Nat) (w : World)
    (hv : RdLoI w Bo v la) (hu : RdLoI w Bo u lb) (hcv : CapOK v) (hcu : CapOK u) (hl : la.length + lb.length ≤ 4000000)
    (hB : Bo < w.heap.size) (ho : w.heap[Bo]? = some (.cells #[.slice none 0 0] 30 (0, 0)))
    (h1 : ∀ Br, ToSpec Bo Br f1 g1) (h2 : ∀ Br, ToSpec Bo Br f2 g2) (h3 : ∀ Br, ToSpec Bo Br f3 g3) :
    Calls Try.prog 122 #[v, u, .agg #[f1, f2, f3]] w fun e w' => e = .returned (.tuple #[]) ∧ (∃ v' Br, AccAt w' Bo Br v' (mergeL g1 g2 g3 la lb)) ∧ Below Bo w w' := by
  have hS : MergeAt Bo w.heap.size #[f1, f2, f3] (mergeL g1 g2 g3 la lb) g1 g2 g3 w v u (w.alloc (.cells #[f1, f2, f3] 149)) la lb [] (la.length + lb.length) := by
    have hb : Below Bo w (w.alloc (.cells #[f1, f2, f3] 149)) := (Below.refl _ _).alloc (by omega) _
    refine ⟨⟨.slice none 0 0, by omega, by simp, ?_, Ow_nil _ _⟩, heap_alloc_new w _, hb, hv.below hb, hu.below hb, hcv, hcu, rfl, Nat.le_refl _, by simp; omega⟩
    rw [Below.heap_alloc w _ Bo hB]; exact ho
  have H1 := Lib.hid h1; clear h1
  have H2 := Lib.hid h2; clear h2
  have H3 := Lib.hid h3; clear h3
  clear hv hu hcv hcu ho
  go_enter Try.func122, Try.ntmps122
  go_wp2_with fail
  go_loopw [0, 1] (fun v0 v1 wr => ∃ ra rb acc n, MergeAt Bo w.heap.size #[f1, f2, f3] (mergeL g1 g2 g3 la lb) g1 g2 g3 w v0 v1 wr ra rb acc n) (fun v0 v1 _ => lenOf v0 + lenOf v1)
  case atStart => exact ⟨_, _, _, _, hS⟩
  case round =>
    clear hS
    obtain ⟨ra, rb, acc, n, hm⟩ := hrel
    obtain ⟨⟨va, hacc⟩, hcell, hblw, hra, hrb, hca, hcb, heq, hfuel, hsmall⟩ := hm
    have hk0 : wr.cell? ⟨w.heap.size, 0, none⟩ = some f1 := by simp [World.cell?, hcell]
    have hk1 : wr.cell? ⟨w.heap.size, 1, none⟩ = some f2 := by simp [World.cell?, hcell]
    have hk2 : wr.cell? ⟨w.heap.size, 2, none⟩ = some f3 := by simp [World.cell?, hcell]
    cases ra with
    | nil =>
      cases rb with
      | nil =>
        obtain ⟨a0, c0, rfl, _⟩ := hra
        obtain ⟨a1, c1, rfl, _⟩ := hrb
        rw [mergeF_none, List.append_nil] at heq
        have Heq := Lib.hid heq; clear heq
        go_wp2
        go_end0
        exact ⟨rfl, ⟨_, _, by rw [← Heq.out]; exact hacc⟩, hblw⟩
      | cons y rb =>
        obtain ⟨b, o, c1, rfl, hcap, hy⟩ := RdLo_cons hrb hcb
        have hra' := hra
        obtain ⟨a0, c0, rfl, _⟩ := hra'
        have hz : ((rb.length : Int) + 1 == 0) = false := beq_eq_false_iff_ne.2 (by omega)
        have Heq := Lib.hid heq; clear heq
        go_wp2
        go_quiet (fail)
        go_wp2
        go_quiet (fail)
        go_wp2
        refine region_tail 6 (by kernel_rfl) (by kernel_rfl) ?_
        simp only [List.take_succ_cons, List.take_zero, List.drop_succ_cons, List.drop_zero]
        repeat still_step
        refine wpStill_nil ?_
        go_wp2_with fail
        refine (H3.out (w.heap.size + 1) va acc y _ (show AccAt (wr.drewN _) _ _ _ _ from hacc) (by simp only [List.length_cons] at hsmall; omega)).mono ?_
        rintro e w2 ⟨rfl, hacc2, hb2⟩
        have Hac := Lib.hid hacc2; clear hacc2
        go_wp2_with fail
        cases n with
        | zero => simp at hfuel
        | succ n =>
          refine ⟨⟨_, _, _, n, hb2.next hB Hac.out hcell hblw hra (RdLo_tail hrb hcap) hca (cap_tail hcap) (by rw [List.append_assoc]; exact Heq.out) (by simp only [List.length_cons, List.length_nil] at hfuel ⊢; omega) (by have := opt_len g3 y; simp [opt] at hsmall this ⊢; omega)⟩, by simp [lenOf]⟩
    | cons x ra =>
      obtain ⟨b, o, c0, rfl, hcap, hx⟩ := RdLo_cons hra hca
      cases rb with
      | nil =>
        have hrb' := hrb
        obtain ⟨a1, c1, rfl, _⟩ := hrb'
        have Heq := Lib.hid heq; clear heq
        go_wp2
        go_quiet (fail)
        go_wp2
        refine region_tail 6 (by kernel_rfl) (by kernel_rfl) ?_
        simp only [List.take_succ_cons, List.take_zero, List.drop_succ_cons, List.drop_zero]
        repeat still_step
        refine wpStill_nil ?_
        go_wp2_with fail
        refine (H1.out (w.heap.size + 1) va acc x _ (show AccAt (wr.drewN _) _ _ _ _ from hacc) (by simp only [List.length_cons] at hsmall; omega)).mono ?_
        rintro e w2 ⟨rfl, hacc2, hb2⟩
        have Hac := Lib.hid hacc2; clear hacc2
        go_wp2_with fail
        cases n with
        | zero => simp at hfuel
        | succ n =>
          refine ⟨⟨_, _, _, n, hb2.next hB Hac.out hcell hblw (RdLo_tail hra hcap) hrb (cap_tail hcap) hcb (by rw [List.append_assoc]; exact Heq.out) (by simp only [List.length_cons, List.length_nil] at hfuel ⊢; omega) (by have := opt_len g1 x; simp [opt] at hsmall this ⊢; omega)⟩, by simp [lenOf]⟩
      | cons y rb =>
        obtain ⟨b2, o2, c1, rfl, hcap2, hy⟩ := RdLo_cons hrb hcb
        have hz : ((rb.length : Int) + 1 == 0) = false := beq_eq_false_iff_ne.2 (by omega)
        have hz2 : ((ra.length : Int) + 1 == 0) = false := beq_eq_false_iff_ne.2 (by omega)
        rcases Int.lt_trichotomy x y with hxy | hxy | hxy
        · have Heq : Hid (acc ++ mergeF g1 g2 g3 n (x :: ra) (y :: rb) = mergeL g1 g2 g3 la lb) := Lib.hid heq
          clear heq
          cases n with
          | zero => simp at hfuel
          | succ n =>
          have Hm : Hid (mergeF g1 g2 g3 (n + 1) (x :: ra) (y :: rb) = opt g1 x ++ mergeF g1 g2 g3 n ra (y :: rb)) := Lib.hid (by rw [mergeF, if_pos hxy])
          go_wp2
          go_quiet (fail)
          go_wp2
          refine region_tail 6 (by kernel_rfl) (by kernel_rfl) ?_
          simp only [List.take_succ_cons, List.take_zero, List.drop_succ_cons, List.drop_zero]
          repeat still_step
          refine wpStill_nil ?_
          go_wp2_with fail
          refine (H1.out (w.heap.size + 1) va acc x _ (show AccAt (wr.drewN _) _ _ _ _ from hacc) (by simp only [List.length_cons] at hsmall; omega)).mono ?_
          rintro e w2 ⟨rfl, hacc2, hb2⟩
          have Hac := Lib.hid hacc2; clear hacc2
          go_wp2_with fail
          refine ⟨⟨_, _, _, n, hb2.next hB Hac.out hcell hblw (RdLo_tail hra hcap) hrb (cap_tail hcap) hcb (heqStep Heq.out Hm.out) (by simp only [List.length_cons] at hfuel ⊢; omega) (by have := opt_len g1 x; simp [opt] at hsmall this ⊢; omega)⟩, by simp [lenOf]⟩
        · subst hxy
          have Heq : Hid (acc ++ mergeF g1 g2 g3 n (x :: ra) (x :: rb) = mergeL g1 g2 g3 la lb) := Lib.hid heq
          clear heq
          cases n with
          | zero => simp at hfuel
          | succ n =>
          have Hm : Hid (mergeF g1 g2 g3 (n + 1) (x :: ra) (x :: rb) = opt g2 x ++ mergeF g1 g2 g3 n ra rb) := Lib.hid (by rw [mergeF, if_neg (by omega), if_neg (by omega)])
          go_wp2
          go_quiet (fail)
          go_wp2
          go_quiet (fail)
          go_wp2
          refine region_tail 6 (by kernel_rfl) (by kernel_rfl) ?_
          simp only [List.take_succ_cons, List.take_zero, List.drop_succ_cons, List.drop_zero]
          repeat still_step
          refine wpStill_nil ?_
          go_wp2_with fail
          refine (H2.out (w.heap.size + 1) va acc x _ (show AccAt (wr.drewN _) _ _ _ _ from hacc) (by simp only [List.length_cons] at hsmall; omega)).mono ?_
          rintro e w2 ⟨rfl, hacc2, hb2⟩
          have Hac := Lib.hid hacc2; clear hacc2
          go_wp2_with fail
          go_quiet (fail)
          go_wp2_with fail
          refine ⟨⟨_, _, _, n, (hb2.next hB Hac.out hcell hblw (RdLo_tail hra hcap) (RdLo_tail hrb hcap2) (cap_tail hcap) (cap_tail hcap2) (heqStep Heq.out Hm.out) (by simp only [List.length_cons] at hfuel ⊢; omega) (by have := opt_len g2 x; simp [opt] at hsmall this ⊢; omega)).drewN _⟩, by simp [lenOf]; omega⟩
        · have Heq : Hid (acc ++ mergeF g1 g2 g3 n (x :: ra) (y :: rb) = mergeL g1 g2 g3 la lb) := Lib.hid heq
          clear heq
          cases n with
          | zero => simp at hfuel
          | succ n =>
          have Hm : Hid (mergeF g1 g2 g3 (n + 1) (x :: ra) (y :: rb) = opt g3 y ++ mergeF g1 g2 g3 n (x :: ra) rb) := Lib.hid (by rw [mergeF, if_neg (by omega), if_pos hxy])
          have hxy' : ¬ x < y := by omega
          go_wp2
          go_quiet (fail)
          go_wp2
          go_quiet (fail)
          go_wp2
          refine region_tail 6 (by kernel_rfl) (by kernel_rfl) ?_
          simp only [List.take_succ_cons, List.take_zero, List.drop_succ_cons, List.drop_zero]
          repeat still_step
          refine wpStill_nil ?_
          go_wp2_with fail
          refine (H3.out (w.heap.size + 1) va acc y _ (show AccAt (wr.drewN _) _ _ _ _ from hacc) (by simp only [List.length_cons] at hsmall; omega)).mono ?_
          rintro e w2 ⟨rfl, hacc2, hb2⟩
          have Hac := Lib.hid hacc2; clear hacc2
          go_wp2_with fail
          refine ⟨⟨_, _, _, n, hb2.next hB Hac.out hcell hblw hra (RdLo_tail hrb hcap2) hca (cap_tail hcap2) (heqStep Heq.out Hm.out) (by simp only [List.length_cons] at hfuel ⊢; omega) (by have := opt_len g3 y; simp [opt] at hsmall this ⊢; omega)⟩, by simp [lenOf]⟩
end Go.Proofs.Ytficeeaaaijgcaa

namespace Go.Proofs.Ytficeeaaaijgcaa
open Go.RowKit

set_option maxHeartbeats 400000 in
theorem many_Union_any (v u : Value) (l m : List Int) (w : World) (hv : RdI w v l) (hu : RdI w u m) (hcv : CapOK v) (hcu : CapOK u) (hl : l.length + m.length ≤ 4000000) :
    Calls Try.prog 105 #[v, u] w fun e w' => ∃ v', e = .returned v' ∧ OwI w' w.heap.size v' (mergeL true true true l m) ∧ Below w.heap.size w w' := by
  have hb : Below w.heap.size w (w.alloc (.cells #[.slice none 0 0] 30)) := (Below.refl _ _).alloc (Nat.le_refl _) _
  have hlv := hv.lo.below hb
  have hlu := hu.lo.below hb
  have Hb := Lib.hid hb; clear hb
  have hmf : ∀ (fn : Fn) (first cap : Array Value) (w : World), (Instr.makeFunc fn first cap).run Try.prog w = .ok (.func fn first cap) w := fun _ _ _ _ => rfl
  have hsz : w.heap.size < (w.alloc (.cells #[.slice none 0 0] 30)).heap.size := by simp
  have hnew := heap_alloc_new w (.cells #[.slice none 0 0] 30)
  go_enter Try.func105, Try.ntmps105
  go_wp2_with fail
  refine (merge_any v u _ _ _ true true true l m w.heap.size _ hlv hlu hcv hcu hl hsz hnew (fun Br => to_put1 _ Br) (fun Br => to_put1 _ Br) (fun Br => to_put1 _ Br)).mono ?_
  rintro e w2 ⟨rfl, ⟨v2, Br, h1, h2, h3, h4⟩, hb2⟩
  have hcell := cell_of_one h3
  clear hnew hsz
  obtain ⟨a2, c2, rfl⟩ := h4.shape
  go_wp2_with fail
  go_ret
  exact ⟨_, rfl, h4.mono (by omega), Hb.out.trans hb2⟩

end Go.Proofs.Ytficeeaaaijgcaa

/-
  The reference of chapter 11: what each of its functions returns, as contracts.
-/
namespace Go.Proofs.Ytficeeaaaijgcaa
open Go.RowKit

set_option maxHeartbeats 400000 in
theorem refHas_any (v : Value) (l : List Int) (n : Int) (w : World) (hv : RdI w v l) (hl : l.length ≤ 4000000) :
    Calls Try.prog 80 #[v, .int .i64 n] w fun e w' => e = .returned (.bool (decide (n ∈ l))) ∧ w = w' := by
  obtain ⟨a, c, rfl, hc⟩ := hv
  go_enter Try.func80, Try.ntmps80
  go_wp2
  go_loop [5] (fun i => ∃ k : Nat, k ≤ l.length ∧ i = .int .i64 k ∧ n ∉ l.take k) (fun i => l.length - (intOf i).toNat)
  case atStart => exact ⟨0, by omega, rfl, by simp⟩
  case round =>
    obtain ⟨k, hk, rfl, hn⟩ := hrel
    have Hn := Lib.hid hn; clear hn
    by_cases hlt : k < l.length
    · obtain ⟨b, o, rfl, hcell⟩ := hc k hlt
      clear hc
      by_cases he : l[k] = n
      · have he1 : (l[k] == n) = true := by simp [he]
        have Hm : Hid (n ∈ l) := by rw [← he]; exact List.getElem_mem hlt
        clear he
        go_wp2
        go_ret
        exact ⟨by simp [Hm.out], rfl⟩
      · have he1 : (l[k] == n) = false := by simp [he]
        have Hm : Hid (n ∉ l.take (k+1)) := by
          intro hh; rw [List.take_succ_eq_append_getElem hlt] at hh; rcases List.mem_append.1 hh with hh | hh
          · exact Hn.out hh
          · simp at hh; exact he hh.symm
        clear he
        go_wp2
        go_round
        case rel => exact ⟨k + 1, by omega, by go_num, Hm.out⟩
        case measure => simp [intOf]; omega
    · go_wp2
      go_ret
      have : l.take k = l := List.take_of_length_le (by omega)
      have h := Hn.out
      rw [this] at h
      exact ⟨by simp [h], rfl⟩

set_option maxHeartbeats 400000 in
theorem refRight_any (v : Value) (l : List Int) (w : World) (hv : RdI w v l) (hl : l.length ≤ 9223372036854775807) :
    Calls Try.prog 57 #[v] w fun e w' => e = .returned (.bool (rightL l)) ∧ ∃ n, w' = w.drewN n := by
  obtain ⟨a, c, rfl, hc⟩ := hv
  go_enter Try.func57, Try.ntmps57
  go_wp2
  go_loopw [3] (fun i wr => (∃ n, wr = w.drewN n) ∧ ∃ k : Nat, 1 ≤ k ∧ i = .int .i64 k ∧ (∀ (j : Nat) (h : j + 1 < l.length), j + 1 < k → l[j] < l[j+1])) (fun i _ => l.length - (intOf i).toNat)
  case atStart => exact ⟨⟨0, rfl⟩, 1, by omega, rfl, by intro j h hj; omega⟩
  case round =>
    obtain ⟨⟨q, rfl⟩, k, hk, rfl, hn⟩ := hrel
    have Hn := Lib.hid hn; clear hn
    by_cases hlt : k < l.length
    · obtain ⟨b, o, rfl, hcell⟩ := hc k hlt
      obtain ⟨b', o', ha, hcell'⟩ := hc (k-1) (by omega)
      have hbo : b' = b ∧ o' = o := by simpa using ha.symm
      obtain ⟨rfl, rfl⟩ := hbo
      clear hc ha
      obtain ⟨m, rfl⟩ : ∃ m, k = m + 1 := ⟨k - 1, by omega⟩
      simp only [Nat.add_sub_cancel] at hcell'
      go_wp2
      go_quiet (fail)
      by_cases hd : l[m] < l[m+1]
      · have hm : Hid (∀ (j : Nat) (h : j + 1 < l.length), j + 1 < m + 1 + 1 → l[j] < l[j+1]) := by
          intro j h hj
          by_cases e : j = m
          · subst e; exact hd
          · exact Hn.out j h (by omega)
        go_wp2
        go_roundw
        case rel => exact ⟨⟨_, rfl⟩, m + 2, by omega, by go_num, hm.out⟩
        case measure => simp [intOf]; omega
      · have hf : rightL l = false := by
          rw [Bool.eq_false_iff]; intro h; exact hd ((rightL_iff l).1 h m hlt)
        go_wp2
        go_ret
        exact ⟨rfl, _, rfl⟩
    · go_wp2
      go_ret
      have h := Hn.out
      exact ⟨ret_bool ((rightL_iff l).2 (fun j hj => h j hj (by omega))).symm, _, rfl⟩

end Go.Proofs.Ytficeeaaaijgcaa

namespace Go.Proofs.Ytficeeaaaijgcaa
open Go.RowKit

set_option maxHeartbeats 400000 in
theorem refSame_any (v u : Value) (l m : List Int) (w : World) (hv : RdI w v l) (hu : RdI w u m) (hl : l.length ≤ 4000000) (hm : m.length ≤ 4000000) :
    Calls Try.prog 50 #[v, u] w fun e w' => e = .returned (.bool (decide (l = m))) ∧ ∃ n, w' = w.drewN n := by
  obtain ⟨a, c, rfl, hc⟩ := hv
  obtain ⟨a2, c2, rfl, hc2⟩ := hu
  by_cases hlen : l.length = m.length
  · have hlen1 : ((l.length : Int) != (m.length : Int)) = false := by simp [hlen]
    have Hlen := Lib.hid hlen; clear hlen
    go_enter Try.func50, Try.ntmps50
    go_wp2
    go_loopw [5] (fun i wr => (∃ n, wr = w.drewN n) ∧ ∃ k : Nat, k ≤ l.length ∧ i = .int .i64 k ∧ l.take k = m.take k) (fun i _ => l.length - (intOf i).toNat)
    case atStart => exact ⟨⟨0, rfl⟩, 0, by omega, rfl, by simp⟩
    case round =>
      obtain ⟨⟨q, rfl⟩, k, hk, rfl, hn⟩ := hrel
      have Hn := Lib.hid hn; clear hn
      by_cases hlt : k < l.length
      · obtain ⟨b, o, rfl, hcell⟩ := hc k hlt
        have hlt2 : k < m.length := by have := Hlen.out; omega
        obtain ⟨b', o', rfl, hcell'⟩ := hc2 k hlt2
        clear hc hc2
        by_cases hd : l[k] = m[k]
        · have hmm : Hid (l.take (k+1) = m.take (k+1)) := Lib.hid (by
            rw [take_succ l k hlt, take_succ m k hlt2, Hn.out, hd])
          have hd1 : (l[k] != m[k]) = false := by simp [hd]
          clear hd
          go_wp2
          go_quiet (fail)
          go_wp2
          go_roundw
          case rel => exact ⟨⟨_, rfl⟩, k + 1, by omega, by go_num, hmm.out⟩
          case measure => simp [intOf]; omega
        · have hf : Hid (l ≠ m) := by
            intro h; subst h; exact hd rfl
          have hd1 : (l[k] != m[k]) = true := by simp [hd]
          clear hd
          go_wp2
          go_quiet (fail)
          go_wp2
          go_ret
          exact ⟨by simp [hf.out], qd _ _ _⟩
      · go_wp2
        go_ret
        refine ⟨?_, _, rfl⟩
        have h := Hn.out
        rw [List.take_of_length_le (by omega), List.take_of_length_le (by have := Hlen.out; omega)] at h
        simp [h]
  · have hlen1 : ((l.length : Int) != (m.length : Int)) = true := by simp; omega
    have Hf : Hid (l ≠ m) := by intro h; exact hlen (by rw [h])
    clear hlen
    go_enter Try.func50, Try.ntmps50
    go_wp2
    go_ret
    exact ⟨by simp [Hf.out], 0, rfl⟩

end Go.Proofs.Ytficeeaaaijgcaa

/-
  What the package many computes answers as the statements of chapter 11 say: plain facts on lists; no program here.
-/
namespace Go.Proofs.Ytficeeaaaijgcaa

theorem rightL_rise (l : List Int) : rightL l = true ↔ Rising l := by
  rw [rightL_iff]
  unfold Rising
  constructor
  · intro h
    rw [List.pairwise_iff_getElem]
    intro i j hi hj hij
    induction j with
    | zero => omega
    | succ j ih =>
      by_cases e : i = j
      · subst e; exact h i hj
      · have := ih (by omega) (by omega)
        have h2 := h j hj
        omega
  · intro h j hj
    exact List.pairwise_iff_getElem.1 h j (j+1) (by omega) hj (by omega)

theorem mem_take {l : List Int} {k : Nat} {x : Int} (h : x ∈ l.take k) : ∃ (j : Nat) (_ : j < k) (hj : j < l.length), x = l[j] := by
  obtain ⟨j, hj, rfl⟩ := List.getElem_of_mem h
  rw [List.length_take] at hj
  exact ⟨j, by omega, by omega, by rw [List.getElem_take]⟩
theorem mem_drop {l : List Int} {k : Nat} {x : Int} (h : x ∈ l.drop k) : ∃ (j : Nat) (_ : k ≤ j) (hj : j < l.length), x = l[j] := by
  obtain ⟨j, hj, rfl⟩ := List.getElem_of_mem h
  rw [List.length_drop] at hj
  exact ⟨k + j, by omega, by omega, by rw [List.getElem_drop]⟩

theorem putL_mem (l : List Int) (n x : Int) : x ∈ putL l n ↔ x ∈ l ∨ x = n := by
  unfold putL
  split
  · rename_i h
    constructor
    · exact Or.inl
    · rintro (h' | rfl) <;> assumption
  · have e : l = l.take (putAt l n) ++ l.drop (putAt l n) := (List.take_append_drop _ _).symm
    constructor
    · intro h
      rcases List.mem_append.1 h with h | h
      · exact Or.inl (List.mem_of_mem_take h)
      · rcases List.mem_cons.1 h with h | h
        · exact Or.inr h
        · exact Or.inl (List.mem_of_mem_drop h)
    · rintro (h | rfl)
      · rw [e] at h
        rcases List.mem_append.1 h with h | h
        · exact List.mem_append_left _ h
        · exact List.mem_append_right _ (List.mem_cons_of_mem _ h)
      · exact List.mem_append_right _ (List.mem_cons_self)
theorem putL_rise (l : List Int) (n : Int) (h : Rising l) : Rising (putL l n) := by
  unfold putL
  split
  · exact h
  · rename_i hn
    have hp : ∀ (i j : Nat) (hi : i < l.length) (hj : j < l.length), i < j → l[i] < l[j] := List.pairwise_iff_getElem.1 h
    unfold Rising
    rw [List.pairwise_append, List.pairwise_cons]
    refine ⟨List.Pairwise.sublist (List.take_sublist _ _) h, ⟨?_, List.Pairwise.sublist (List.drop_sublist _ _) h⟩, ?_⟩
    · intro x hx
      obtain ⟨j, hj, hjl, rfl⟩ := mem_drop hx
      have h1 := putAt_ge l n (by omega)
      have hne : l[putAt l n]'(by omega) ≠ n := by intro e; exact hn (e ▸ List.getElem_mem (by omega))
      by_cases e : j = putAt l n
      · subst e; omega
      · have := hp (putAt l n) j (by omega) hjl (by omega); omega
    · intro x hx y hy
      obtain ⟨j, hj, hjl, rfl⟩ := mem_take hx
      have h1 := putAt_lt l n j hj hjl
      rcases List.mem_cons.1 hy with rfl | hy
      · exact h1
      · obtain ⟨i, hi, hil, rfl⟩ := mem_drop hy
        exact hp j i hjl hil (by omega)
theorem foldl_putL (l acc : List Int) (h : Rising acc) : Rising (l.foldl putL acc) ∧ ∀ x, x ∈ l.foldl putL acc ↔ x ∈ acc ∨ x ∈ l := by
  induction l generalizing acc with
  | nil => exact ⟨h, by simp⟩
  | cons a l ih =>
    obtain ⟨h1, h2⟩ := ih (putL acc a) (putL_rise acc a h)
    exact ⟨h1, fun x => by rw [List.foldl_cons, h2, putL_mem, List.mem_cons, or_assoc]⟩
theorem ofL_rise (l : List Int) : Rising (ofL l) := (foldl_putL l [] List.Pairwise.nil).1
theorem ofL_mem (l : List Int) (x : Int) : x ∈ ofL l ↔ x ∈ l := by rw [ofL, (foldl_putL l [] List.Pairwise.nil).2]; simp
theorem ofL_eq (l : List Int) : riseL l = ofL l := rise_ext (riseL_rise l) (ofL_rise l) fun x => by rw [riseL_mem, ofL_mem]
theorem unionL_rise (a b : List Int) : Rising (unionL a b) := (foldl_putL b (ofL a) (ofL_rise a)).1
theorem unionL_mem (a b : List Int) (x : Int) : x ∈ unionL a b ↔ x ∈ a ∨ x ∈ b := by rw [unionL, (foldl_putL b (ofL a) (ofL_rise a)).2, ofL_mem]
theorem keptL_rise (a b : List Int) (i : Bool) (h : Rising a) : Rising (keptL a b i) := List.Pairwise.sublist List.filter_sublist h
theorem keptL_mem (a b : List Int) (i : Bool) (x : Int) : x ∈ keptL a b i ↔ x ∈ a ∧ (x ∈ b ↔ i = true) := by
  unfold keptL
  rw [List.mem_filter, beq_iff_eq]
  cases i <;> simp

theorem opt_mem (b : Bool) (x y : Int) : y ∈ opt b x ↔ b = true ∧ y = x := by cases b <;> simp [opt]
theorem opt_rise (b : Bool) (x : Int) : Rising (opt b x) := by cases b <;> simp [opt, Rising]
/-- what the merge says of x -/
def inM (f g h : Bool) (a b : List Int) (x : Int) : Prop := (f = true ∧ x ∈ a ∧ x ∉ b) ∨ (g = true ∧ x ∈ a ∧ x ∈ b) ∨ (h = true ∧ x ∉ a ∧ x ∈ b)

theorem rise_opt_append (o : Bool) (x : Int) (r : List Int) (hr : Rising r) (h : ∀ y ∈ r, x < y) : Rising (opt o x ++ r) := by
  unfold Rising
  rw [List.pairwise_append]
  refine ⟨opt_rise o x, hr, fun a ha b hb => ?_⟩
  rw [opt_mem] at ha
  rw [ha.2]
  exact h b hb

theorem mergeF_spec (f g h : Bool) (n : Nat) (a b : List Int) (ha : Rising a) (hb : Rising b) (hn : a.length + b.length ≤ n) :
    Rising (mergeF f g h n a b) ∧ ∀ x, x ∈ mergeF f g h n a b ↔ inM f g h a b x := by
  induction n generalizing a b with
  | zero =>
    have e1 : a = [] := List.eq_nil_of_length_eq_zero (by omega)
    have e2 : b = [] := List.eq_nil_of_length_eq_zero (by omega)
    subst e1 e2
    exact ⟨List.Pairwise.nil, by simp [mergeF, inM]⟩
  | succ n ih =>
    cases a with
    | nil =>
      cases b with
      | nil => exact ⟨List.Pairwise.nil, by simp [mergeF, inM]⟩
      | cons y b =>
        obtain ⟨hb1, hb2⟩ := List.pairwise_cons.1 hb
        obtain ⟨h1, h2⟩ := ih [] b ha hb2 (by simp at hn ⊢; omega)
        refine ⟨rise_opt_append h y _ h1 fun z hz => ?_, fun x => ?_⟩
        · have := (h2 z).1 hz
          simp only [inM, List.not_mem_nil, false_and, and_false, false_or, not_false_eq_true, true_and] at this
          exact hb1 z this.2
        · simp only [mergeF, List.mem_append, opt_mem, h2, inM, List.not_mem_nil, false_and, and_false, false_or, not_false_eq_true, true_and, List.mem_cons]
          constructor
          · rintro (⟨h, rfl⟩ | ⟨h, h'⟩)
            · exact ⟨h, Or.inl rfl⟩
            · exact ⟨h, Or.inr h'⟩
          · rintro ⟨h, rfl | h'⟩
            · exact Or.inl ⟨h, rfl⟩
            · exact Or.inr ⟨h, h'⟩
    | cons x a =>
      obtain ⟨ha1, ha2⟩ := List.pairwise_cons.1 ha
      cases b with
      | nil =>
        obtain ⟨h1, h2⟩ := ih a [] ha2 hb (by simp at hn ⊢; omega)
        refine ⟨rise_opt_append f x _ h1 fun z hz => ?_, fun z => ?_⟩
        · have := (h2 z).1 hz
          simp only [inM, List.not_mem_nil, and_false, or_false, not_false_eq_true, and_true] at this
          exact ha1 z this.2
        · simp only [mergeF, List.mem_append, opt_mem, h2, inM, List.not_mem_nil, and_false, or_false, not_false_eq_true, and_true, List.mem_cons]
          constructor
          · rintro (⟨h, rfl⟩ | ⟨h, h'⟩)
            · exact ⟨h, Or.inl rfl⟩
            · exact ⟨h, Or.inr h'⟩
          · rintro ⟨h, rfl | h'⟩
            · exact Or.inl ⟨h, rfl⟩
            · exact Or.inr ⟨h, h'⟩
      | cons y b =>
        obtain ⟨hb1, hb2⟩ := List.pairwise_cons.1 hb
        rw [mergeF]
        by_cases hxy : x < y
        · rw [if_pos hxy]
          obtain ⟨h1, h2⟩ := ih a (y :: b) ha2 hb (by simp at hn ⊢; omega)
          have hxb : x ∉ y :: b := by
            intro hm; rcases List.mem_cons.1 hm with e | e
            · omega
            · have := hb1 x e; omega
          refine ⟨rise_opt_append f x _ h1 fun z hz => ?_, fun z => ?_⟩
          · rcases (h2 z).1 hz with ⟨_, hz, _⟩ | ⟨_, hz, _⟩ | ⟨_, _, hz⟩
            · exact ha1 z hz
            · exact ha1 z hz
            · rcases List.mem_cons.1 hz with e | e
              · omega
              · have := hb1 z e; omega
          · rw [List.mem_append, opt_mem, h2]
            unfold inM
            by_cases hz : z = x
            · subst hz
              have : z ∉ a := fun hm => by have := ha1 z hm; omega
              simp [hxb, this]
            · simp [hz]
        · rw [if_neg hxy]
          by_cases hyx : y < x
          · rw [if_pos hyx]
            obtain ⟨h1, h2⟩ := ih (x :: a) b ha hb2 (by simp at hn ⊢; omega)
            have hya : y ∉ x :: a := by
              intro hm; rcases List.mem_cons.1 hm with e | e
              · omega
              · have := ha1 y e; omega
            refine ⟨rise_opt_append h y _ h1 fun z hz => ?_, fun z => ?_⟩
            · rcases (h2 z).1 hz with ⟨_, hz, _⟩ | ⟨_, hz, _⟩ | ⟨_, _, hz⟩
              · rcases List.mem_cons.1 hz with e | e
                · omega
                · have := ha1 z e; omega
              · rcases List.mem_cons.1 hz with e | e
                · omega
                · have := ha1 z e; omega
              · exact hb1 z hz
            · rw [List.mem_append, opt_mem, h2]
              unfold inM
              by_cases hz : z = y
              · subst hz
                have : z ∉ b := fun hm => by have := hb1 z hm; omega
                simp [hya, this]
              · simp [hz]
          · rw [if_neg hyx]
            obtain rfl : x = y := by omega
            obtain ⟨h1, h2⟩ := ih a b ha2 hb2 (by simp at hn ⊢; omega)
            refine ⟨rise_opt_append g x _ h1 fun z hz => ?_, fun z => ?_⟩
            · rcases (h2 z).1 hz with ⟨_, hz, _⟩ | ⟨_, hz, _⟩ | ⟨_, _, hz⟩
              · exact ha1 z hz
              · exact ha1 z hz
              · exact hb1 z hz
            · rw [List.mem_append, opt_mem, h2]
              unfold inM
              by_cases hz : z = x
              · subst hz
                have e1 : z ∉ a := fun hm => by have := ha1 z hm; omega
                have e2 : z ∉ b := fun hm => by have := hb1 z hm; omega
                simp [e1, e2]
              · simp [hz]
theorem mergeF_len (n : Nat) (a b : List Int) (hn : a.length + b.length ≤ n) :
    (mergeF true true true n a b).length + (mergeF false true false n a b).length = a.length + b.length := by
  induction n generalizing a b with
  | zero =>
    have e1 : a = [] := List.eq_nil_of_length_eq_zero (by omega)
    have e2 : b = [] := List.eq_nil_of_length_eq_zero (by omega)
    subst e1 e2
    rfl
  | succ n ih =>
    cases a with
    | nil =>
      cases b with
      | nil => rfl
      | cons y b => have := ih [] b (by simp at hn ⊢; omega); simp [mergeF, opt] at this ⊢; omega
    | cons x a =>
      cases b with
      | nil => have := ih a [] (by simp at hn ⊢; omega); simp [mergeF, opt] at this ⊢; omega
      | cons y b =>
        simp only [mergeF]
        by_cases hxy : x < y
        · rw [if_pos hxy, if_pos hxy]; have := ih a (y :: b) (by simp at hn ⊢; omega); simp [opt] at this ⊢; omega
        · rw [if_neg hxy, if_neg hxy]
          by_cases hyx : y < x
          · rw [if_pos hyx, if_pos hyx]; have := ih (x :: a) b (by simp at hn ⊢; omega); simp [opt] at this ⊢; omega
          · rw [if_neg hyx, if_neg hyx]; have := ih a b (by simp at hn ⊢; omega); simp [opt] at this ⊢; omega
theorem mergeF_le (f g h : Bool) (n : Nat) (a b : List Int) : (mergeF f g h n a b).length ≤ a.length + b.length := by
  induction n generalizing a b with
  | zero => simp [mergeF]
  | succ n ih =>
    have ho := opt_len
    cases a with
    | nil =>
      cases b with
      | nil => simp [mergeF]
      | cons y b => have := ih [] b; have := ho h y; simp [mergeF] at *; omega
    | cons x a =>
      cases b with
      | nil => have := ih a []; have := ho f x; simp [mergeF] at *; omega
      | cons y b =>
        have h1 := ih a (y :: b); have h2 := ih (x :: a) b; have h3 := ih a b
        have := ho f x; have := ho h y; have := ho g x
        rw [mergeF]
        split
        · simp at *; omega
        · split <;> simp at * <;> omega
theorem mergeL_spec (f g h : Bool) (a b : List Int) (ha : Rising a) (hb : Rising b) : Rising (mergeL f g h a b) ∧ ∀ x, x ∈ mergeL f g h a b ↔ inM f g h a b x := mergeF_spec f g h _ a b ha hb (Nat.le_refl _)
theorem mergeL_le (f g h : Bool) (a b : List Int) : (mergeL f g h a b).length ≤ a.length + b.length := mergeF_le f g h _ a b

theorem union_mem (a b : List Int) (ha : Rising a) (hb : Rising b) (x : Int) : x ∈ mergeL true true true a b ↔ x ∈ a ∨ x ∈ b := by
  rw [(mergeL_spec _ _ _ a b ha hb).2]; unfold inM; by_cases h1 : x ∈ a <;> by_cases h2 : x ∈ b <;> simp [h1, h2]
theorem common_mem (a b : List Int) (ha : Rising a) (hb : Rising b) (x : Int) : x ∈ mergeL false true false a b ↔ x ∈ a ∧ x ∈ b := by
  rw [(mergeL_spec _ _ _ a b ha hb).2]; unfold inM; simp
theorem less_mem (a b : List Int) (ha : Rising a) (hb : Rising b) (x : Int) : x ∈ mergeL true false false a b ↔ x ∈ a ∧ x ∉ b := by
  rw [(mergeL_spec _ _ _ a b ha hb).2]; unfold inM; simp
theorem union_eq (a b : List Int) (ha : Rising a) (hb : Rising b) : mergeL true true true a b = unionL a b :=
  rise_ext (mergeL_spec _ _ _ a b ha hb).1 (unionL_rise a b) fun x => by rw [union_mem a b ha hb, unionL_mem]
theorem common_eq (a b : List Int) (ha : Rising a) (hb : Rising b) : mergeL false true false a b = keptL a b true :=
  rise_ext (mergeL_spec _ _ _ a b ha hb).1 (keptL_rise a b true ha) fun x => by rw [common_mem a b ha hb, keptL_mem]; simp
theorem less_eq (a b : List Int) (ha : Rising a) (hb : Rising b) : mergeL true false false a b = keptL a b false :=
  rise_ext (mergeL_spec _ _ _ a b ha hb).1 (keptL_rise a b false ha) fun x => by rw [less_mem a b ha hb, keptL_mem]; simp
theorem parts_eq (a b : List Int) (ha : Rising a) (hb : Rising b) : mergeL true true true (mergeL false true false a b) (mergeL true false false a b) = a := by
  have h1 := (mergeL_spec false true false a b ha hb).1
  have h2 := (mergeL_spec true false false a b ha hb).1
  refine rise_ext (mergeL_spec _ _ _ _ _ h1 h2).1 ha fun x => ?_
  rw [union_mem _ _ h1 h2, common_mem a b ha hb, less_mem a b ha hb]
  by_cases h : x ∈ b <;> simp [h]
theorem union_comm (a b : List Int) (ha : Rising a) (hb : Rising b) : mergeL true true true a b = mergeL true true true b a :=
  rise_ext (mergeL_spec _ _ _ a b ha hb).1 (mergeL_spec _ _ _ b a hb ha).1 fun x => by rw [union_mem a b ha hb, union_mem b a hb ha, or_comm]
theorem common_comm (a b : List Int) (ha : Rising a) (hb : Rising b) : mergeL false true false a b = mergeL false true false b a :=
  rise_ext (mergeL_spec _ _ _ a b ha hb).1 (mergeL_spec _ _ _ b a hb ha).1 fun x => by rw [common_mem a b ha hb, common_mem b a hb ha, and_comm]
theorem within_zero (a b : List Int) (ha : Rising a) (hb : Rising b) (h : ∀ x ∈ a, x ∈ b) : (mergeL true false false a b).length = 0 := by
  rw [List.length_eq_zero_iff, List.eq_nil_iff_forall_not_mem]
  intro x hx
  rw [less_mem a b ha hb] at hx
  exact hx.2 (h x hx.1)
theorem union_len (a b : List Int) : (mergeL true true true a b).length + (mergeL false true false a b).length = a.length + b.length := mergeF_len _ a b (Nat.le_refl _)
theorem knows_of : riseL [3, 1, 3] = [1, 3] := by rw [ofL_eq]; decide
theorem knows_less : mergeL true false false [1, 2, 3] [2, 5] = [1, 3] := by decide
end Go.Proofs.Ytficeeaaaijgcaa

/-
  The package many and chapter 11's reference over pure values.
-/
namespace Go.Proofs.Ytficeeaaaijgcaa
open Go Go.RowKit L
set_option linter.unusedVariables false
set_option linter.unusedSimpArgs false

theorem cap_of {Z : Nat → Prop} {w : World} {l : List Int} {v : Value} (h : Rp Z PHeap.empty V0 w (slI l) v) : CapOK v := by
  unfold slI at h
  generalize hx : l.map I = xs at h
  cases h with
  | nil k a c => exact Nat.zero_le _
  | sl k xs b o c g hu hlen => exact hlen
theorem pc_bool {f : FuncId} {qs : List PV} {r : Bool} (h : ∀ (Z : Nat → Prop) (w : World) (vs : List Value), RpL Z PHeap.empty V0 w qs vs → Calls Try.prog f vs.toArray w fun e w' => e = .returned (.bool r) ∧ ∃ n, w' = w.drewN n) : PCall Try.prog f qs (· = B r) := fun Z w vs hz ha =>
  (h Z w vs ha).mono fun e w' ⟨he, n, hw⟩ => ⟨_, _, he, rfl, .u _, .u _, by subst hw; exact below_drewN (Below.refl _ _) n⟩

theorem manyRight_ok (l : List Int) (hl : l.length ≤ 9223372036854775807) : PCall Try.prog 104 [slI l] (· = B (rightL l)) := pc_bool fun Z w vs h => by
  obtain ⟨v, rfl, h1⟩ := rpl1 h
  exact many_Right_any v l w (rd_of (fun _ => rfl) h1) hl
theorem manyHas_ok (l : List Int) (n : Int) (hl : l.length ≤ 4000000) (hs : l.Pairwise (· ≤ ·)) : PCall Try.prog 78 [slI l, I n] (· = B (decide (n ∈ l))) := pc_bool fun Z w vs h => by
  obtain ⟨v, u, rfl, h1, h2⟩ := rpl2 h
  rw [rpu h2]
  exact many_Has_any v l n w (rd_of (fun _ => rfl) h1) (by omega) hs
theorem manyUnion_ok (l m : List Int) (hl : l.length + m.length ≤ 4000000) : PCall Try.prog 105 [slI l, slI m] (· = slI (mergeL true true true l m)) :=
  owI_pcall fun w vs h => by
    obtain ⟨v, u, rfl, h1, h2⟩ := rpl2 h
    exact (many_Union_any v u l m w (rd_of (fun _ => rfl) h1) (rd_of (fun _ => rfl) h2) (cap_of h1) (cap_of h2) hl).mono fun e w' ⟨v', he, ho, hb⟩ => ⟨v', _, _, he, ⟨rfl, rfl⟩, ho, fun u hu => by obtain ⟨z, _, rfl⟩ := List.mem_map.1 hu; rfl, hb⟩
theorem ref11Has_ok (l : List Int) (n : Int) (hl : l.length ≤ 4000000) : PCall Try.prog 80 [slI l, I n] (· = B (decide (n ∈ l))) := pc_bool fun Z w vs h => by
  obtain ⟨v, u, rfl, h1, h2⟩ := rpl2 h
  rw [rpu h2]
  exact (refHas_any v l n w (rd_of (fun _ => rfl) h1) hl).mono fun e w' ⟨he, hw⟩ => ⟨he, 0, by rw [← hw]; rfl⟩
theorem ref11Right_ok (l : List Int) (hl : l.length ≤ 9223372036854775807) : PCall Try.prog 57 [slI l] (· = B (rightL l)) := pc_bool fun Z w vs h => by
  obtain ⟨v, rfl, h1⟩ := rpl1 h
  exact refRight_any v l w (rd_of (fun _ => rfl) h1) hl
theorem ref11Same_ok (l m : List Int) (hl : l.length ≤ 4000000) (hm : m.length ≤ 4000000) : PCall Try.prog 50 [slI l, slI m] (· = B (decide (l = m))) := pc_bool fun Z w vs h => by
  obtain ⟨v, u, rfl, h1, h2⟩ := rpl2 h
  exact refSame_any v u l m w (rd_of (fun _ => rfl) h1) (rd_of (fun _ => rfl) h2) hl hm
end Go.Proofs.Ytficeeaaaijgcaa

/-
  The package fuse, and chapter 12's reference, over pure values: numbers with as much more; whether a net is right.
-/
namespace Go.Proofs.Ytficeeaaaijgcaa
open Go Go.RowKit L
set_option linter.unusedVariables false
set_option linter.unusedSimpArgs false

theorem setMany_mid {α : Type} (a r : List α) (z x : α) : setMany (a ++ z :: r) a.length [x] = a ++ x :: r := by simp [setMany]
def moreL (l : List Int) (by_ : Int) : List Int := l.map (· + by_)

theorem moreL_succ (l : List Int) (y : Int) (k : Nat) (h : k < l.length) : moreL (l.take (k + 1)) y = moreL (l.take k) y ++ [l[k] + y] := by
  unfold moreL
  rw [List.take_succ_eq_append_getElem h, List.map_append]
  rfl

set_option maxRecDepth 20000 in
set_option maxHeartbeats 1000000 in
theorem moved_ok (l : List Int) (y : Int) (hl : l.length ≤ 4000000) (hb : ∀ x ∈ l, -9223372036854775808 ≤ x + y ∧ x + y ≤ 9223372036854775807) : PCall Try.prog 81 [slI l, I y] (· = slI (moreL l y)) := by
  refine PCall.intro' Try.func81 rfl Try.ntmps81 (by simp) fun W => ?_
  repeat (first | (refine PC.seq fun K hK => ?_) | (refine PC.block ?_) | (refine PC.region ?_) | (refine PL.k rfl fun KK hKK => ?_; simp (disch := omega) [go_sem, stepK]; refine hKK _ ?_; clear hKK KK) | (refine PL.k rfl fun KK hKK => ?_; simp [go_sem, stepK]; refine hKK _ ?_; clear hKK KK) | (refine PL.g rfl rfl fun KK hKK => ?_; simp (disch := omega) [go_sem, L.stepG]; refine hKK _ ?_; clear hKK KK) | (refine PL.g rfl rfl fun KK hKK => ?_; simp [go_sem, L.stepG]; refine hKK _ ?_; clear hKK KK) | (refine PL.done hK ?_; clear hK) | (refine PC.skip (hK _ _ ?_); clear hK) | (refine PC.condT ?_ ?_; focus (simp [go_sem]; done)) | (refine PC.condF ?_ ?_; focus (simp [go_sem]; done)) | (refine PC.exit ?_; first | (refine hK _ _ ?_; clear hK) | (clear hK; refine hK _ _ ?_; clear hK) | (clear hK; clear hK; refine hK _ _ ?_; clear hK)))
  refine PL.buildSliceA 60 (d := 7) rfl rfl rfl (by simp) selem_30 rfl (by omega) (by unfold maxLen; omega) (ips := []) (by simp [go_sem]) (by simp [litOk]) (cs := []) rfl fun v0 H0 b0 o0 => ?_
  repeat (first | (refine PC.seq fun K hK => ?_) | (refine PC.block ?_) | (refine PC.region ?_) | (refine PL.k rfl fun KK hKK => ?_; simp (disch := omega) [go_sem, stepK]; refine hKK _ ?_; clear hKK KK) | (refine PL.k rfl fun KK hKK => ?_; simp [go_sem, stepK]; refine hKK _ ?_; clear hKK KK) | (refine PL.g rfl rfl fun KK hKK => ?_; simp (disch := omega) [go_sem, L.stepG]; refine hKK _ ?_; clear hKK KK) | (refine PL.g rfl rfl fun KK hKK => ?_; simp [go_sem, L.stepG]; refine hKK _ ?_; clear hKK KK) | (refine PL.done hK ?_; clear hK) | (refine PC.skip (hK _ _ ?_); clear hK) | (refine PC.condT ?_ ?_; focus (simp [go_sem]; done)) | (refine PC.condF ?_ ?_; focus (simp [go_sem]; done)) | (refine PC.exit ?_; first | (refine hK _ _ ?_; clear hK) | (clear hK; refine hK _ _ ?_; clear hK) | (clear hK; clear hK; refine hK _ _ ?_; clear hK)))
  refine PC.loop (fun m F H' => ∃ (k : Nat) (q : PV), k ≤ l.length ∧ m = l.length - k ∧ F 0 = slI l ∧ F 1 = I y ∧ F 5 = q ∧ F 6 = I k ∧ ownIs H' 60 q (moreL (l.take k) y)) (m := l.length) ⟨0, .ps 60 v0, by omega, by omega, by simp [go_sem], by simp [go_sem], by simp [go_sem], by simp [go_sem], OwnS.row b0 rfl⟩ fun m F H' hI => ?_
  obtain ⟨k, q, hk, hm, f0, f1, f5, f6, hO⟩ := hI
  by_cases hlt : k < l.length
  · have hlt' : (k : Int) < l.length := by omega
    have hx := hb l[k] (List.getElem_mem hlt)
    have hx1 := hx.1
    have hx2 := hx.2
    repeat (first | (refine PC.seq fun K hK => ?_) | (refine PC.block ?_) | (refine PC.region ?_) | (refine PL.k rfl fun KK hKK => ?_; simp (disch := omega) [go_sem, stepK, f0, f1, f5, f6, hlt, hlt', hx1, hx2]; refine hKK _ ?_; clear hKK KK) | (refine PL.k rfl fun KK hKK => ?_; simp [go_sem, stepK, f0, f1, f5, f6, hlt, hlt', hx1, hx2]; refine hKK _ ?_; clear hKK KK) | (refine PL.g rfl rfl fun KK hKK => ?_; simp (disch := omega) [go_sem, L.stepG, f0, f1, f5, f6, hlt, hlt', hx1, hx2]; refine hKK _ ?_; clear hKK KK) | (refine PL.g rfl rfl fun KK hKK => ?_; simp [go_sem, L.stepG, f0, f1, f5, f6, hlt, hlt', hx1, hx2]; refine hKK _ ?_; clear hKK KK) | (refine PL.done hK ?_; clear hK) | (refine PC.skip (hK _ _ ?_); clear hK) | (refine PC.condT ?_ ?_; focus (simp [go_sem, f0, f1, f5, f6, hlt, hlt', hx1, hx2]; done)) | (refine PC.condF ?_ ?_; focus (simp [go_sem, f0, f1, f5, f6, hlt, hlt', hx1, hx2]; done)) | (refine PC.exit ?_; first | (refine hK _ _ ?_; clear hK) | (clear hK; refine hK _ _ ?_; clear hK) | (clear hK; clear hK; refine hK _ _ ?_; clear hK)))
    refine PL.buildSliceR (d := 21) rfl rfl rfl (by simp) selem_30 rfl (by omega) (ips := [(0, I (l[k] + y))]) (by simp [go_sem]) (by simp [litOk, go_sem, okC]) (ps := [I (l[k] + y)]) rfl ?_
    refine PL.appendL (d := 22) (xs := moreL (l.take k) y) (ys := [l[k] + y]) rfl rfl rfl (by simp) selem_30 (by simp [go_sem]) hO (by simp [go_sem]) (fun _ => rfl) (fun x c hc => by simp [PV.cells] at hc; subst hc; rfl) (by simp [moreL, maxLen]; omega) (by simp [moreL]; omega) fun q2 H2 b2 o2 => ?_
    repeat (first | (refine PC.seq fun K hK => ?_) | (refine PC.block ?_) | (refine PC.region ?_) | (refine PL.k rfl fun KK hKK => ?_; simp (disch := omega) [go_sem, stepK, f6]; refine hKK _ ?_; clear hKK KK) | (refine PL.k rfl fun KK hKK => ?_; simp [go_sem, stepK, f6]; refine hKK _ ?_; clear hKK KK) | (refine PL.g rfl rfl fun KK hKK => ?_; simp (disch := omega) [go_sem, L.stepG, f6]; refine hKK _ ?_; clear hKK KK) | (refine PL.g rfl rfl fun KK hKK => ?_; simp [go_sem, L.stepG, f6]; refine hKK _ ?_; clear hKK KK) | (refine PL.done hK ?_; clear hK) | (refine PC.skip (hK _ _ ?_); clear hK) | (refine PC.condT ?_ ?_; focus (simp [go_sem, f6]; done)) | (refine PC.condF ?_ ?_; focus (simp [go_sem, f6]; done)) | (refine PC.exit ?_; first | (refine hK _ _ ?_; clear hK) | (clear hK; refine hK _ _ ?_; clear hK) | (clear hK; clear hK; refine hK _ _ ?_; clear hK)))
    refine PL.nil ⟨l.length - (k + 1), by omega, k + 1, q2, by omega, by omega, by simp [go_sem, f0], by simp [go_sem, f1], by simp [go_sem], by simp [go_sem], ?_⟩
    rw [moreL_succ l y k hlt]
    exact b2
  · have hlt' : ¬ (k : Int) < l.length := by omega
    have hke : k = l.length := by omega
    repeat (first | (refine PC.seq fun K hK => ?_) | (refine PC.block ?_) | (refine PC.region ?_) | (refine PL.k rfl fun KK hKK => ?_; simp (disch := omega) [go_sem, stepK, f0, f1, f5, f6, hlt']; refine hKK _ ?_; clear hKK KK) | (refine PL.k rfl fun KK hKK => ?_; simp [go_sem, stepK, f0, f1, f5, f6, hlt']; refine hKK _ ?_; clear hKK KK) | (refine PL.g rfl rfl fun KK hKK => ?_; simp (disch := omega) [go_sem, L.stepG, f0, f1, f5, f6, hlt']; refine hKK _ ?_; clear hKK KK) | (refine PL.g rfl rfl fun KK hKK => ?_; simp [go_sem, L.stepG, f0, f1, f5, f6, hlt']; refine hKK _ ?_; clear hKK KK) | (refine PL.done hK ?_; clear hK) | (refine PC.skip (hK _ _ ?_); clear hK) | (refine PC.condT ?_ ?_; focus (simp [go_sem, f0, f1, f5, f6, hlt']; done)) | (refine PC.condF ?_ ?_; focus (simp [go_sem, f0, f1, f5, f6, hlt']; done)) | (refine PC.exit ?_; first | (refine hK _ _ ?_; clear hK) | (clear hK; refine hK _ _ ?_; clear hK) | (clear hK; clear hK; refine hK _ _ ?_; clear hK)))
    rw [hke, List.take_length] at hO
    refine PC.ret ?_
    refine ⟨.inr rfl, q, slI (moreL l y), ?_, hO.view (fun _ => rfl) (fun x c hc => by simp [PV.cells] at hc; subst hc; exact .u _), noP_slI _, rfl⟩
    simp [resP, resP1, Try.results81, go_sem]

set_option maxRecDepth 20000 in
set_option maxHeartbeats 1000000 in
theorem onward_ok (l : List Int) (y : Int) (hl : l.length ≤ 4000000) (hb : ∀ x ∈ l, -9223372036854775808 ≤ x + y ∧ x + y ≤ 9223372036854775807) : PCall Try.prog 79 [slI l, I y] (· = slI (moreL l y)) := by
  refine PCall.intro' Try.func79 rfl Try.ntmps79 (by simp) fun W => ?_
  repeat (first | (refine PC.seq fun K hK => ?_) | (refine PC.block ?_) | (refine PC.region ?_) | (refine PL.k rfl fun KK hKK => ?_; simp (disch := omega) [go_sem, stepK]; refine hKK _ ?_; clear hKK KK) | (refine PL.k rfl fun KK hKK => ?_; simp [go_sem, stepK]; refine hKK _ ?_; clear hKK KK) | (refine PL.g rfl rfl fun KK hKK => ?_; simp (disch := omega) [go_sem, L.stepG]; refine hKK _ ?_; clear hKK KK) | (refine PL.g rfl rfl fun KK hKK => ?_; simp [go_sem, L.stepG]; refine hKK _ ?_; clear hKK KK) | (refine PL.done hK ?_; clear hK) | (refine PC.skip (hK _ _ ?_); clear hK) | (refine PC.condT ?_ ?_; focus (simp [go_sem]; done)) | (refine PC.condF ?_ ?_; focus (simp [go_sem]; done)) | (refine PC.exit ?_; first | (refine hK _ _ ?_; clear hK) | (clear hK; refine hK _ _ ?_; clear hK) | (clear hK; clear hK; refine hK _ _ ?_; clear hK)))
  refine PL.makeSliceA (kx := .i64) (ky := .i64) 60 (d := 9) (m := l.length) rfl rfl rfl (by simp) selem_30 rfl (by simp [go_sem]) (by simp [go_sem]) (by unfold maxLen; omega) (by omega) fun v1 H1 b1 o1 => ?_
  repeat (first | (refine PC.seq fun K hK => ?_) | (refine PC.block ?_) | (refine PC.region ?_) | (refine PL.k rfl fun KK hKK => ?_; simp (disch := omega) [go_sem, stepK]; refine hKK _ ?_; clear hKK KK) | (refine PL.k rfl fun KK hKK => ?_; simp [go_sem, stepK]; refine hKK _ ?_; clear hKK KK) | (refine PL.g rfl rfl fun KK hKK => ?_; simp (disch := omega) [go_sem, L.stepG]; refine hKK _ ?_; clear hKK KK) | (refine PL.g rfl rfl fun KK hKK => ?_; simp [go_sem, L.stepG]; refine hKK _ ?_; clear hKK KK) | (refine PL.done hK ?_; clear hK) | (refine PC.skip (hK _ _ ?_); clear hK) | (refine PC.condT ?_ ?_; focus (simp [go_sem]; done)) | (refine PC.condF ?_ ?_; focus (simp [go_sem]; done)) | (refine PC.exit ?_; first | (refine hK _ _ ?_; clear hK) | (clear hK; refine hK _ _ ?_; clear hK) | (clear hK; clear hK; refine hK _ _ ?_; clear hK)))
  refine PC.loop (fun m F H' => ∃ k : Nat, k ≤ l.length ∧ m = l.length - k ∧ F 0 = slI l ∧ F 1 = I y ∧ F 5 = .ps 60 v1 ∧ F 11 = I l.length ∧ F 12 = I k ∧ H' 60 = ⟨v1, some (.row 3 1 l.length ((moreL (l.take k) y ++ List.replicate (l.length - k) 0).map I))⟩) (m := l.length) ⟨0, by omega, by omega, by simp [go_sem], by simp [go_sem], by simp [go_sem], by simp [go_sem], by simp [go_sem], by rw [b1]; simp [moreL]⟩ fun m F H' hI => ?_
  obtain ⟨k, hk, hm, f0, f1, f5, f11, f12, h60⟩ := hI
  by_cases hlt : k < l.length
  · have hlt' : (k : Int) < l.length := by omega
    have hx := hb l[k] (List.getElem_mem hlt)
    have hx1 := hx.1
    have hx2 := hx.2
    repeat (first | (refine PC.seq fun K hK => ?_) | (refine PC.block ?_) | (refine PC.region ?_) | (refine PL.k rfl fun KK hKK => ?_; simp (disch := omega) [go_sem, stepK, f0, f1, f5, f11, f12, hlt, hlt', h60, hx1, hx2]; refine hKK _ ?_; clear hKK KK) | (refine PL.k rfl fun KK hKK => ?_; simp [go_sem, stepK, f0, f1, f5, f11, f12, hlt, hlt', h60, hx1, hx2]; refine hKK _ ?_; clear hKK KK) | (refine PL.g rfl rfl fun KK hKK => ?_; simp (disch := omega) [go_sem, L.stepG, f0, f1, f5, f11, f12, hlt, hlt', h60, hx1, hx2]; refine hKK _ ?_; clear hKK KK) | (refine PL.g rfl rfl fun KK hKK => ?_; simp [go_sem, L.stepG, f0, f1, f5, f11, f12, hlt, hlt', h60, hx1, hx2]; refine hKK _ ?_; clear hKK KK) | (refine PL.done hK ?_; clear hK) | (refine PC.skip (hK _ _ ?_); clear hK) | (refine PC.condT ?_ ?_; focus (simp [go_sem, f0, f1, f5, f11, f12, hlt, hlt', h60, hx1, hx2]; done)) | (refine PC.condF ?_ ?_; focus (simp [go_sem, f0, f1, f5, f11, f12, hlt, hlt', h60, hx1, hx2]; done)) | (refine PC.exit ?_; first | (refine hK _ _ ?_; clear hK) | (clear hK; refine hK _ _ ?_; clear hK) | (clear hK; clear hK; refine hK _ _ ?_; clear hK)))
    refine PL.storeR (id := 60) (off := k) rfl rfl (by simp [dstOk]) (by simp [go_sem]) h60 asz_3 (v := I (l[k] + y)) (by simp [go_sem]) (by simp [go_sem]) rfl rfl (by simp [moreL]; omega) rfl fun H2 b2 o2 => ?_
    repeat (first | (refine PC.seq fun K hK => ?_) | (refine PC.block ?_) | (refine PC.region ?_) | (refine PL.k rfl fun KK hKK => ?_; simp (disch := omega) [go_sem, stepK, f12]; refine hKK _ ?_; clear hKK KK) | (refine PL.k rfl fun KK hKK => ?_; simp [go_sem, stepK, f12]; refine hKK _ ?_; clear hKK KK) | (refine PL.g rfl rfl fun KK hKK => ?_; simp (disch := omega) [go_sem, L.stepG, f12]; refine hKK _ ?_; clear hKK KK) | (refine PL.g rfl rfl fun KK hKK => ?_; simp [go_sem, L.stepG, f12]; refine hKK _ ?_; clear hKK KK) | (refine PL.done hK ?_; clear hK) | (refine PC.skip (hK _ _ ?_); clear hK) | (refine PC.condT ?_ ?_; focus (simp [go_sem, f12]; done)) | (refine PC.condF ?_ ?_; focus (simp [go_sem, f12]; done)) | (refine PC.exit ?_; first | (refine hK _ _ ?_; clear hK) | (clear hK; refine hK _ _ ?_; clear hK) | (clear hK; clear hK; refine hK _ _ ?_; clear hK)))
    refine PL.nil ⟨l.length - (k + 1), by omega, k + 1, by omega, by omega, by simp [go_sem, f0], by simp [go_sem, f1], by simp [go_sem, f5], by simp [go_sem, f11], by simp [go_sem], ?_⟩
    rw [b2]
    congr 3
    obtain ⟨r, hr⟩ : ∃ r, l.length - k = r + 1 := ⟨l.length - k - 1, by omega⟩
    rw [hr, show l.length - (k + 1) = r by omega, List.map_append, List.replicate_succ, List.map_cons]
    have e1 : ((moreL (l.take k) y).map I).length = k := by simp [moreL]; omega
    have e2 := setMany_mid ((moreL (l.take k) y).map I) ((List.replicate r (0 : Int)).map I) (I 0) (I (l[k] + y))
    rw [e1] at e2
    refine e2.trans ?_
    rw [moreL_succ l y k hlt]
    simp
  · have hlt' : ¬ (k : Int) < l.length := by omega
    have hke : k = l.length := by omega
    repeat (first | (refine PC.seq fun K hK => ?_) | (refine PC.block ?_) | (refine PC.region ?_) | (refine PL.k rfl fun KK hKK => ?_; simp (disch := omega) [go_sem, stepK, f0, f1, f5, f11, f12, hlt']; refine hKK _ ?_; clear hKK KK) | (refine PL.k rfl fun KK hKK => ?_; simp [go_sem, stepK, f0, f1, f5, f11, f12, hlt']; refine hKK _ ?_; clear hKK KK) | (refine PL.g rfl rfl fun KK hKK => ?_; simp (disch := omega) [go_sem, L.stepG, f0, f1, f5, f11, f12, hlt']; refine hKK _ ?_; clear hKK KK) | (refine PL.g rfl rfl fun KK hKK => ?_; simp [go_sem, L.stepG, f0, f1, f5, f11, f12, hlt']; refine hKK _ ?_; clear hKK KK) | (refine PL.done hK ?_; clear hK) | (refine PC.skip (hK _ _ ?_); clear hK) | (refine PC.condT ?_ ?_; focus (simp [go_sem, f0, f1, f5, f11, f12, hlt']; done)) | (refine PC.condF ?_ ?_; focus (simp [go_sem, f0, f1, f5, f11, f12, hlt']; done)) | (refine PC.exit ?_; first | (refine hK _ _ ?_; clear hK) | (clear hK; refine hK _ _ ?_; clear hK) | (clear hK; clear hK; refine hK _ _ ?_; clear hK)))
    refine PC.ret ?_
    refine ⟨.inr rfl, .ps 60 v1, slI (moreL l y), ?_, ?_, noP_slI _, rfl⟩
    · simp [resP, resP1, Try.results79, go_sem]
    · refine ownI.view (l := moreL l y) ?_
      unfold ownI
      rw [h60, hke]
      simp [moreL]
end Go.Proofs.Ytficeeaaaijgcaa

/-
  Whether a net is right: the package fuse and chapter 12's reference.
-/
namespace Go.Proofs.Ytficeeaaaijgcaa
open Go Go.RowKit L
set_option linter.unusedVariables false
set_option linter.unusedSimpArgs false

def spotsL (N : Int) (l : List Int) : Bool := rightL l && l.all fun x => decide (0 ≤ x ∧ x < N)
theorem spotsL_ends (N : Int) (l : List Int) (h : rightL l = true) (h0 : 0 < l.length) : spotsL N l = decide (0 ≤ l[0] ∧ l[l.length - 1] < N) := by
  have hr := (rightL_iff l).1 h
  have mono : ∀ (j i : Nat) (hj : j < l.length) (hi : i < l.length), i ≤ j → l[i] ≤ l[j] := by
    intro j
    induction j with
    | zero =>
      intro i hj _ hi
      have : i = 0 := by omega
      subst this
      exact Int.le_refl _
    | succ j ih =>
      intro i hj hil hi
      by_cases e : i = j + 1
      · subst e; exact Int.le_refl _
      · have h1 := ih i (by omega) hil (by omega)
        have h2 := hr j hj
        omega
  unfold spotsL
  rw [h, Bool.true_and, Bool.eq_iff_iff, List.all_eq_true]
  simp only [decide_eq_true_eq]
  constructor
  · intro ha
    have h1 := ha l[0] (List.getElem_mem h0)
    have h2 := ha l[l.length - 1] (List.getElem_mem _)
    exact ⟨h1.1, h2.2⟩
  · rintro ⟨h1, h2⟩ x hx
    obtain ⟨i, hi, rfl⟩ := List.getElem_of_mem hx
    have h3 := mono i 0 hi h0 (by omega)
    have h4 := mono (l.length - 1) i (by omega) hi (by omega)
    omega

structure Nb (n : Net) : Prop where
  s : n.sets.length ≤ 9223372036854775807
  o : n.of_.length ≤ 9223372036854775807
  l : n.last.length ≤ 9223372036854775807
  f : n.follow.length ≤ 9223372036854775807
  fe : ∀ x ∈ n.follow, x.length ≤ 9223372036854775807
  t : n.first.length ≤ 9223372036854775807

set_option maxRecDepth 20000 in
set_option maxHeartbeats 2000000 in
theorem spots_ok (N : Int) (ls : List (List Int)) (hl : ls.length ≤ 9223372036854775807) (hb : ∀ l ∈ ls, l.length ≤ 9223372036854775807) : PCall Try.prog 82 [I N, slLL ls] (· = B (ls.all (spotsL N))) := by
  refine PCall.intro' Try.func82 rfl Try.ntmps82 (by simp) fun W => ?_
  repeat (first | (refine PC.seq fun K hK => ?_) | (refine PC.block ?_) | (refine PC.region ?_) | (refine PL.k rfl fun KK hKK => ?_; simp (disch := omega) [go_sem, stepK]; refine hKK _ ?_; clear hKK KK) | (refine PL.k rfl fun KK hKK => ?_; simp [go_sem, stepK]; refine hKK _ ?_; clear hKK KK) | (refine PL.g rfl rfl fun KK hKK => ?_; simp (disch := omega) [go_sem, L.stepG]; refine hKK _ ?_; clear hKK KK) | (refine PL.g rfl rfl fun KK hKK => ?_; simp [go_sem, L.stepG]; refine hKK _ ?_; clear hKK KK) | (refine PL.done hK ?_; clear hK) | (refine PC.skip (hK _ _ ?_); clear hK) | (refine PC.condT ?_ ?_; focus (simp [go_sem]; done)) | (refine PC.condF ?_ ?_; focus (simp [go_sem]; done)) | (refine PC.exit ?_; first | (refine hK _ _ ?_; clear hK) | (clear hK; refine hK _ _ ?_; clear hK) | (clear hK; clear hK; refine hK _ _ ?_; clear hK)))
  refine PC.loop (fun m F H' => ∃ k : Nat, k ≤ ls.length ∧ m = ls.length - k ∧ F 0 = I N ∧ F 7 = slLL ls ∧ F 8 = I ls.length ∧ F 9 = I k ∧ (ls.take k).all (spotsL N) = true) (m := ls.length) ⟨0, by omega, by omega, by simp [go_sem], by simp [go_sem], by simp [go_sem], by simp [go_sem], by simp⟩ fun m F H' hI => ?_
  obtain ⟨k, hk, hm, f0, f7, f8, f9, hall⟩ := hI
  by_cases hlt : k < ls.length
  · have hlt' : (k : Int) < ls.length := by omega
    have hsucc : (ls.take (k + 1)).all (spotsL N) = ((ls.take k).all (spotsL N) && spotsL N ls[k]) := by
      rw [List.take_succ_eq_append_getElem hlt, List.all_append]; simp
    have hfail : spotsL N ls[k] = false → ls.all (spotsL N) = false := fun h => by
      rw [← List.take_append_drop (k + 1) ls, List.all_append, hsucc, h]; simp
    have hll := hb ls[k] (List.getElem_mem hlt)
    obtain ⟨l, hget⟩ : ∃ l, ls[k] = l := ⟨_, rfl⟩
    rw [hget] at hsucc hfail hll
    repeat (first | (refine PC.seq fun K hK => ?_) | (refine PC.block ?_) | (refine PC.region ?_) | (refine PL.k rfl fun KK hKK => ?_; simp (disch := omega) [go_sem, stepK, f7, f8, f9, hlt', hlt, hget]; refine hKK _ ?_; clear hKK KK) | (refine PL.k rfl fun KK hKK => ?_; simp [go_sem, stepK, f7, f8, f9, hlt', hlt, hget]; refine hKK _ ?_; clear hKK KK) | (refine PL.g rfl rfl fun KK hKK => ?_; simp (disch := omega) [go_sem, L.stepG, f7, f8, f9, hlt', hlt, hget]; refine hKK _ ?_; clear hKK KK) | (refine PL.g rfl rfl fun KK hKK => ?_; simp [go_sem, L.stepG, f7, f8, f9, hlt', hlt, hget]; refine hKK _ ?_; clear hKK KK) | (refine PL.done hK ?_; clear hK) | (refine PC.skip (hK _ _ ?_); clear hK) | (refine PC.condT ?_ ?_; focus (simp [go_sem, f7, f8, f9, hlt', hlt, hget]; done)) | (refine PC.condF ?_ ?_; focus (simp [go_sem, f7, f8, f9, hlt', hlt, hget]; done)) | (refine PC.exit ?_; first | (refine hK _ _ ?_; clear hK) | (clear hK; refine hK _ _ ?_; clear hK) | (clear hK; clear hK; refine hK _ _ ?_; clear hK)))
    (refine PL.call rfl rfl (by kernel_rfl) (manyRight_ok l (by omega)) (by simp [go_sem]) (by simp [go_sem]) (by simp [go_sem]) ?_)
    cases hr : rightL l
    · have hf := hfail (by simp [spotsL, hr])
      repeat (first | (refine PC.seq fun K hK => ?_) | (refine PC.block ?_) | (refine PC.region ?_) | (refine PL.k rfl fun KK hKK => ?_; simp (disch := omega) [go_sem, stepK, hr]; refine hKK _ ?_; clear hKK KK) | (refine PL.k rfl fun KK hKK => ?_; simp [go_sem, stepK, hr]; refine hKK _ ?_; clear hKK KK) | (refine PL.g rfl rfl fun KK hKK => ?_; simp (disch := omega) [go_sem, L.stepG, hr]; refine hKK _ ?_; clear hKK KK) | (refine PL.g rfl rfl fun KK hKK => ?_; simp [go_sem, L.stepG, hr]; refine hKK _ ?_; clear hKK KK) | (refine PL.done hK ?_; clear hK) | (refine PC.skip (hK _ _ ?_); clear hK) | (refine PC.condT ?_ ?_; focus (simp [go_sem, hr]; done)) | (refine PC.condF ?_ ?_; focus (simp [go_sem, hr]; done)) | (refine PC.exit ?_; first | (refine hK _ _ ?_; clear hK) | (clear hK; refine hK _ _ ?_; clear hK) | (clear hK; clear hK; refine hK _ _ ?_; clear hK)))
      (refine PC.ret ?_; refine fin (.inr rfl) (by simp [resP, resP1, Try.results82, go_sem, hf]) (by simp [go_sem, hf]))
    · by_cases h0 : 0 < l.length
      · have he := spotsL_ends N l hr h0
        obtain ⟨a, hg0⟩ : ∃ a, l[0] = a := ⟨_, rfl⟩
        obtain ⟨z, hgl'⟩ : ∃ z, l[l.length - 1] = z := ⟨_, rfl⟩
        have hgl : l[((l.length : Int) - 1).toNat]? = some z := by
          rw [show ((l.length : Int) - 1).toNat = l.length - 1 by omega, ← hgl']
          exact List.getElem?_eq_getElem _
        rw [hg0, hgl'] at he
        have hp : (0 : Int) ≤ (l.length : Int) - 1 := by omega
        have h0' : (0 : Int) < l.length := by omega
        by_cases ha : a < 0
        · have hf := hfail (by rw [he]; simp; omega)
          repeat (first | (refine PC.seq fun K hK => ?_) | (refine PC.block ?_) | (refine PC.region ?_) | (refine PL.k rfl fun KK hKK => ?_; simp (disch := omega) [go_sem, stepK, hr, h0, h0', hg0, ha]; refine hKK _ ?_; clear hKK KK) | (refine PL.k rfl fun KK hKK => ?_; simp [go_sem, stepK, hr, h0, h0', hg0, ha]; refine hKK _ ?_; clear hKK KK) | (refine PL.g rfl rfl fun KK hKK => ?_; simp (disch := omega) [go_sem, L.stepG, hr, h0, h0', hg0, ha]; refine hKK _ ?_; clear hKK KK) | (refine PL.g rfl rfl fun KK hKK => ?_; simp [go_sem, L.stepG, hr, h0, h0', hg0, ha]; refine hKK _ ?_; clear hKK KK) | (refine PL.done hK ?_; clear hK) | (refine PC.skip (hK _ _ ?_); clear hK) | (refine PC.condT ?_ ?_; focus (simp [go_sem, hr, h0, h0', hg0, ha]; done)) | (refine PC.condF ?_ ?_; focus (simp [go_sem, hr, h0, h0', hg0, ha]; done)) | (refine PC.exit ?_; first | (refine hK _ _ ?_; clear hK) | (clear hK; refine hK _ _ ?_; clear hK) | (clear hK; clear hK; refine hK _ _ ?_; clear hK)))
          (refine PC.ret ?_; refine fin (.inr rfl) (by simp [resP, resP1, Try.results82, go_sem, hf]) (by simp [go_sem, hf]))
        · by_cases hz : N ≤ z
          · have hf := hfail (by rw [he]; simp; omega)
            repeat (first | (refine PC.seq fun K hK => ?_) | (refine PC.block ?_) | (refine PC.region ?_) | (refine PL.k rfl fun KK hKK => ?_; simp (disch := omega) [go_sem, stepK, hr, h0, h0', hg0, ha, hgl, hgl', hp, hz, f0]; refine hKK _ ?_; clear hKK KK) | (refine PL.k rfl fun KK hKK => ?_; simp [go_sem, stepK, hr, h0, h0', hg0, ha, hgl, hgl', hp, hz, f0]; refine hKK _ ?_; clear hKK KK) | (refine PL.g rfl rfl fun KK hKK => ?_; simp (disch := omega) [go_sem, L.stepG, hr, h0, h0', hg0, ha, hgl, hgl', hp, hz, f0]; refine hKK _ ?_; clear hKK KK) | (refine PL.g rfl rfl fun KK hKK => ?_; simp [go_sem, L.stepG, hr, h0, h0', hg0, ha, hgl, hgl', hp, hz, f0]; refine hKK _ ?_; clear hKK KK) | (refine PL.done hK ?_; clear hK) | (refine PC.skip (hK _ _ ?_); clear hK) | (refine PC.condT ?_ ?_; focus (simp [go_sem, hr, h0, h0', hg0, ha, hgl, hgl', hp, hz, f0]; done)) | (refine PC.condF ?_ ?_; focus (simp [go_sem, hr, h0, h0', hg0, ha, hgl, hgl', hp, hz, f0]; done)) | (refine PC.exit ?_; first | (refine hK _ _ ?_; clear hK) | (clear hK; refine hK _ _ ?_; clear hK) | (clear hK; clear hK; refine hK _ _ ?_; clear hK)))
            (refine PC.ret ?_; refine fin (.inr rfl) (by simp [resP, resP1, Try.results82, go_sem, hf]) (by simp [go_sem, hf]))
          · repeat (first | (refine PC.seq fun K hK => ?_) | (refine PC.block ?_) | (refine PC.region ?_) | (refine PL.k rfl fun KK hKK => ?_; simp (disch := omega) [go_sem, stepK, hr, h0, h0', hg0, ha, hgl, hgl', hp, hz, f0, f9]; refine hKK _ ?_; clear hKK KK) | (refine PL.k rfl fun KK hKK => ?_; simp [go_sem, stepK, hr, h0, h0', hg0, ha, hgl, hgl', hp, hz, f0, f9]; refine hKK _ ?_; clear hKK KK) | (refine PL.g rfl rfl fun KK hKK => ?_; simp (disch := omega) [go_sem, L.stepG, hr, h0, h0', hg0, ha, hgl, hgl', hp, hz, f0, f9]; refine hKK _ ?_; clear hKK KK) | (refine PL.g rfl rfl fun KK hKK => ?_; simp [go_sem, L.stepG, hr, h0, h0', hg0, ha, hgl, hgl', hp, hz, f0, f9]; refine hKK _ ?_; clear hKK KK) | (refine PL.done hK ?_; clear hK) | (refine PC.skip (hK _ _ ?_); clear hK) | (refine PC.condT ?_ ?_; focus (simp [go_sem, hr, h0, h0', hg0, ha, hgl, hgl', hp, hz, f0, f9]; done)) | (refine PC.condF ?_ ?_; focus (simp [go_sem, hr, h0, h0', hg0, ha, hgl, hgl', hp, hz, f0, f9]; done)) | (refine PC.exit ?_; first | (refine hK _ _ ?_; clear hK) | (clear hK; refine hK _ _ ?_; clear hK) | (clear hK; clear hK; refine hK _ _ ?_; clear hK)))
            refine PL.nil ⟨ls.length - (k + 1), by omega, k + 1, by omega, by omega, by simp [go_sem, f0], by simp [go_sem, f7], by simp [go_sem, f8], by simp [go_sem], ?_⟩
            rw [hsucc, hall, he]; simp; omega
      · have hnil : l = [] := List.eq_nil_of_length_eq_zero (by omega)
        subst hnil
        repeat (first | (refine PC.seq fun K hK => ?_) | (refine PC.block ?_) | (refine PC.region ?_) | (refine PL.k rfl fun KK hKK => ?_; simp (disch := omega) [go_sem, stepK, hr, f9]; refine hKK _ ?_; clear hKK KK) | (refine PL.k rfl fun KK hKK => ?_; simp [go_sem, stepK, hr, f9]; refine hKK _ ?_; clear hKK KK) | (refine PL.g rfl rfl fun KK hKK => ?_; simp (disch := omega) [go_sem, L.stepG, hr, f9]; refine hKK _ ?_; clear hKK KK) | (refine PL.g rfl rfl fun KK hKK => ?_; simp [go_sem, L.stepG, hr, f9]; refine hKK _ ?_; clear hKK KK) | (refine PL.done hK ?_; clear hK) | (refine PC.skip (hK _ _ ?_); clear hK) | (refine PC.condT ?_ ?_; focus (simp [go_sem, hr, f9]; done)) | (refine PC.condF ?_ ?_; focus (simp [go_sem, hr, f9]; done)) | (refine PC.exit ?_; first | (refine hK _ _ ?_; clear hK) | (clear hK; refine hK _ _ ?_; clear hK) | (clear hK; clear hK; refine hK _ _ ?_; clear hK)))
        refine PL.nil ⟨ls.length - (k + 1), by omega, k + 1, by omega, by omega, by simp [go_sem, f0], by simp [go_sem, f7], by simp [go_sem, f8], by simp [go_sem], ?_⟩
        rw [hsucc, hall]; simp [spotsL, rightL]
  · have hlt' : ¬ (k : Int) < ls.length := by omega
    have hke : k = ls.length := by omega
    rw [hke, List.take_length] at hall
    repeat (first | (refine PC.seq fun K hK => ?_) | (refine PC.block ?_) | (refine PC.region ?_) | (refine PL.k rfl fun KK hKK => ?_; simp (disch := omega) [go_sem, stepK, f8, f9, hlt']; refine hKK _ ?_; clear hKK KK) | (refine PL.k rfl fun KK hKK => ?_; simp [go_sem, stepK, f8, f9, hlt']; refine hKK _ ?_; clear hKK KK) | (refine PL.g rfl rfl fun KK hKK => ?_; simp (disch := omega) [go_sem, L.stepG, f8, f9, hlt']; refine hKK _ ?_; clear hKK KK) | (refine PL.g rfl rfl fun KK hKK => ?_; simp [go_sem, L.stepG, f8, f9, hlt']; refine hKK _ ?_; clear hKK KK) | (refine PL.done hK ?_; clear hK) | (refine PC.skip (hK _ _ ?_); clear hK) | (refine PC.condT ?_ ?_; focus (simp [go_sem, f8, f9, hlt']; done)) | (refine PC.condF ?_ ?_; focus (simp [go_sem, f8, f9, hlt']; done)) | (refine PC.exit ?_; first | (refine hK _ _ ?_; clear hK) | (clear hK; refine hK _ _ ?_; clear hK) | (clear hK; clear hK; refine hK _ _ ?_; clear hK)))
    (refine PC.ret ?_; refine fin (.inr rfl) (by simp [resP, resP1, Try.results82, go_sem, hall]) (by simp [go_sem, hall]))

def rightN (n : Net) : Bool := decide (n.of_.length = n.sets.length) && (decide (n.last.length = n.sets.length) && (decide (n.follow.length = n.sets.length) && (n.of_.all (fun x => decide (0 ≤ x)) && (spotsL n.sets.length n.first && n.follow.all (spotsL n.sets.length)))))

set_option maxRecDepth 20000 in
set_option maxHeartbeats 2000000 in
theorem fuseRight_ok (n : Net) (hn : Nb n) : PCall Try.prog 45 [netV n] (· = B (rightN n)) := by
  refine PCall.intro' Try.func45 rfl Try.ntmps45 (by simp) fun W => ?_
  refine PC.seq fun K hK => ?_
  refine PC.region ?_
  refine PL.boxA 1 (d := 1) rfl rfl rfl (by simp) (v := netV n) (by simp [go_sem]) (by simp [go_sem, okC]) rfl fun v H1 b1 o1 => ?_
  have b1 : H1 1 = ⟨v, some (.box 61 [slS n.sets, slI n.of_, slB n.last, slLL n.follow, slI n.first])⟩ := b1
  obtain ⟨sets, ofs, last, fol, first⟩ := n
  simp only at b1
  have hs := hn.s
  have ho := hn.o
  have hF := hn.f
  have hFe := hn.fe
  have hT := hn.t
  simp only at hs ho hF hFe hT
  by_cases e1 : ofs.length = sets.length
  rotate_left
  · have i1 : ¬ (ofs.length : Int) = sets.length := by omega
    repeat (first | (refine PC.seq fun K hK => ?_) | (refine PC.block ?_) | (refine PC.region ?_) | (refine PL.k rfl fun KK hKK => ?_; simp (disch := omega) [go_sem, stepK, b1, e1, i1]; refine hKK _ ?_; clear hKK KK) | (refine PL.k rfl fun KK hKK => ?_; simp [go_sem, stepK, b1, e1, i1]; refine hKK _ ?_; clear hKK KK) | (refine PL.g rfl rfl fun KK hKK => ?_; simp (disch := omega) [go_sem, L.stepG, b1, e1, i1]; refine hKK _ ?_; clear hKK KK) | (refine PL.g rfl rfl fun KK hKK => ?_; simp [go_sem, L.stepG, b1, e1, i1]; refine hKK _ ?_; clear hKK KK) | (refine PL.done hK ?_; clear hK) | (refine PC.skip (hK _ _ ?_); clear hK) | (refine PC.condT ?_ ?_; focus (simp [go_sem, b1, e1, i1]; done)) | (refine PC.condF ?_ ?_; focus (simp [go_sem, b1, e1, i1]; done)) | (refine PC.exit ?_; first | (refine hK _ _ ?_; clear hK) | (clear hK; refine hK _ _ ?_; clear hK) | (clear hK; clear hK; refine hK _ _ ?_; clear hK)))
    (refine PC.ret ?_; refine fin (.inr rfl) (by simp [resP, resP1, Try.results45, go_sem, rightN, e1]) (by simp [go_sem, rightN, e1]))
  have i1 : (ofs.length : Int) = sets.length := by omega
  by_cases e2 : last.length = sets.length
  rotate_left
  · have i2 : ¬ (last.length : Int) = sets.length := by omega
    repeat (first | (refine PC.seq fun K hK => ?_) | (refine PC.block ?_) | (refine PC.region ?_) | (refine PL.k rfl fun KK hKK => ?_; simp (disch := omega) [go_sem, stepK, b1, e1, i1, i2]; refine hKK _ ?_; clear hKK KK) | (refine PL.k rfl fun KK hKK => ?_; simp [go_sem, stepK, b1, e1, i1, i2]; refine hKK _ ?_; clear hKK KK) | (refine PL.g rfl rfl fun KK hKK => ?_; simp (disch := omega) [go_sem, L.stepG, b1, e1, i1, i2]; refine hKK _ ?_; clear hKK KK) | (refine PL.g rfl rfl fun KK hKK => ?_; simp [go_sem, L.stepG, b1, e1, i1, i2]; refine hKK _ ?_; clear hKK KK) | (refine PL.done hK ?_; clear hK) | (refine PC.skip (hK _ _ ?_); clear hK) | (refine PC.condT ?_ ?_; focus (simp [go_sem, b1, e1, i1, i2]; done)) | (refine PC.condF ?_ ?_; focus (simp [go_sem, b1, e1, i1, i2]; done)) | (refine PC.exit ?_; first | (refine hK _ _ ?_; clear hK) | (clear hK; refine hK _ _ ?_; clear hK) | (clear hK; clear hK; refine hK _ _ ?_; clear hK)))
    (refine PC.ret ?_; refine fin (.inr rfl) (by simp [resP, resP1, Try.results45, go_sem, rightN, e1, e2]) (by simp [go_sem, rightN, e1, e2]))
  have i2 : (last.length : Int) = sets.length := by omega
  by_cases e3 : fol.length = sets.length
  rotate_left
  · have i3 : ¬ (fol.length : Int) = sets.length := by omega
    repeat (first | (refine PC.seq fun K hK => ?_) | (refine PC.block ?_) | (refine PC.region ?_) | (refine PL.k rfl fun KK hKK => ?_; simp (disch := omega) [go_sem, stepK, b1, i1, i2, i3]; refine hKK _ ?_; clear hKK KK) | (refine PL.k rfl fun KK hKK => ?_; simp [go_sem, stepK, b1, i1, i2, i3]; refine hKK _ ?_; clear hKK KK) | (refine PL.g rfl rfl fun KK hKK => ?_; simp (disch := omega) [go_sem, L.stepG, b1, i1, i2, i3]; refine hKK _ ?_; clear hKK KK) | (refine PL.g rfl rfl fun KK hKK => ?_; simp [go_sem, L.stepG, b1, i1, i2, i3]; refine hKK _ ?_; clear hKK KK) | (refine PL.done hK ?_; clear hK) | (refine PC.skip (hK _ _ ?_); clear hK) | (refine PC.condT ?_ ?_; focus (simp [go_sem, b1, i1, i2, i3]; done)) | (refine PC.condF ?_ ?_; focus (simp [go_sem, b1, i1, i2, i3]; done)) | (refine PC.exit ?_; first | (refine hK _ _ ?_; clear hK) | (clear hK; refine hK _ _ ?_; clear hK) | (clear hK; clear hK; refine hK _ _ ?_; clear hK)))
    (refine PC.ret ?_; refine fin (.inr rfl) (by simp [resP, resP1, Try.results45, go_sem, rightN, e1, e2, e3]) (by simp [go_sem, rightN, e1, e2, e3]))
  have i3 : (fol.length : Int) = sets.length := by omega
  repeat (first | (refine PC.seq fun K hK => ?_) | (refine PC.block ?_) | (refine PC.region ?_) | (refine PL.k rfl fun KK hKK => ?_; simp (disch := omega) [go_sem, stepK, b1, i1, i2, i3]; refine hKK _ ?_; clear hKK KK) | (refine PL.k rfl fun KK hKK => ?_; simp [go_sem, stepK, b1, i1, i2, i3]; refine hKK _ ?_; clear hKK KK) | (refine PL.g rfl rfl fun KK hKK => ?_; simp (disch := omega) [go_sem, L.stepG, b1, i1, i2, i3]; refine hKK _ ?_; clear hKK KK) | (refine PL.g rfl rfl fun KK hKK => ?_; simp [go_sem, L.stepG, b1, i1, i2, i3]; refine hKK _ ?_; clear hKK KK) | (refine PL.done hK ?_; clear hK) | (refine PC.skip (hK _ _ ?_); clear hK) | (refine PC.condT ?_ ?_; focus (simp [go_sem, b1, i1, i2, i3]; done)) | (refine PC.condF ?_ ?_; focus (simp [go_sem, b1, i1, i2, i3]; done)) | (refine PC.exit ?_; first | (refine hK _ _ ?_; clear hK) | (clear hK; refine hK _ _ ?_; clear hK) | (clear hK; clear hK; refine hK _ _ ?_; clear hK)))
  refine PC.loop (fun m F H' => ∃ k : Nat, k ≤ ofs.length ∧ m = ofs.length - k ∧ F 1 = .pp 1 0 v ∧ F 3 = I sets.length ∧ F 29 = slI ofs ∧ F 30 = I ofs.length ∧ F 31 = I k ∧ H' = H1 ∧ (ofs.take k).all (fun x => decide (0 ≤ x)) = true) (m := ofs.length) ⟨0, by omega, by omega, by simp [go_sem], by simp [go_sem], by simp [go_sem], by simp [go_sem, e1], by simp [go_sem], rfl, by simp⟩ fun m F H' hI => ?_
  obtain ⟨k, hk, hm, f1, f3, f29, f30, f31, rfl, hall⟩ := hI
  by_cases hlt : k < ofs.length
  · have hlt' : (k : Int) < ofs.length := by omega
    have hsucc : (ofs.take (k + 1)).all (fun x => decide (0 ≤ x)) = ((ofs.take k).all (fun x => decide (0 ≤ x)) && decide (0 ≤ ofs[k])) := by
      rw [List.take_succ_eq_append_getElem hlt, List.all_append]; simp
    by_cases hx : ofs[k] < 0
    · have hf : ofs.all (fun x => decide (0 ≤ x)) = false := by
        rw [← List.take_append_drop (k + 1) ofs, List.all_append, hsucc]; simp; omega
      repeat (first | (refine PC.seq fun K hK => ?_) | (refine PC.block ?_) | (refine PC.region ?_) | (refine PL.k rfl fun KK hKK => ?_; simp (disch := omega) [go_sem, stepK, f29, f30, f31, hlt', hlt, hx]; refine hKK _ ?_; clear hKK KK) | (refine PL.k rfl fun KK hKK => ?_; simp [go_sem, stepK, f29, f30, f31, hlt', hlt, hx]; refine hKK _ ?_; clear hKK KK) | (refine PL.g rfl rfl fun KK hKK => ?_; simp (disch := omega) [go_sem, L.stepG, f29, f30, f31, hlt', hlt, hx]; refine hKK _ ?_; clear hKK KK) | (refine PL.g rfl rfl fun KK hKK => ?_; simp [go_sem, L.stepG, f29, f30, f31, hlt', hlt, hx]; refine hKK _ ?_; clear hKK KK) | (refine PL.done hK ?_; clear hK) | (refine PC.skip (hK _ _ ?_); clear hK) | (refine PC.condT ?_ ?_; focus (simp [go_sem, f29, f30, f31, hlt', hlt, hx]; done)) | (refine PC.condF ?_ ?_; focus (simp [go_sem, f29, f30, f31, hlt', hlt, hx]; done)) | (refine PC.exit ?_; first | (refine hK _ _ ?_; clear hK) | (clear hK; refine hK _ _ ?_; clear hK) | (clear hK; clear hK; refine hK _ _ ?_; clear hK)))
      (refine PC.ret ?_; refine fin (.inr rfl) (by simp [resP, resP1, Try.results45, go_sem, rightN, hf]) (by simp [go_sem, rightN, hf]))
    · repeat (first | (refine PC.seq fun K hK => ?_) | (refine PC.block ?_) | (refine PC.region ?_) | (refine PL.k rfl fun KK hKK => ?_; simp (disch := omega) [go_sem, stepK, f29, f30, f31, hlt', hlt, hx]; refine hKK _ ?_; clear hKK KK) | (refine PL.k rfl fun KK hKK => ?_; simp [go_sem, stepK, f29, f30, f31, hlt', hlt, hx]; refine hKK _ ?_; clear hKK KK) | (refine PL.g rfl rfl fun KK hKK => ?_; simp (disch := omega) [go_sem, L.stepG, f29, f30, f31, hlt', hlt, hx]; refine hKK _ ?_; clear hKK KK) | (refine PL.g rfl rfl fun KK hKK => ?_; simp [go_sem, L.stepG, f29, f30, f31, hlt', hlt, hx]; refine hKK _ ?_; clear hKK KK) | (refine PL.done hK ?_; clear hK) | (refine PC.skip (hK _ _ ?_); clear hK) | (refine PC.condT ?_ ?_; focus (simp [go_sem, f29, f30, f31, hlt', hlt, hx]; done)) | (refine PC.condF ?_ ?_; focus (simp [go_sem, f29, f30, f31, hlt', hlt, hx]; done)) | (refine PC.exit ?_; first | (refine hK _ _ ?_; clear hK) | (clear hK; refine hK _ _ ?_; clear hK) | (clear hK; clear hK; refine hK _ _ ?_; clear hK)))
      refine PL.nil ⟨ofs.length - (k + 1), by omega, k + 1, by omega, by omega, by simp [go_sem, f1], by simp [go_sem, f3], by simp [go_sem, f29], by simp [go_sem, f30], by simp [go_sem], rfl, ?_⟩
      rw [hsucc, hall]; simp; omega
  · have hlt' : ¬ (k : Int) < ofs.length := by omega
    have hke : k = ofs.length := by omega
    rw [hke, List.take_length] at hall
    repeat (first | (refine PC.seq fun K hK => ?_) | (refine PC.block ?_) | (refine PC.region ?_) | (refine PL.k rfl fun KK hKK => ?_; simp (disch := omega) [go_sem, stepK, f1, f3, f30, f31, hlt', b1]; refine hKK _ ?_; clear hKK KK) | (refine PL.k rfl fun KK hKK => ?_; simp [go_sem, stepK, f1, f3, f30, f31, hlt', b1]; refine hKK _ ?_; clear hKK KK) | (refine PL.g rfl rfl fun KK hKK => ?_; simp (disch := omega) [go_sem, L.stepG, f1, f3, f30, f31, hlt', b1]; refine hKK _ ?_; clear hKK KK) | (refine PL.g rfl rfl fun KK hKK => ?_; simp [go_sem, L.stepG, f1, f3, f30, f31, hlt', b1]; refine hKK _ ?_; clear hKK KK) | (refine PL.done hK ?_; clear hK) | (refine PC.skip (hK _ _ ?_); clear hK) | (refine PC.condT ?_ ?_; focus (simp [go_sem, f1, f3, f30, f31, hlt', b1]; done)) | (refine PC.condF ?_ ?_; focus (simp [go_sem, f1, f3, f30, f31, hlt', b1]; done)) | (refine PC.exit ?_; first | (refine hK _ _ ?_; clear hK) | (clear hK; refine hK _ _ ?_; clear hK) | (clear hK; clear hK; refine hK _ _ ?_; clear hK)))
    refine PL.buildSliceR (d := 41) rfl rfl rfl (by simp) selem_44 rfl (by omega) (ips := [(0, slI first)]) (by simp [go_sem]) (by simp [litOk, go_sem]) (ps := [slI first]) rfl ?_
    refine PL.callB rfl rfl (by kernel_rfl) (spots_ok sets.length [first] (by simp) (by simp; omega)) (by simp [go_sem]) (by simp [go_sem]) (by simp [go_sem, slLL]) ?_
    cases hsp : spotsL sets.length first
    · repeat (first | (refine PC.seq fun K hK => ?_) | (refine PC.block ?_) | (refine PC.region ?_) | (refine PL.k rfl fun KK hKK => ?_; simp (disch := omega) [go_sem, stepK, hsp]; refine hKK _ ?_; clear hKK KK) | (refine PL.k rfl fun KK hKK => ?_; simp [go_sem, stepK, hsp]; refine hKK _ ?_; clear hKK KK) | (refine PL.g rfl rfl fun KK hKK => ?_; simp (disch := omega) [go_sem, L.stepG, hsp]; refine hKK _ ?_; clear hKK KK) | (refine PL.g rfl rfl fun KK hKK => ?_; simp [go_sem, L.stepG, hsp]; refine hKK _ ?_; clear hKK KK) | (refine PL.done hK ?_; clear hK) | (refine PC.skip (hK _ _ ?_); clear hK) | (refine PC.condT ?_ ?_; focus (simp [go_sem, hsp]; done)) | (refine PC.condF ?_ ?_; focus (simp [go_sem, hsp]; done)) | (refine PC.exit ?_; first | (refine hK _ _ ?_; clear hK) | (clear hK; refine hK _ _ ?_; clear hK) | (clear hK; clear hK; refine hK _ _ ?_; clear hK)))
      (refine PC.ret ?_; refine fin (.inr rfl) (by simp [resP, resP1, Try.results45, go_sem, rightN, e1, e2, e3, hall, hsp]) (by simp [go_sem, rightN, e1, e2, e3, hall, hsp]))
    · repeat (first | (refine PC.seq fun K hK => ?_) | (refine PC.block ?_) | (refine PC.region ?_) | (refine PL.k rfl fun KK hKK => ?_; simp (disch := omega) [go_sem, stepK, hsp, f1, f3, b1]; refine hKK _ ?_; clear hKK KK) | (refine PL.k rfl fun KK hKK => ?_; simp [go_sem, stepK, hsp, f1, f3, b1]; refine hKK _ ?_; clear hKK KK) | (refine PL.g rfl rfl fun KK hKK => ?_; simp (disch := omega) [go_sem, L.stepG, hsp, f1, f3, b1]; refine hKK _ ?_; clear hKK KK) | (refine PL.g rfl rfl fun KK hKK => ?_; simp [go_sem, L.stepG, hsp, f1, f3, b1]; refine hKK _ ?_; clear hKK KK) | (refine PL.done hK ?_; clear hK) | (refine PC.skip (hK _ _ ?_); clear hK) | (refine PC.condT ?_ ?_; focus (simp [go_sem, hsp, f1, f3, b1]; done)) | (refine PC.condF ?_ ?_; focus (simp [go_sem, hsp, f1, f3, b1]; done)) | (refine PC.exit ?_; first | (refine hK _ _ ?_; clear hK) | (clear hK; refine hK _ _ ?_; clear hK) | (clear hK; clear hK; refine hK _ _ ?_; clear hK)))
      (refine PL.callBg rfl rfl rfl (by simp [go_sem]) (by kernel_rfl) (spots_ok sets.length fol (by omega) hFe) (by simp [go_sem]) (by simp [go_sem]) (by simp [go_sem]) ?_)
      repeat (first | (refine PC.seq fun K hK => ?_) | (refine PC.block ?_) | (refine PC.region ?_) | (refine PL.k rfl fun KK hKK => ?_; simp (disch := omega) [go_sem, stepK]; refine hKK _ ?_; clear hKK KK) | (refine PL.k rfl fun KK hKK => ?_; simp [go_sem, stepK]; refine hKK _ ?_; clear hKK KK) | (refine PL.g rfl rfl fun KK hKK => ?_; simp (disch := omega) [go_sem, L.stepG]; refine hKK _ ?_; clear hKK KK) | (refine PL.g rfl rfl fun KK hKK => ?_; simp [go_sem, L.stepG]; refine hKK _ ?_; clear hKK KK) | (refine PL.done hK ?_; clear hK) | (refine PC.skip (hK _ _ ?_); clear hK) | (refine PC.condT ?_ ?_; focus (simp [go_sem]; done)) | (refine PC.condF ?_ ?_; focus (simp [go_sem]; done)) | (refine PC.exit ?_; first | (refine hK _ _ ?_; clear hK) | (clear hK; refine hK _ _ ?_; clear hK) | (clear hK; clear hK; refine hK _ _ ?_; clear hK)))
      (refine PC.ret ?_; refine fin (.inr rfl) (by simp [resP, resP1, Try.results45, go_sem, rightN, e1, e2, e3, hall, hsp]) (by simp [go_sem, rightN, e1, e2, e3, hall, hsp]))
end Go.Proofs.Ytficeeaaaijgcaa

/-
  Chapter 12's reference over pure values: whether a net is right.
-/
namespace Go.Proofs.Ytficeeaaaijgcaa
open Go Go.RowKit L
set_option linter.unusedVariables false
set_option linter.unusedSimpArgs false

theorem netBox {H1 : PHeap} {v id : Nat} {n : Net} (b : H1 id = ⟨v, some (.box 61 (netV n).cells)⟩) : H1 id = ⟨v, some (.box 61 [slS n.sets, slI n.of_, slB n.last, slLL n.follow, slI n.first])⟩ := b

set_option maxRecDepth 20000 in
set_option maxHeartbeats 2000000 in
theorem refSpots_ok (n : Net) (l : List Int) (hn : n.sets.length ≤ 9223372036854775807) (hl : l.length ≤ 9223372036854775807) : PCall Try.prog 85 [netV n, slI l] (· = B (spotsL n.sets.length l)) := by
  refine PCall.intro' Try.func85 rfl Try.ntmps85 (by simp) fun W => ?_
  refine PC.seq fun K hK => ?_
  refine PC.region ?_
  refine PL.boxA 1 (d := 2) rfl rfl rfl (by simp) (v := netV n) (by simp [go_sem]) (by simp [go_sem, okC]) rfl fun v H1 b1 o1 => ?_
  have b1 := netBox b1
  repeat (first | (refine PC.seq fun K hK => ?_) | (refine PC.block ?_) | (refine PC.region ?_) | (refine PL.k rfl fun KK hKK => ?_; simp (disch := omega) [go_sem, stepK, b1]; refine hKK _ ?_; clear hKK KK) | (refine PL.k rfl fun KK hKK => ?_; simp [go_sem, stepK, b1]; refine hKK _ ?_; clear hKK KK) | (refine PL.g rfl rfl fun KK hKK => ?_; simp (disch := omega) [go_sem, L.stepG, b1]; refine hKK _ ?_; clear hKK KK) | (refine PL.g rfl rfl fun KK hKK => ?_; simp [go_sem, L.stepG, b1]; refine hKK _ ?_; clear hKK KK) | (refine PL.done hK ?_; clear hK) | (refine PC.skip (hK _ _ ?_); clear hK) | (refine PC.condT ?_ ?_; focus (simp [go_sem, b1]; done)) | (refine PC.condF ?_ ?_; focus (simp [go_sem, b1]; done)) | (refine PC.exit ?_; first | (refine hK _ _ ?_; clear hK) | (clear hK; refine hK _ _ ?_; clear hK) | (clear hK; clear hK; refine hK _ _ ?_; clear hK)))
  refine PC.loop (fun m F H' => ∃ k : Nat, k ≤ l.length ∧ m = l.length - k ∧ F 1 = slI l ∧ F 2 = .pp 1 0 v ∧ F 5 = I k ∧ H' = H1 ∧ (l.take k).all (fun x => decide (0 ≤ x ∧ x < n.sets.length)) = true) (m := l.length) ⟨0, by omega, by omega, by simp [go_sem], by simp [go_sem], by simp [go_sem], rfl, by simp⟩ fun m F H' hI => ?_
  obtain ⟨k, hk, hm, f1, f2, f5, rfl, hall⟩ := hI
  by_cases hlt : k < l.length
  · have hlt' : (k : Int) < l.length := by omega
    have hsucc : (l.take (k + 1)).all (fun x => decide (0 ≤ x ∧ x < n.sets.length)) = ((l.take k).all (fun x => decide (0 ≤ x ∧ x < n.sets.length)) && decide (0 ≤ l[k] ∧ l[k] < n.sets.length)) := by
      rw [List.take_succ_eq_append_getElem hlt, List.all_append]; simp
    have hfail : ¬ (0 ≤ l[k] ∧ l[k] < n.sets.length) → spotsL n.sets.length l = false := fun h => by
      unfold spotsL
      rw [← List.take_append_drop (k + 1) l, List.all_append, hsucc]; simp only [h]; simp
    obtain ⟨x, hx⟩ : ∃ x, l[k] = x := ⟨_, rfl⟩
    rw [hx] at hsucc hfail
    by_cases h1 : x < 0
    · have hf := hfail (by omega)
      repeat (first | (refine PC.seq fun K hK => ?_) | (refine PC.block ?_) | (refine PC.region ?_) | (refine PL.k rfl fun KK hKK => ?_; simp (disch := omega) [go_sem, stepK, f1, f5, hlt', hlt]; refine hKK _ ?_; clear hKK KK) | (refine PL.k rfl fun KK hKK => ?_; simp [go_sem, stepK, f1, f5, hlt', hlt]; refine hKK _ ?_; clear hKK KK) | (refine PL.g rfl rfl fun KK hKK => ?_; simp (disch := omega) [go_sem, L.stepG, f1, f5, hlt', hlt]; refine hKK _ ?_; clear hKK KK) | (refine PL.g rfl rfl fun KK hKK => ?_; simp [go_sem, L.stepG, f1, f5, hlt', hlt]; refine hKK _ ?_; clear hKK KK) | (refine PL.done hK ?_; clear hK) | (refine PC.skip (hK _ _ ?_); clear hK) | (refine PC.condT ?_ ?_; focus (simp [go_sem, f1, f5, hlt', hlt]; done)) | (refine PC.condF ?_ ?_; focus (simp [go_sem, f1, f5, hlt', hlt]; done)) | (refine PC.exit ?_; first | (refine hK _ _ ?_; clear hK) | (clear hK; refine hK _ _ ?_; clear hK) | (clear hK; clear hK; refine hK _ _ ?_; clear hK)))
      refine PC.regionQ mixed (by kernel_rfl) ?_
      repeat (first | (refine QF.k rfl fun KK hKK => ?_; simp (disch := omega) [go_sem, stepK, f1, f2, f5, hlt', hlt, hx, h1, b1]; refine hKK _ ?_; clear hKK KK) | (refine QF.k rfl fun KK hKK => ?_; simp [go_sem, stepK, f1, f2, f5, hlt', hlt, hx, h1, b1]; refine hKK _ ?_; clear hKK KK) | (refine QF.g rfl rfl fun KK hKK => ?_; simp (disch := omega) [go_sem, L.stepG, f1, f2, f5, hlt', hlt, hx, h1, b1]; refine hKK _ ?_; clear hKK KK) | (refine QF.g rfl rfl fun KK hKK => ?_; simp [go_sem, L.stepG, f1, f2, f5, hlt', hlt, hx, h1, b1]; refine hKK _ ?_; clear hKK KK))
      refine QF.done hK ?_; clear hK
      repeat (first | (refine PC.seq fun K hK => ?_) | (refine PC.block ?_) | (refine PC.region ?_) | (refine PL.k rfl fun KK hKK => ?_; simp (disch := omega) [go_sem, stepK]; refine hKK _ ?_; clear hKK KK) | (refine PL.k rfl fun KK hKK => ?_; simp [go_sem, stepK]; refine hKK _ ?_; clear hKK KK) | (refine PL.g rfl rfl fun KK hKK => ?_; simp (disch := omega) [go_sem, L.stepG]; refine hKK _ ?_; clear hKK KK) | (refine PL.g rfl rfl fun KK hKK => ?_; simp [go_sem, L.stepG]; refine hKK _ ?_; clear hKK KK) | (refine PL.done hK ?_; clear hK) | (refine PC.skip (hK _ _ ?_); clear hK) | (refine PC.condT ?_ ?_; focus (simp [go_sem]; done)) | (refine PC.condF ?_ ?_; focus (simp [go_sem]; done)) | (refine PC.exit ?_; first | (refine hK _ _ ?_; clear hK) | (clear hK; refine hK _ _ ?_; clear hK) | (clear hK; clear hK; refine hK _ _ ?_; clear hK)))
      (refine PC.ret ?_; refine fin (.inr rfl) (by simp [resP, resP1, Try.results85, go_sem, hf]) (by simp [go_sem, hf]))
    · by_cases h2 : (n.sets.length : Int) ≤ x
      · have hf := hfail (by omega)
        repeat (first | (refine PC.seq fun K hK => ?_) | (refine PC.block ?_) | (refine PC.region ?_) | (refine PL.k rfl fun KK hKK => ?_; simp (disch := omega) [go_sem, stepK, f1, f5, hlt', hlt]; refine hKK _ ?_; clear hKK KK) | (refine PL.k rfl fun KK hKK => ?_; simp [go_sem, stepK, f1, f5, hlt', hlt]; refine hKK _ ?_; clear hKK KK) | (refine PL.g rfl rfl fun KK hKK => ?_; simp (disch := omega) [go_sem, L.stepG, f1, f5, hlt', hlt]; refine hKK _ ?_; clear hKK KK) | (refine PL.g rfl rfl fun KK hKK => ?_; simp [go_sem, L.stepG, f1, f5, hlt', hlt]; refine hKK _ ?_; clear hKK KK) | (refine PL.done hK ?_; clear hK) | (refine PC.skip (hK _ _ ?_); clear hK) | (refine PC.condT ?_ ?_; focus (simp [go_sem, f1, f5, hlt', hlt]; done)) | (refine PC.condF ?_ ?_; focus (simp [go_sem, f1, f5, hlt', hlt]; done)) | (refine PC.exit ?_; first | (refine hK _ _ ?_; clear hK) | (clear hK; refine hK _ _ ?_; clear hK) | (clear hK; clear hK; refine hK _ _ ?_; clear hK)))
        refine PC.regionQ mixed (by kernel_rfl) ?_
        repeat (first | (refine QF.k rfl fun KK hKK => ?_; simp (disch := omega) [go_sem, stepK, f1, f2, f5, hlt', hlt, hx, h1, h2, b1]; refine hKK _ ?_; clear hKK KK) | (refine QF.k rfl fun KK hKK => ?_; simp [go_sem, stepK, f1, f2, f5, hlt', hlt, hx, h1, h2, b1]; refine hKK _ ?_; clear hKK KK) | (refine QF.g rfl rfl fun KK hKK => ?_; simp (disch := omega) [go_sem, L.stepG, f1, f2, f5, hlt', hlt, hx, h1, h2, b1]; refine hKK _ ?_; clear hKK KK) | (refine QF.g rfl rfl fun KK hKK => ?_; simp [go_sem, L.stepG, f1, f2, f5, hlt', hlt, hx, h1, h2, b1]; refine hKK _ ?_; clear hKK KK))
        refine QF.done hK ?_; clear hK
        repeat (first | (refine PC.seq fun K hK => ?_) | (refine PC.block ?_) | (refine PC.region ?_) | (refine PL.k rfl fun KK hKK => ?_; simp (disch := omega) [go_sem, stepK]; refine hKK _ ?_; clear hKK KK) | (refine PL.k rfl fun KK hKK => ?_; simp [go_sem, stepK]; refine hKK _ ?_; clear hKK KK) | (refine PL.g rfl rfl fun KK hKK => ?_; simp (disch := omega) [go_sem, L.stepG]; refine hKK _ ?_; clear hKK KK) | (refine PL.g rfl rfl fun KK hKK => ?_; simp [go_sem, L.stepG]; refine hKK _ ?_; clear hKK KK) | (refine PL.done hK ?_; clear hK) | (refine PC.skip (hK _ _ ?_); clear hK) | (refine PC.condT ?_ ?_; focus (simp [go_sem]; done)) | (refine PC.condF ?_ ?_; focus (simp [go_sem]; done)) | (refine PC.exit ?_; first | (refine hK _ _ ?_; clear hK) | (clear hK; refine hK _ _ ?_; clear hK) | (clear hK; clear hK; refine hK _ _ ?_; clear hK)))
        (refine PC.ret ?_; refine fin (.inr rfl) (by simp [resP, resP1, Try.results85, go_sem, hf]) (by simp [go_sem, hf]))
      · repeat (first | (refine PC.seq fun K hK => ?_) | (refine PC.block ?_) | (refine PC.region ?_) | (refine PL.k rfl fun KK hKK => ?_; simp (disch := omega) [go_sem, stepK, f1, f5, hlt', hlt]; refine hKK _ ?_; clear hKK KK) | (refine PL.k rfl fun KK hKK => ?_; simp [go_sem, stepK, f1, f5, hlt', hlt]; refine hKK _ ?_; clear hKK KK) | (refine PL.g rfl rfl fun KK hKK => ?_; simp (disch := omega) [go_sem, L.stepG, f1, f5, hlt', hlt]; refine hKK _ ?_; clear hKK KK) | (refine PL.g rfl rfl fun KK hKK => ?_; simp [go_sem, L.stepG, f1, f5, hlt', hlt]; refine hKK _ ?_; clear hKK KK) | (refine PL.done hK ?_; clear hK) | (refine PC.skip (hK _ _ ?_); clear hK) | (refine PC.condT ?_ ?_; focus (simp [go_sem, f1, f5, hlt', hlt]; done)) | (refine PC.condF ?_ ?_; focus (simp [go_sem, f1, f5, hlt', hlt]; done)) | (refine PC.exit ?_; first | (refine hK _ _ ?_; clear hK) | (clear hK; refine hK _ _ ?_; clear hK) | (clear hK; clear hK; refine hK _ _ ?_; clear hK)))
        refine PC.regionQ mixed (by kernel_rfl) ?_
        repeat (first | (refine QF.k rfl fun KK hKK => ?_; simp (disch := omega) [go_sem, stepK, f1, f2, f5, hlt', hlt, hx, h1, h2, b1]; refine hKK _ ?_; clear hKK KK) | (refine QF.k rfl fun KK hKK => ?_; simp [go_sem, stepK, f1, f2, f5, hlt', hlt, hx, h1, h2, b1]; refine hKK _ ?_; clear hKK KK) | (refine QF.g rfl rfl fun KK hKK => ?_; simp (disch := omega) [go_sem, L.stepG, f1, f2, f5, hlt', hlt, hx, h1, h2, b1]; refine hKK _ ?_; clear hKK KK) | (refine QF.g rfl rfl fun KK hKK => ?_; simp [go_sem, L.stepG, f1, f2, f5, hlt', hlt, hx, h1, h2, b1]; refine hKK _ ?_; clear hKK KK))
        refine QF.done hK ?_; clear hK
        repeat (first | (refine PC.seq fun K hK => ?_) | (refine PC.block ?_) | (refine PC.region ?_) | (refine PL.k rfl fun KK hKK => ?_; simp (disch := omega) [go_sem, stepK, f5]; refine hKK _ ?_; clear hKK KK) | (refine PL.k rfl fun KK hKK => ?_; simp [go_sem, stepK, f5]; refine hKK _ ?_; clear hKK KK) | (refine PL.g rfl rfl fun KK hKK => ?_; simp (disch := omega) [go_sem, L.stepG, f5]; refine hKK _ ?_; clear hKK KK) | (refine PL.g rfl rfl fun KK hKK => ?_; simp [go_sem, L.stepG, f5]; refine hKK _ ?_; clear hKK KK) | (refine PL.done hK ?_; clear hK) | (refine PC.skip (hK _ _ ?_); clear hK) | (refine PC.condT ?_ ?_; focus (simp [go_sem, f5]; done)) | (refine PC.condF ?_ ?_; focus (simp [go_sem, f5]; done)) | (refine PC.exit ?_; first | (refine hK _ _ ?_; clear hK) | (clear hK; refine hK _ _ ?_; clear hK) | (clear hK; clear hK; refine hK _ _ ?_; clear hK)))
        refine PL.nil ⟨l.length - (k + 1), by omega, k + 1, by omega, by omega, by simp [go_sem, f1], by simp [go_sem, f2], by simp [go_sem], rfl, ?_⟩
        rw [hsucc, hall]; simp; omega
  · have hlt' : ¬ (k : Int) < l.length := by omega
    have hke : k = l.length := by omega
    rw [hke, List.take_length] at hall
    repeat (first | (refine PC.seq fun K hK => ?_) | (refine PC.block ?_) | (refine PC.region ?_) | (refine PL.k rfl fun KK hKK => ?_; simp (disch := omega) [go_sem, stepK, f1, f5, hlt']; refine hKK _ ?_; clear hKK KK) | (refine PL.k rfl fun KK hKK => ?_; simp [go_sem, stepK, f1, f5, hlt']; refine hKK _ ?_; clear hKK KK) | (refine PL.g rfl rfl fun KK hKK => ?_; simp (disch := omega) [go_sem, L.stepG, f1, f5, hlt']; refine hKK _ ?_; clear hKK KK) | (refine PL.g rfl rfl fun KK hKK => ?_; simp [go_sem, L.stepG, f1, f5, hlt']; refine hKK _ ?_; clear hKK KK) | (refine PL.done hK ?_; clear hK) | (refine PC.skip (hK _ _ ?_); clear hK) | (refine PC.condT ?_ ?_; focus (simp [go_sem, f1, f5, hlt']; done)) | (refine PC.condF ?_ ?_; focus (simp [go_sem, f1, f5, hlt']; done)) | (refine PC.exit ?_; first | (refine hK _ _ ?_; clear hK) | (clear hK; refine hK _ _ ?_; clear hK) | (clear hK; clear hK; refine hK _ _ ?_; clear hK)))
    have hsl : spotsL n.sets.length l = rightL l := by unfold spotsL; rw [hall]; simp
    (refine PL.call rfl rfl (by kernel_rfl) (ref11Right_ok l (by omega)) (by simp [go_sem]) (by simp [go_sem]) (by simp [go_sem]) ?_)
    repeat (first | (refine PC.seq fun K hK => ?_) | (refine PC.block ?_) | (refine PC.region ?_) | (refine PL.k rfl fun KK hKK => ?_; simp (disch := omega) [go_sem, stepK]; refine hKK _ ?_; clear hKK KK) | (refine PL.k rfl fun KK hKK => ?_; simp [go_sem, stepK]; refine hKK _ ?_; clear hKK KK) | (refine PL.g rfl rfl fun KK hKK => ?_; simp (disch := omega) [go_sem, L.stepG]; refine hKK _ ?_; clear hKK KK) | (refine PL.g rfl rfl fun KK hKK => ?_; simp [go_sem, L.stepG]; refine hKK _ ?_; clear hKK KK) | (refine PL.done hK ?_; clear hK) | (refine PC.skip (hK _ _ ?_); clear hK) | (refine PC.condT ?_ ?_; focus (simp [go_sem]; done)) | (refine PC.condF ?_ ?_; focus (simp [go_sem]; done)) | (refine PC.exit ?_; first | (refine hK _ _ ?_; clear hK) | (clear hK; refine hK _ _ ?_; clear hK) | (clear hK; clear hK; refine hK _ _ ?_; clear hK)))
    (refine PC.ret ?_; refine fin (.inr rfl) (by simp [resP, resP1, Try.results85, go_sem, hsl]) (by simp [go_sem, hsl]))

set_option maxRecDepth 20000 in
set_option maxHeartbeats 2000000 in
theorem refRight_ok (n : Net) (hn : Nb n) : PCall Try.prog 49 [netV n] (· = B (rightN n)) := by
  refine PCall.intro' Try.func49 rfl Try.ntmps49 (by simp) fun W => ?_
  refine PC.seq fun K hK => ?_
  refine PC.region ?_
  refine PL.boxA 1 (d := 1) rfl rfl rfl (by simp) (v := netV n) (by simp [go_sem]) (by simp [go_sem, okC]) rfl fun v H1 b1 o1 => ?_
  have b1 := netBox b1
  have hs := hn.s
  have ho := hn.o
  have hF := hn.f
  have hFe := hn.fe
  have hT := hn.t
  by_cases e1 : n.of_.length = n.sets.length
  rotate_left
  · have i1 : ¬ (n.of_.length : Int) = n.sets.length := by omega
    repeat (first | (refine PC.seq fun K hK => ?_) | (refine PC.block ?_) | (refine PC.region ?_) | (refine PL.k rfl fun KK hKK => ?_; simp (disch := omega) [go_sem, stepK, b1, e1, i1]; refine hKK _ ?_; clear hKK KK) | (refine PL.k rfl fun KK hKK => ?_; simp [go_sem, stepK, b1, e1, i1]; refine hKK _ ?_; clear hKK KK) | (refine PL.g rfl rfl fun KK hKK => ?_; simp (disch := omega) [go_sem, L.stepG, b1, e1, i1]; refine hKK _ ?_; clear hKK KK) | (refine PL.g rfl rfl fun KK hKK => ?_; simp [go_sem, L.stepG, b1, e1, i1]; refine hKK _ ?_; clear hKK KK) | (refine PL.done hK ?_; clear hK) | (refine PC.skip (hK _ _ ?_); clear hK) | (refine PC.condT ?_ ?_; focus (simp [go_sem, b1, e1, i1]; done)) | (refine PC.condF ?_ ?_; focus (simp [go_sem, b1, e1, i1]; done)) | (refine PC.exit ?_; first | (refine hK _ _ ?_; clear hK) | (clear hK; refine hK _ _ ?_; clear hK) | (clear hK; clear hK; refine hK _ _ ?_; clear hK)))
    (refine PC.ret ?_; refine fin (.inr rfl) (by simp [resP, resP1, Try.results49, go_sem, rightN, e1]) (by simp [go_sem, rightN, e1]))
  have i1 : (n.of_.length : Int) = n.sets.length := by omega
  by_cases e2 : n.last.length = n.sets.length
  rotate_left
  · have i2 : ¬ (n.last.length : Int) = n.sets.length := by omega
    repeat (first | (refine PC.seq fun K hK => ?_) | (refine PC.block ?_) | (refine PC.region ?_) | (refine PL.k rfl fun KK hKK => ?_; simp (disch := omega) [go_sem, stepK, b1, e1, i1, i2]; refine hKK _ ?_; clear hKK KK) | (refine PL.k rfl fun KK hKK => ?_; simp [go_sem, stepK, b1, e1, i1, i2]; refine hKK _ ?_; clear hKK KK) | (refine PL.g rfl rfl fun KK hKK => ?_; simp (disch := omega) [go_sem, L.stepG, b1, e1, i1, i2]; refine hKK _ ?_; clear hKK KK) | (refine PL.g rfl rfl fun KK hKK => ?_; simp [go_sem, L.stepG, b1, e1, i1, i2]; refine hKK _ ?_; clear hKK KK) | (refine PL.done hK ?_; clear hK) | (refine PC.skip (hK _ _ ?_); clear hK) | (refine PC.condT ?_ ?_; focus (simp [go_sem, b1, e1, i1, i2]; done)) | (refine PC.condF ?_ ?_; focus (simp [go_sem, b1, e1, i1, i2]; done)) | (refine PC.exit ?_; first | (refine hK _ _ ?_; clear hK) | (clear hK; refine hK _ _ ?_; clear hK) | (clear hK; clear hK; refine hK _ _ ?_; clear hK)))
    (refine PC.ret ?_; refine fin (.inr rfl) (by simp [resP, resP1, Try.results49, go_sem, rightN, e1, e2]) (by simp [go_sem, rightN, e1, e2]))
  have i2 : (n.last.length : Int) = n.sets.length := by omega
  by_cases e3 : n.follow.length = n.sets.length
  rotate_left
  · have i3 : ¬ (n.follow.length : Int) = n.sets.length := by omega
    repeat (first | (refine PC.seq fun K hK => ?_) | (refine PC.block ?_) | (refine PC.region ?_) | (refine PL.k rfl fun KK hKK => ?_; simp (disch := omega) [go_sem, stepK, b1, i1, i2, i3]; refine hKK _ ?_; clear hKK KK) | (refine PL.k rfl fun KK hKK => ?_; simp [go_sem, stepK, b1, i1, i2, i3]; refine hKK _ ?_; clear hKK KK) | (refine PL.g rfl rfl fun KK hKK => ?_; simp (disch := omega) [go_sem, L.stepG, b1, i1, i2, i3]; refine hKK _ ?_; clear hKK KK) | (refine PL.g rfl rfl fun KK hKK => ?_; simp [go_sem, L.stepG, b1, i1, i2, i3]; refine hKK _ ?_; clear hKK KK) | (refine PL.done hK ?_; clear hK) | (refine PC.skip (hK _ _ ?_); clear hK) | (refine PC.condT ?_ ?_; focus (simp [go_sem, b1, i1, i2, i3]; done)) | (refine PC.condF ?_ ?_; focus (simp [go_sem, b1, i1, i2, i3]; done)) | (refine PC.exit ?_; first | (refine hK _ _ ?_; clear hK) | (clear hK; refine hK _ _ ?_; clear hK) | (clear hK; clear hK; refine hK _ _ ?_; clear hK)))
    (refine PC.ret ?_; refine fin (.inr rfl) (by simp [resP, resP1, Try.results49, go_sem, rightN, e1, e2, e3]) (by simp [go_sem, rightN, e1, e2, e3]))
  have i3 : (n.follow.length : Int) = n.sets.length := by omega
  repeat (first | (refine PC.seq fun K hK => ?_) | (refine PC.block ?_) | (refine PC.region ?_) | (refine PL.k rfl fun KK hKK => ?_; simp (disch := omega) [go_sem, stepK, b1, i1, i2, i3]; refine hKK _ ?_; clear hKK KK) | (refine PL.k rfl fun KK hKK => ?_; simp [go_sem, stepK, b1, i1, i2, i3]; refine hKK _ ?_; clear hKK KK) | (refine PL.g rfl rfl fun KK hKK => ?_; simp (disch := omega) [go_sem, L.stepG, b1, i1, i2, i3]; refine hKK _ ?_; clear hKK KK) | (refine PL.g rfl rfl fun KK hKK => ?_; simp [go_sem, L.stepG, b1, i1, i2, i3]; refine hKK _ ?_; clear hKK KK) | (refine PL.done hK ?_; clear hK) | (refine PC.skip (hK _ _ ?_); clear hK) | (refine PC.condT ?_ ?_; focus (simp [go_sem, b1, i1, i2, i3]; done)) | (refine PC.condF ?_ ?_; focus (simp [go_sem, b1, i1, i2, i3]; done)) | (refine PC.exit ?_; first | (refine hK _ _ ?_; clear hK) | (clear hK; refine hK _ _ ?_; clear hK) | (clear hK; clear hK; refine hK _ _ ?_; clear hK)))
  refine PL.callBg rfl rfl rfl (by simp [go_sem]) (by kernel_rfl) (refSpots_ok n n.first (by omega) hT) (by simp [go_sem]) (by simp [go_sem]) (by simp [go_sem]) ?_
  cases hsp : spotsL n.sets.length n.first
  · repeat (first | (refine PC.seq fun K hK => ?_) | (refine PC.block ?_) | (refine PC.region ?_) | (refine PL.k rfl fun KK hKK => ?_; simp (disch := omega) [go_sem, stepK, hsp]; refine hKK _ ?_; clear hKK KK) | (refine PL.k rfl fun KK hKK => ?_; simp [go_sem, stepK, hsp]; refine hKK _ ?_; clear hKK KK) | (refine PL.g rfl rfl fun KK hKK => ?_; simp (disch := omega) [go_sem, L.stepG, hsp]; refine hKK _ ?_; clear hKK KK) | (refine PL.g rfl rfl fun KK hKK => ?_; simp [go_sem, L.stepG, hsp]; refine hKK _ ?_; clear hKK KK) | (refine PL.done hK ?_; clear hK) | (refine PC.skip (hK _ _ ?_); clear hK) | (refine PC.condT ?_ ?_; focus (simp [go_sem, hsp]; done)) | (refine PC.condF ?_ ?_; focus (simp [go_sem, hsp]; done)) | (refine PC.exit ?_; first | (refine hK _ _ ?_; clear hK) | (clear hK; refine hK _ _ ?_; clear hK) | (clear hK; clear hK; refine hK _ _ ?_; clear hK)))
    (refine PC.ret ?_; refine fin (.inr rfl) (by simp [resP, resP1, Try.results49, go_sem, rightN, hsp]) (by simp [go_sem, rightN, hsp]))
  repeat (first | (refine PC.seq fun K hK => ?_) | (refine PC.block ?_) | (refine PC.region ?_) | (refine PL.k rfl fun KK hKK => ?_; simp (disch := omega) [go_sem, stepK, hsp]; refine hKK _ ?_; clear hKK KK) | (refine PL.k rfl fun KK hKK => ?_; simp [go_sem, stepK, hsp]; refine hKK _ ?_; clear hKK KK) | (refine PL.g rfl rfl fun KK hKK => ?_; simp (disch := omega) [go_sem, L.stepG, hsp]; refine hKK _ ?_; clear hKK KK) | (refine PL.g rfl rfl fun KK hKK => ?_; simp [go_sem, L.stepG, hsp]; refine hKK _ ?_; clear hKK KK) | (refine PL.done hK ?_; clear hK) | (refine PC.skip (hK _ _ ?_); clear hK) | (refine PC.condT ?_ ?_; focus (simp [go_sem, hsp]; done)) | (refine PC.condF ?_ ?_; focus (simp [go_sem, hsp]; done)) | (refine PC.exit ?_; first | (refine hK _ _ ?_; clear hK) | (clear hK; refine hK _ _ ?_; clear hK) | (clear hK; clear hK; refine hK _ _ ?_; clear hK)))
  refine PC.loop (fun m F H' => ∃ k : Nat, k ≤ n.sets.length ∧ m = n.sets.length - k ∧ F 1 = .pp 1 0 v ∧ F 3 = I k ∧ H' = H1 ∧ (n.of_.take k).all (fun x => decide (0 ≤ x)) = true ∧ (n.follow.take k).all (spotsL n.sets.length) = true) (m := n.sets.length) ⟨0, by omega, by omega, by simp [go_sem], by simp [go_sem], rfl, by simp, by simp⟩ fun m F H' hI => ?_
  obtain ⟨k, hk, hm, f1, f3, rfl, hall, hall2⟩ := hI
  by_cases hlt : k < n.sets.length
  · have hlt' : (k : Int) < n.sets.length := by omega
    have hlo : k < n.of_.length := by omega
    have hlf : k < n.follow.length := by omega
    have hsucc : (n.of_.take (k + 1)).all (fun x => decide (0 ≤ x)) = ((n.of_.take k).all (fun x => decide (0 ≤ x)) && decide (0 ≤ n.of_[k])) := by
      rw [List.take_succ_eq_append_getElem hlo, List.all_append]; simp
    have hsucc2 : (n.follow.take (k + 1)).all (spotsL n.sets.length) = ((n.follow.take k).all (spotsL n.sets.length) && spotsL n.sets.length n.follow[k]) := by
      rw [List.take_succ_eq_append_getElem hlf, List.all_append]; simp
    have hfe := hFe n.follow[k] (List.getElem_mem hlf)
    have hf1 : n.of_[k] < 0 → n.of_.all (fun x => decide (0 ≤ x)) = false := fun h => by
      rw [← List.take_append_drop (k + 1) n.of_, List.all_append, hsucc]; simp; omega
    have hf2 : spotsL n.sets.length n.follow[k] = false → n.follow.all (spotsL n.sets.length) = false := fun h => by
      rw [← List.take_append_drop (k + 1) n.follow, List.all_append, hsucc2, h]; simp
    obtain ⟨x, hx⟩ : ∃ x, n.of_[k] = x := ⟨_, rfl⟩
    obtain ⟨y, hy⟩ : ∃ y, n.follow[k] = y := ⟨_, rfl⟩
    rw [hx] at hsucc hf1
    rw [hy] at hsucc2 hf2 hfe
    by_cases h1 : x < 0
    · have hf := hf1 h1
      repeat (first | (refine PC.seq fun K hK => ?_) | (refine PC.block ?_) | (refine PC.region ?_) | (refine PL.k rfl fun KK hKK => ?_; simp (disch := omega) [go_sem, stepK, f1, f3, hlt', hlt, b1]; refine hKK _ ?_; clear hKK KK) | (refine PL.k rfl fun KK hKK => ?_; simp [go_sem, stepK, f1, f3, hlt', hlt, b1]; refine hKK _ ?_; clear hKK KK) | (refine PL.g rfl rfl fun KK hKK => ?_; simp (disch := omega) [go_sem, L.stepG, f1, f3, hlt', hlt, b1]; refine hKK _ ?_; clear hKK KK) | (refine PL.g rfl rfl fun KK hKK => ?_; simp [go_sem, L.stepG, f1, f3, hlt', hlt, b1]; refine hKK _ ?_; clear hKK KK) | (refine PL.done hK ?_; clear hK) | (refine PC.skip (hK _ _ ?_); clear hK) | (refine PC.condT ?_ ?_; focus (simp [go_sem, f1, f3, hlt', hlt, b1]; done)) | (refine PC.condF ?_ ?_; focus (simp [go_sem, f1, f3, hlt', hlt, b1]; done)) | (refine PC.exit ?_; first | (refine hK _ _ ?_; clear hK) | (clear hK; refine hK _ _ ?_; clear hK) | (clear hK; clear hK; refine hK _ _ ?_; clear hK)))
      refine PC.regionQ mixed (by kernel_rfl) ?_
      repeat (first | (refine QF.k rfl fun KK hKK => ?_; simp (disch := omega) [go_sem, stepK, f1, f3, hlo, hx, h1, b1]; refine hKK _ ?_; clear hKK KK) | (refine QF.k rfl fun KK hKK => ?_; simp [go_sem, stepK, f1, f3, hlo, hx, h1, b1]; refine hKK _ ?_; clear hKK KK) | (refine QF.g rfl rfl fun KK hKK => ?_; simp (disch := omega) [go_sem, L.stepG, f1, f3, hlo, hx, h1, b1]; refine hKK _ ?_; clear hKK KK) | (refine QF.g rfl rfl fun KK hKK => ?_; simp [go_sem, L.stepG, f1, f3, hlo, hx, h1, b1]; refine hKK _ ?_; clear hKK KK))
      refine QF.done hK ?_; clear hK
      repeat (first | (refine PC.seq fun K hK => ?_) | (refine PC.block ?_) | (refine PC.region ?_) | (refine PL.k rfl fun KK hKK => ?_; simp (disch := omega) [go_sem, stepK]; refine hKK _ ?_; clear hKK KK) | (refine PL.k rfl fun KK hKK => ?_; simp [go_sem, stepK]; refine hKK _ ?_; clear hKK KK) | (refine PL.g rfl rfl fun KK hKK => ?_; simp (disch := omega) [go_sem, L.stepG]; refine hKK _ ?_; clear hKK KK) | (refine PL.g rfl rfl fun KK hKK => ?_; simp [go_sem, L.stepG]; refine hKK _ ?_; clear hKK KK) | (refine PL.done hK ?_; clear hK) | (refine PC.skip (hK _ _ ?_); clear hK) | (refine PC.condT ?_ ?_; focus (simp [go_sem]; done)) | (refine PC.condF ?_ ?_; focus (simp [go_sem]; done)) | (refine PC.exit ?_; first | (refine hK _ _ ?_; clear hK) | (clear hK; refine hK _ _ ?_; clear hK) | (clear hK; clear hK; refine hK _ _ ?_; clear hK)))
      (refine PC.ret ?_; refine fin (.inr rfl) (by simp [resP, resP1, Try.results49, go_sem, rightN, hf]) (by simp [go_sem, rightN, hf]))
    · repeat (first | (refine PC.seq fun K hK => ?_) | (refine PC.block ?_) | (refine PC.region ?_) | (refine PL.k rfl fun KK hKK => ?_; simp (disch := omega) [go_sem, stepK, f1, f3, hlt', hlt, b1]; refine hKK _ ?_; clear hKK KK) | (refine PL.k rfl fun KK hKK => ?_; simp [go_sem, stepK, f1, f3, hlt', hlt, b1]; refine hKK _ ?_; clear hKK KK) | (refine PL.g rfl rfl fun KK hKK => ?_; simp (disch := omega) [go_sem, L.stepG, f1, f3, hlt', hlt, b1]; refine hKK _ ?_; clear hKK KK) | (refine PL.g rfl rfl fun KK hKK => ?_; simp [go_sem, L.stepG, f1, f3, hlt', hlt, b1]; refine hKK _ ?_; clear hKK KK) | (refine PL.done hK ?_; clear hK) | (refine PC.skip (hK _ _ ?_); clear hK) | (refine PC.condT ?_ ?_; focus (simp [go_sem, f1, f3, hlt', hlt, b1]; done)) | (refine PC.condF ?_ ?_; focus (simp [go_sem, f1, f3, hlt', hlt, b1]; done)) | (refine PC.exit ?_; first | (refine hK _ _ ?_; clear hK) | (clear hK; refine hK _ _ ?_; clear hK) | (clear hK; clear hK; refine hK _ _ ?_; clear hK)))
      refine PC.regionQ mixed (by kernel_rfl) ?_
      repeat (first | (refine QF.k rfl fun KK hKK => ?_; simp (disch := omega) [go_sem, stepK, f1, f3, hlo, hlf, hx, hy, h1, b1]; refine hKK _ ?_; clear hKK KK) | (refine QF.k rfl fun KK hKK => ?_; simp [go_sem, stepK, f1, f3, hlo, hlf, hx, hy, h1, b1]; refine hKK _ ?_; clear hKK KK) | (refine QF.g rfl rfl fun KK hKK => ?_; simp (disch := omega) [go_sem, L.stepG, f1, f3, hlo, hlf, hx, hy, h1, b1]; refine hKK _ ?_; clear hKK KK) | (refine QF.g rfl rfl fun KK hKK => ?_; simp [go_sem, L.stepG, f1, f3, hlo, hlf, hx, hy, h1, b1]; refine hKK _ ?_; clear hKK KK))
      refine QF.callg rfl rfl (by simp [go_sem]) (by simp [dstOk]) (PQ.callB rfl (target_func _ _ _) (by kernel_rfl) (qs := [netV n, slI y]) (by simp [go_sem]) (by simp [go_sem]) (refSpots_ok n y (by omega) hfe)) ?_
      cases hsy : spotsL n.sets.length y
      · have hf := hf2 hsy
        repeat (first | (refine QF.k rfl fun KK hKK => ?_; simp (disch := omega) [go_sem, stepK, hsy]; refine hKK _ ?_; clear hKK KK) | (refine QF.k rfl fun KK hKK => ?_; simp [go_sem, stepK, hsy]; refine hKK _ ?_; clear hKK KK) | (refine QF.g rfl rfl fun KK hKK => ?_; simp (disch := omega) [go_sem, L.stepG, hsy]; refine hKK _ ?_; clear hKK KK) | (refine QF.g rfl rfl fun KK hKK => ?_; simp [go_sem, L.stepG, hsy]; refine hKK _ ?_; clear hKK KK))
        refine QF.done hK ?_; clear hK
        repeat (first | (refine PC.seq fun K hK => ?_) | (refine PC.block ?_) | (refine PC.region ?_) | (refine PL.k rfl fun KK hKK => ?_; simp (disch := omega) [go_sem, stepK]; refine hKK _ ?_; clear hKK KK) | (refine PL.k rfl fun KK hKK => ?_; simp [go_sem, stepK]; refine hKK _ ?_; clear hKK KK) | (refine PL.g rfl rfl fun KK hKK => ?_; simp (disch := omega) [go_sem, L.stepG]; refine hKK _ ?_; clear hKK KK) | (refine PL.g rfl rfl fun KK hKK => ?_; simp [go_sem, L.stepG]; refine hKK _ ?_; clear hKK KK) | (refine PL.done hK ?_; clear hK) | (refine PC.skip (hK _ _ ?_); clear hK) | (refine PC.condT ?_ ?_; focus (simp [go_sem]; done)) | (refine PC.condF ?_ ?_; focus (simp [go_sem]; done)) | (refine PC.exit ?_; first | (refine hK _ _ ?_; clear hK) | (clear hK; refine hK _ _ ?_; clear hK) | (clear hK; clear hK; refine hK _ _ ?_; clear hK)))
        (refine PC.ret ?_; refine fin (.inr rfl) (by simp [resP, resP1, Try.results49, go_sem, rightN, hf]) (by simp [go_sem, rightN, hf]))
      · repeat (first | (refine QF.k rfl fun KK hKK => ?_; simp (disch := omega) [go_sem, stepK, hsy]; refine hKK _ ?_; clear hKK KK) | (refine QF.k rfl fun KK hKK => ?_; simp [go_sem, stepK, hsy]; refine hKK _ ?_; clear hKK KK) | (refine QF.g rfl rfl fun KK hKK => ?_; simp (disch := omega) [go_sem, L.stepG, hsy]; refine hKK _ ?_; clear hKK KK) | (refine QF.g rfl rfl fun KK hKK => ?_; simp [go_sem, L.stepG, hsy]; refine hKK _ ?_; clear hKK KK))
        refine QF.done hK ?_; clear hK
        repeat (first | (refine PC.seq fun K hK => ?_) | (refine PC.block ?_) | (refine PC.region ?_) | (refine PL.k rfl fun KK hKK => ?_; simp (disch := omega) [go_sem, stepK, f3]; refine hKK _ ?_; clear hKK KK) | (refine PL.k rfl fun KK hKK => ?_; simp [go_sem, stepK, f3]; refine hKK _ ?_; clear hKK KK) | (refine PL.g rfl rfl fun KK hKK => ?_; simp (disch := omega) [go_sem, L.stepG, f3]; refine hKK _ ?_; clear hKK KK) | (refine PL.g rfl rfl fun KK hKK => ?_; simp [go_sem, L.stepG, f3]; refine hKK _ ?_; clear hKK KK) | (refine PL.done hK ?_; clear hK) | (refine PC.skip (hK _ _ ?_); clear hK) | (refine PC.condT ?_ ?_; focus (simp [go_sem, f3]; done)) | (refine PC.condF ?_ ?_; focus (simp [go_sem, f3]; done)) | (refine PC.exit ?_; first | (refine hK _ _ ?_; clear hK) | (clear hK; refine hK _ _ ?_; clear hK) | (clear hK; clear hK; refine hK _ _ ?_; clear hK)))
        refine PL.nil ⟨n.sets.length - (k + 1), by omega, k + 1, by omega, by omega, by simp [go_sem, f1], by simp [go_sem], rfl, ?_, ?_⟩
        · rw [hsucc, hall]; simp; omega
        · rw [hsucc2, hall2, hsy]; rfl
  · have hlt' : ¬ (k : Int) < n.sets.length := by omega
    have hke : k = n.sets.length := by omega
    rw [hke, ← e1, List.take_length] at hall
    rw [hke, ← e3, List.take_length] at hall2
    repeat (first | (refine PC.seq fun K hK => ?_) | (refine PC.block ?_) | (refine PC.region ?_) | (refine PL.k rfl fun KK hKK => ?_; simp (disch := omega) [go_sem, stepK, f1, f3, hlt', b1]; refine hKK _ ?_; clear hKK KK) | (refine PL.k rfl fun KK hKK => ?_; simp [go_sem, stepK, f1, f3, hlt', b1]; refine hKK _ ?_; clear hKK KK) | (refine PL.g rfl rfl fun KK hKK => ?_; simp (disch := omega) [go_sem, L.stepG, f1, f3, hlt', b1]; refine hKK _ ?_; clear hKK KK) | (refine PL.g rfl rfl fun KK hKK => ?_; simp [go_sem, L.stepG, f1, f3, hlt', b1]; refine hKK _ ?_; clear hKK KK) | (refine PL.done hK ?_; clear hK) | (refine PC.skip (hK _ _ ?_); clear hK) | (refine PC.condT ?_ ?_; focus (simp [go_sem, f1, f3, hlt', b1]; done)) | (refine PC.condF ?_ ?_; focus (simp [go_sem, f1, f3, hlt', b1]; done)) | (refine PC.exit ?_; first | (refine hK _ _ ?_; clear hK) | (clear hK; refine hK _ _ ?_; clear hK) | (clear hK; clear hK; refine hK _ _ ?_; clear hK)))
    have hr : rightN n = true := by unfold rightN; rw [hall, hsp, ← e3, hall2]; simp; omega
    (refine PC.ret ?_; refine fin (.inr rfl) (by simp [resP, resP1, Try.results49, go_sem, hr]) (by simp [go_sem, hr]))
end Go.Proofs.Ytficeeaaaijgcaa

/-
  The spots whose sets have a byte: the package fuse and chapter 12's reference.
-/
namespace Go.Proofs.Ytficeeaaaijgcaa
open Go Go.RowKit L
set_option linter.unusedVariables false
set_option linter.unusedSimpArgs false

def Rx.nn (x : Rx) : Prop := 0 ≤ x.s0 ∧ 0 ≤ x.s1 ∧ 0 ≤ x.s2 ∧ 0 ≤ x.s3
def haveL (sets : List Rx) (l : List Int) (b : Nat) : List Int := l.filter fun i => hasI sets i b
def withL (sets : List Rx) (l : List Int) (b : Nat) : List Int := ((List.range sets.length).map fun i : Nat => (i : Int)).filter fun i => decide (i ∈ l) && hasI sets i b

@[go_sem] theorem binP_and1 {P : Program} {t : TypeId} {x y : Operand} {a : Int} : binP P .and t x y (.u (.int .u64 a)) (.u (.int .u64 1)) = some (.u (.int .u64 (a % 2))) := by
  have h : IntKind.u64.wrap (((a % 2 ^ IntKind.u64.bits).toNat &&& 1 % 2 ^ IntKind.u64.bits : Nat) : Int) = a % 2 := by
    have e : (2 ^ IntKind.u64.bits : Nat) = 18446744073709551616 := by decide
    have e2 : (2 ^ IntKind.u64.bits : Int) = 18446744073709551616 := by decide
    rw [e, e2, show 1 % 18446744073709551616 = 1 from rfl, Nat.and_one_is_mod, wrap_u64_of (by omega) (by omega)]
    omega
  simp [binP, PV.val2, eqGuard, binOp, val_bind, val_pure, Op.intBits, ofV, h]

theorem hasS_and (x : Rx) (b : Nat) (h : x.nn) : hasS x b = decide (¬ wordS x ((b / 64 : Nat) : Int) / 2 ^ (b % 64) % 2 = 0) := by
  obtain ⟨h0, h1, h2, h3⟩ := h
  unfold hasS
  have hw : 0 ≤ wordS x ((b / 64 : Nat) : Int) := by unfold wordS; split; exact h0; split; exact h1; split; exact h2; exact h3
  have hp : (0 : Int) < 2 ^ (b % 64) := Int.pow_pos (by decide)
  have hd : 0 ≤ wordS x ((b / 64 : Nat) : Int) / 2 ^ (b % 64) := Int.ediv_nonneg hw (Int.le_of_lt hp)
  rw [Int.tmod_eq_emod_of_nonneg hd]
  generalize wordS x ((b / 64 : Nat) : Int) / 2 ^ (b % 64) = z at *
  congr 1
  rw [eq_iff_iff]
  omega

set_option maxRecDepth 20000 in
set_option maxHeartbeats 4000000 in
theorem having_ok (n : Net) (l : List Int) (b : Nat) (hb : b < 256) (hl : l.length ≤ 1000000) (hr : ∀ x ∈ l, 0 ≤ x ∧ x < n.sets.length) (hn : ∀ x ∈ n.sets, x.nn) : PCall Try.prog 83 [netV n, slI l, U8 b] (· = slI (haveL n.sets l b)) := by
  refine PCall.intro' Try.func83 rfl Try.ntmps83 (by simp) fun W => ?_
  refine PC.seq fun K hK => ?_
  refine PC.region ?_
  refine PL.boxA 1 (d := 3) rfl rfl rfl (by simp) (v := netV n) (by simp [go_sem]) (by simp [go_sem, okC]) rfl fun v H1 b1 o1 => ?_
  have b1 := netBox b1
  repeat (first | (refine PC.seq fun K hK => ?_) | (refine PC.block ?_) | (refine PC.region ?_) | (refine PL.k rfl fun KK hKK => ?_; simp (disch := omega) [go_sem, stepK, b1]; refine hKK _ ?_; clear hKK KK) | (refine PL.k rfl fun KK hKK => ?_; simp [go_sem, stepK, b1]; refine hKK _ ?_; clear hKK KK) | (refine PL.g rfl rfl fun KK hKK => ?_; simp (disch := omega) [go_sem, L.stepG, b1]; refine hKK _ ?_; clear hKK KK) | (refine PL.g rfl rfl fun KK hKK => ?_; simp [go_sem, L.stepG, b1]; refine hKK _ ?_; clear hKK KK) | (refine PL.done hK ?_; clear hK) | (refine PC.skip (hK _ _ ?_); clear hK) | (refine PC.condT ?_ ?_; focus (simp [go_sem, b1]; done)) | (refine PC.condF ?_ ?_; focus (simp [go_sem, b1]; done)) | (refine PC.exit ?_; first | (refine hK _ _ ?_; clear hK) | (clear hK; refine hK _ _ ?_; clear hK) | (clear hK; clear hK; refine hK _ _ ?_; clear hK)))
  refine PC.loop (fun m F H' => ∃ (k : Nat) (q : PV), k ≤ l.length ∧ m = l.length - k ∧ F 2 = U8 b ∧ F 3 = .pp 1 0 v ∧ F 7 = q ∧ F 10 = slI l ∧ F 11 = I l.length ∧ F 12 = I k ∧ H' 1 = H1 1 ∧ ownIs H' 60 q (haveL n.sets (l.take k) b)) (m := l.length) ⟨0, _, by omega, by omega, by simp [go_sem], by simp [go_sem], by simp [go_sem], by simp [go_sem], by simp [go_sem], by simp [go_sem], rfl, ownL.nil _ _⟩ fun m F H' hI => ?_
  obtain ⟨k, q, hk, hm, f2, f3, f7, f10, f11, f12, hH, hO⟩ := hI
  have b2 := hH.trans b1
  by_cases hlt : k < l.length
  · have hlt' : (k : Int) < l.length := by omega
    have hx := hr l[k] (List.getElem_mem hlt)
    have hsucc : haveL n.sets (l.take (k + 1)) b = haveL n.sets (l.take k) b ++ (if hasI n.sets l[k] b = true then [l[k]] else []) := by
      unfold haveL
      rw [List.take_succ_eq_append_getElem hlt, List.filter_append]
      congr 1
      by_cases h : hasI n.sets l[k] b <;> simp [h]
    obtain ⟨x, ex⟩ : ∃ x, l[k] = x := ⟨_, rfl⟩
    rw [ex] at hx hsucc
    have hxs : x.toNat < n.sets.length := by omega
    obtain ⟨y, ey⟩ : ∃ y, n.sets[x.toNat] = y := ⟨_, rfl⟩
    have hyn : y.nn := hn y (ey ▸ List.getElem_mem hxs)
    have hhas : hasI n.sets x b = hasS y b := by unfold hasI; simp [List.getD, hxs, ey]
    rw [hhas] at hsucc
    have hand := hasS_and y b hyn
    have hx0 := hx.1
    have hq : (b / 64 = 0 ∨ b / 64 = 1 ∨ b / 64 = 2 ∨ b / 64 = 3) := by omega
    have hm1 : ((b : Int) % 64).toNat = b % 64 := by omega
    have hm2 : min (b % 64) IntKind.u64.bits = b % 64 := by simp [IntKind.bits]; omega
    have hlen2 : (haveL n.sets (l.take k) b).length ≤ 1000000 := by
      have := List.length_filter_le (fun i => hasI n.sets i b) (l.take k)
      simp only [haveL]
      rw [List.length_take] at this
      omega
    have hqq : ∀ w : Int, wordS y ((b / 64 : Nat) : Int) = w → ((hasS y b = true ↔ ¬ w / 2 ^ (b % 64) % 2 = 0)) := fun w hw => by rw [hand, hw]; simp
    rcases hq with hq | hq | hq | hq
    all_goals
      have hq' : (b : Int) / 64 = ((b / 64 : Nat) : Int) := by omega
      rw [hq] at hq'
      have hw := hqq _ (by rw [hq])
      simp [wordS] at hw
      cases hh : hasS y b
      · rw [hh] at hw hsucc
        simp at hw
        repeat (first | (refine PC.seq fun K hK => ?_) | (refine PC.block ?_) | (refine PC.region ?_) | (refine PL.k rfl fun KK hKK => ?_; simp (disch := omega) [go_sem, stepK, f2, f3, f7, f10, f11, f12, hlt', hlt, ex, b2, hx0, hxs, ey, hq', W64, hm1, hm2, hw]; refine hKK _ ?_; clear hKK KK) | (refine PL.k rfl fun KK hKK => ?_; simp [go_sem, stepK, f2, f3, f7, f10, f11, f12, hlt', hlt, ex, b2, hx0, hxs, ey, hq', W64, hm1, hm2, hw]; refine hKK _ ?_; clear hKK KK) | (refine PL.g rfl rfl fun KK hKK => ?_; simp (disch := omega) [go_sem, L.stepG, f2, f3, f7, f10, f11, f12, hlt', hlt, ex, b2, hx0, hxs, ey, hq', W64, hm1, hm2, hw]; refine hKK _ ?_; clear hKK KK) | (refine PL.g rfl rfl fun KK hKK => ?_; simp [go_sem, L.stepG, f2, f3, f7, f10, f11, f12, hlt', hlt, ex, b2, hx0, hxs, ey, hq', W64, hm1, hm2, hw]; refine hKK _ ?_; clear hKK KK) | (refine PL.done hK ?_; clear hK) | (refine PC.skip (hK _ _ ?_); clear hK) | (refine PC.condT ?_ ?_; focus (simp [go_sem, f2, f3, f7, f10, f11, f12, hlt', hlt, ex, b2, hx0, hxs, ey, hq', W64, hm1, hm2, hw]; done)) | (refine PC.condF ?_ ?_; focus (simp [go_sem, f2, f3, f7, f10, f11, f12, hlt', hlt, ex, b2, hx0, hxs, ey, hq', W64, hm1, hm2, hw]; done)) | (refine PC.exit ?_; first | (refine hK _ _ ?_; clear hK) | (clear hK; refine hK _ _ ?_; clear hK) | (clear hK; clear hK; refine hK _ _ ?_; clear hK)))
        refine PL.nil ⟨l.length - (k + 1), by omega, k + 1, q, by omega, by omega, by simp [go_sem, f2], by simp [go_sem, f3], by simp [go_sem, f7], by simp [go_sem, f10], by simp [go_sem, f11], by simp [go_sem], hH, ?_⟩
        rw [hsucc]; simpa using hO
      · rw [hh] at hw hsucc
        simp at hw
        repeat (first | (refine PC.seq fun K hK => ?_) | (refine PC.block ?_) | (refine PC.region ?_) | (refine PL.k rfl fun KK hKK => ?_; simp (disch := omega) [go_sem, stepK, f2, f3, f7, f10, f11, f12, hlt', hlt, ex, b2, hx0, hxs, ey, hq', W64, hm1, hm2, hw]; refine hKK _ ?_; clear hKK KK) | (refine PL.k rfl fun KK hKK => ?_; simp [go_sem, stepK, f2, f3, f7, f10, f11, f12, hlt', hlt, ex, b2, hx0, hxs, ey, hq', W64, hm1, hm2, hw]; refine hKK _ ?_; clear hKK KK) | (refine PL.g rfl rfl fun KK hKK => ?_; simp (disch := omega) [go_sem, L.stepG, f2, f3, f7, f10, f11, f12, hlt', hlt, ex, b2, hx0, hxs, ey, hq', W64, hm1, hm2, hw]; refine hKK _ ?_; clear hKK KK) | (refine PL.g rfl rfl fun KK hKK => ?_; simp [go_sem, L.stepG, f2, f3, f7, f10, f11, f12, hlt', hlt, ex, b2, hx0, hxs, ey, hq', W64, hm1, hm2, hw]; refine hKK _ ?_; clear hKK KK) | (refine PL.done hK ?_; clear hK) | (refine PC.skip (hK _ _ ?_); clear hK) | (refine PC.condT ?_ ?_; focus (simp [go_sem, f2, f3, f7, f10, f11, f12, hlt', hlt, ex, b2, hx0, hxs, ey, hq', W64, hm1, hm2, hw]; done)) | (refine PC.condF ?_ ?_; focus (simp [go_sem, f2, f3, f7, f10, f11, f12, hlt', hlt, ex, b2, hx0, hxs, ey, hq', W64, hm1, hm2, hw]; done)) | (refine PC.exit ?_; first | (refine hK _ _ ?_; clear hK) | (clear hK; refine hK _ _ ?_; clear hK) | (clear hK; clear hK; refine hK _ _ ?_; clear hK)))
        refine PL.buildSliceR (d := 31) rfl rfl rfl (by simp) selem_30 rfl (by omega) (ips := [(0, I x)]) (by simp [go_sem]) (by simp [litOk, go_sem, okC]) (ps := [I x]) rfl ?_
        refine PL.appendL (d := 32) (xs := haveL n.sets (l.take k) b) (ys := [x]) rfl rfl rfl (by simp) selem_30 (by simp [go_sem]) hO (by simp [go_sem]) (fun _ => rfl) (fun x c hc => by simp [PV.cells] at hc; subst hc; rfl) (by simp [maxLen]; omega) (by simp; omega) fun q2 H2 b3 o3 => ?_
        repeat (first | (refine PC.seq fun K hK => ?_) | (refine PC.block ?_) | (refine PC.region ?_) | (refine PL.k rfl fun KK hKK => ?_; simp (disch := omega) [go_sem, stepK, f12]; refine hKK _ ?_; clear hKK KK) | (refine PL.k rfl fun KK hKK => ?_; simp [go_sem, stepK, f12]; refine hKK _ ?_; clear hKK KK) | (refine PL.g rfl rfl fun KK hKK => ?_; simp (disch := omega) [go_sem, L.stepG, f12]; refine hKK _ ?_; clear hKK KK) | (refine PL.g rfl rfl fun KK hKK => ?_; simp [go_sem, L.stepG, f12]; refine hKK _ ?_; clear hKK KK) | (refine PL.done hK ?_; clear hK) | (refine PC.skip (hK _ _ ?_); clear hK) | (refine PC.condT ?_ ?_; focus (simp [go_sem, f12]; done)) | (refine PC.condF ?_ ?_; focus (simp [go_sem, f12]; done)) | (refine PC.exit ?_; first | (refine hK _ _ ?_; clear hK) | (clear hK; refine hK _ _ ?_; clear hK) | (clear hK; clear hK; refine hK _ _ ?_; clear hK)))
        refine PL.nil ⟨l.length - (k + 1), by omega, k + 1, q2, by omega, by omega, by simp [go_sem, f2], by simp [go_sem, f3], by simp [go_sem], by simp [go_sem, f10], by simp [go_sem, f11], by simp [go_sem], (o3 1 (by omega)).trans hH, ?_⟩
        rw [hsucc]; exact b3
  · have hlt' : ¬ (k : Int) < l.length := by omega
    have hke : k = l.length := by omega
    rw [hke, List.take_length] at hO
    repeat (first | (refine PC.seq fun K hK => ?_) | (refine PC.block ?_) | (refine PC.region ?_) | (refine PL.k rfl fun KK hKK => ?_; simp (disch := omega) [go_sem, stepK, f7, f11, f12, hlt']; refine hKK _ ?_; clear hKK KK) | (refine PL.k rfl fun KK hKK => ?_; simp [go_sem, stepK, f7, f11, f12, hlt']; refine hKK _ ?_; clear hKK KK) | (refine PL.g rfl rfl fun KK hKK => ?_; simp (disch := omega) [go_sem, L.stepG, f7, f11, f12, hlt']; refine hKK _ ?_; clear hKK KK) | (refine PL.g rfl rfl fun KK hKK => ?_; simp [go_sem, L.stepG, f7, f11, f12, hlt']; refine hKK _ ?_; clear hKK KK) | (refine PL.done hK ?_; clear hK) | (refine PC.skip (hK _ _ ?_); clear hK) | (refine PC.condT ?_ ?_; focus (simp [go_sem, f7, f11, f12, hlt']; done)) | (refine PC.condF ?_ ?_; focus (simp [go_sem, f7, f11, f12, hlt']; done)) | (refine PC.exit ?_; first | (refine hK _ _ ?_; clear hK) | (clear hK; refine hK _ _ ?_; clear hK) | (clear hK; clear hK; refine hK _ _ ?_; clear hK)))
    refine PC.ret ?_
    refine ⟨.inr rfl, q, _, ?_, hO.view (fun _ => rfl) (fun x c hc => by simp [PV.cells] at hc; subst hc; exact .u _), noP_slI _, rfl⟩
    simp [resP, resP1, Try.results83, go_sem]
end Go.Proofs.Ytficeeaaaijgcaa

/-
  The spots whose sets have a byte: chapter 12's reference; both tell the same.
-/
namespace Go.Proofs.Ytficeeaaaijgcaa
open Go Go.RowKit L
set_option linter.unusedVariables false
set_option linter.unusedSimpArgs false

def withK (sets : List Rx) (l : List Int) (b k : Nat) : List Int := ((List.range k).map fun i : Nat => (i : Int)).filter fun i => decide (i ∈ l) && hasI sets i b
theorem withK_succ (sets : List Rx) (l : List Int) (b k : Nat) : withK sets l b (k + 1) = withK sets l b k ++ (if decide ((k : Int) ∈ l) && hasI sets k b then [(k : Int)] else []) := by
  unfold withK
  rw [List.range_succ, List.map_append, List.filter_append]
  congr 1
  cases h : decide ((k : Int) ∈ l) && hasI sets k b <;> simp [h]
theorem withK_len (sets : List Rx) (l : List Int) (b k : Nat) : (withK sets l b k).length ≤ k := by
  unfold withK
  exact Nat.le_trans (List.length_filter_le _ _) (by simp)
theorem withL_mem {sets : List Rx} {l : List Int} {b : Nat} {x : Int} : x ∈ withL sets l b ↔ (0 ≤ x ∧ x < sets.length) ∧ x ∈ l ∧ hasI sets x b = true := by
  unfold withL
  rw [List.mem_filter]
  simp only [List.mem_map, List.mem_range, Bool.and_eq_true, decide_eq_true_eq]
  constructor
  · rintro ⟨⟨i, hi, rfl⟩, h⟩; exact ⟨by omega, h⟩
  · rintro ⟨h, h'⟩; exact ⟨⟨x.toNat, by omega, by omega⟩, h'⟩
theorem withL_rise (sets : List Rx) (l : List Int) (b : Nat) : Rising (withL sets l b) := by
  unfold withL Rising
  refine List.Pairwise.filter _ ?_
  rw [List.pairwise_map]
  exact List.pairwise_lt_range.imp fun h => by omega
theorem haveL_mem {sets : List Rx} {l : List Int} {b : Nat} {x : Int} : x ∈ haveL sets l b ↔ x ∈ l ∧ hasI sets x b = true := by
  unfold haveL; rw [List.mem_filter]
theorem have_with {sets : List Rx} {l m : List Int} {b : Nat} (hl : Rising l) (hr : ∀ x ∈ l, 0 ≤ x ∧ x < sets.length) (hm : ∀ x, x ∈ l ↔ x ∈ m ∧ 0 ≤ x ∧ x < sets.length) : haveL sets l b = withL sets m b := by
  refine rise_ext ?_ (withL_rise _ _ _) fun x => ?_
  · unfold haveL Rising
    exact List.Pairwise.filter _ hl
  · rw [haveL_mem, withL_mem, hm]
    constructor
    · rintro ⟨⟨h1, h2⟩, h3⟩; exact ⟨h2, h1, h3⟩
    · rintro ⟨h2, h1, h3⟩; exact ⟨⟨h1, h2⟩, h3⟩

set_option maxRecDepth 20000 in
set_option maxHeartbeats 4000000 in
theorem with_ok (n : Net) (l : List Int) (b : Nat) (hb : b < 256) (hl : l.length ≤ 4000000) (hs : n.sets.length ≤ 1000000) : PCall Try.prog 86 [netV n, slI l, U8 b] (· = slI (withL n.sets l b)) := by
  refine PCall.intro' Try.func86 rfl Try.ntmps86 (by simp) fun W => ?_
  refine PC.seq fun K hK => ?_
  refine PC.region ?_
  refine PL.boxA 1 (d := 3) rfl rfl rfl (by simp) (v := netV n) (by simp [go_sem]) (by simp [go_sem, okC]) rfl fun v H1 b1 o1 => ?_
  have b1 := netBox b1
  repeat (first | (refine PC.seq fun K hK => ?_) | (refine PC.block ?_) | (refine PC.region ?_) | (refine PL.k rfl fun KK hKK => ?_; simp (disch := omega) [go_sem, stepK, b1]; refine hKK _ ?_; clear hKK KK) | (refine PL.k rfl fun KK hKK => ?_; simp [go_sem, stepK, b1]; refine hKK _ ?_; clear hKK KK) | (refine PL.g rfl rfl fun KK hKK => ?_; simp (disch := omega) [go_sem, L.stepG, b1]; refine hKK _ ?_; clear hKK KK) | (refine PL.g rfl rfl fun KK hKK => ?_; simp [go_sem, L.stepG, b1]; refine hKK _ ?_; clear hKK KK) | (refine PL.done hK ?_; clear hK) | (refine PC.skip (hK _ _ ?_); clear hK) | (refine PC.condT ?_ ?_; focus (simp [go_sem, b1]; done)) | (refine PC.condF ?_ ?_; focus (simp [go_sem, b1]; done)) | (refine PC.exit ?_; first | (refine hK _ _ ?_; clear hK) | (clear hK; refine hK _ _ ?_; clear hK) | (clear hK; clear hK; refine hK _ _ ?_; clear hK)))
  refine PL.buildSliceA 60 (d := 9) rfl rfl rfl (by simp) selem_30 rfl (by omega) (by unfold maxLen; omega) (ips := []) (by simp [go_sem]) (by simp [litOk]) (cs := []) rfl fun v0 H0 b0 o0 => ?_
  repeat (first | (refine PC.seq fun K hK => ?_) | (refine PC.block ?_) | (refine PC.region ?_) | (refine PL.k rfl fun KK hKK => ?_; simp (disch := omega) [go_sem, stepK]; refine hKK _ ?_; clear hKK KK) | (refine PL.k rfl fun KK hKK => ?_; simp [go_sem, stepK]; refine hKK _ ?_; clear hKK KK) | (refine PL.g rfl rfl fun KK hKK => ?_; simp (disch := omega) [go_sem, L.stepG]; refine hKK _ ?_; clear hKK KK) | (refine PL.g rfl rfl fun KK hKK => ?_; simp [go_sem, L.stepG]; refine hKK _ ?_; clear hKK KK) | (refine PL.done hK ?_; clear hK) | (refine PC.skip (hK _ _ ?_); clear hK) | (refine PC.condT ?_ ?_; focus (simp [go_sem]; done)) | (refine PC.condF ?_ ?_; focus (simp [go_sem]; done)) | (refine PC.exit ?_; first | (refine hK _ _ ?_; clear hK) | (clear hK; refine hK _ _ ?_; clear hK) | (clear hK; clear hK; refine hK _ _ ?_; clear hK)))
  refine PC.loop (fun m F H' => ∃ (k : Nat) (q : PV), k ≤ n.sets.length ∧ m = n.sets.length - k ∧ F 1 = slI l ∧ F 2 = U8 b ∧ F 3 = .pp 1 0 v ∧ F 7 = q ∧ F 8 = I k ∧ H' 1 = H1 1 ∧ ownIs H' 60 q (withK n.sets l b k)) (m := n.sets.length) ⟨0, .ps 60 v0, by omega, by omega, by simp [go_sem], by simp [go_sem], by simp [go_sem], by simp [go_sem], by simp [go_sem], o0 1 (by omega), OwnS.row b0 rfl⟩ fun m F H' hI => ?_
  obtain ⟨k, q, hk, hm, f1, f2, f3, f7, f8, hH, hO⟩ := hI
  have b2 := hH.trans b1
  by_cases hlt : k < n.sets.length
  · have hlt' : (k : Int) < n.sets.length := by omega
    have hsucc := withK_succ n.sets l b k
    have hlen := withK_len n.sets l b k
    obtain ⟨y, ey⟩ : ∃ y, n.sets[k] = y := ⟨_, rfl⟩
    have hhas : hasI n.sets k b = hasS y b := by unfold hasI; simp [List.getD, hlt, ey]
    rw [hhas] at hsucc
    repeat (first | (refine PC.seq fun K hK => ?_) | (refine PC.block ?_) | (refine PC.region ?_) | (refine PL.k rfl fun KK hKK => ?_; simp (disch := omega) [go_sem, stepK, f1, f8, f3, b2, hlt']; refine hKK _ ?_; clear hKK KK) | (refine PL.k rfl fun KK hKK => ?_; simp [go_sem, stepK, f1, f8, f3, b2, hlt']; refine hKK _ ?_; clear hKK KK) | (refine PL.g rfl rfl fun KK hKK => ?_; simp (disch := omega) [go_sem, L.stepG, f1, f8, f3, b2, hlt']; refine hKK _ ?_; clear hKK KK) | (refine PL.g rfl rfl fun KK hKK => ?_; simp [go_sem, L.stepG, f1, f8, f3, b2, hlt']; refine hKK _ ?_; clear hKK KK) | (refine PL.done hK ?_; clear hK) | (refine PC.skip (hK _ _ ?_); clear hK) | (refine PC.condT ?_ ?_; focus (simp [go_sem, f1, f8, f3, b2, hlt']; done)) | (refine PC.condF ?_ ?_; focus (simp [go_sem, f1, f8, f3, b2, hlt']; done)) | (refine PC.exit ?_; first | (refine hK _ _ ?_; clear hK) | (clear hK; refine hK _ _ ?_; clear hK) | (clear hK; clear hK; refine hK _ _ ?_; clear hK)))
    (refine PL.call rfl rfl (by kernel_rfl) (ref11Has_ok l k (by omega)) (by simp [go_sem]) (by simp [go_sem]) (by simp [go_sem]) ?_)
    by_cases hx : (k : Int) ∈ l
    · repeat (first | (refine PC.seq fun K hK => ?_) | (refine PC.block ?_) | (refine PC.region ?_) | (refine PL.k rfl fun KK hKK => ?_; simp (disch := omega) [go_sem, stepK, hx, f2, f3, f8, b2, hlt', hlt, ey]; refine hKK _ ?_; clear hKK KK) | (refine PL.k rfl fun KK hKK => ?_; simp [go_sem, stepK, hx, f2, f3, f8, b2, hlt', hlt, ey]; refine hKK _ ?_; clear hKK KK) | (refine PL.g rfl rfl fun KK hKK => ?_; simp (disch := omega) [go_sem, L.stepG, hx, f2, f3, f8, b2, hlt', hlt, ey]; refine hKK _ ?_; clear hKK KK) | (refine PL.g rfl rfl fun KK hKK => ?_; simp [go_sem, L.stepG, hx, f2, f3, f8, b2, hlt', hlt, ey]; refine hKK _ ?_; clear hKK KK) | (refine PL.done hK ?_; clear hK) | (refine PC.skip (hK _ _ ?_); clear hK) | (refine PC.condT ?_ ?_; focus (simp [go_sem, hx, f2, f3, f8, b2, hlt', hlt, ey]; done)) | (refine PC.condF ?_ ?_; focus (simp [go_sem, hx, f2, f3, f8, b2, hlt', hlt, ey]; done)) | (refine PC.exit ?_; first | (refine hK _ _ ?_; clear hK) | (clear hK; refine hK _ _ ?_; clear hK) | (clear hK; clear hK; refine hK _ _ ?_; clear hK)))
      refine PL.callBg rfl rfl rfl (by simp [go_sem]) (by kernel_rfl) (refHas_ok y b hb) (by simp [go_sem]) (by simp [go_sem, W64]) (by simp [go_sem, encS, W64]) ?_
      cases hh : hasS y b
      · repeat (first | (refine PC.seq fun K hK => ?_) | (refine PC.block ?_) | (refine PC.region ?_) | (refine PL.k rfl fun KK hKK => ?_; simp (disch := omega) [go_sem, stepK, hh, f8]; refine hKK _ ?_; clear hKK KK) | (refine PL.k rfl fun KK hKK => ?_; simp [go_sem, stepK, hh, f8]; refine hKK _ ?_; clear hKK KK) | (refine PL.g rfl rfl fun KK hKK => ?_; simp (disch := omega) [go_sem, L.stepG, hh, f8]; refine hKK _ ?_; clear hKK KK) | (refine PL.g rfl rfl fun KK hKK => ?_; simp [go_sem, L.stepG, hh, f8]; refine hKK _ ?_; clear hKK KK) | (refine PL.done hK ?_; clear hK) | (refine PC.skip (hK _ _ ?_); clear hK) | (refine PC.condT ?_ ?_; focus (simp [go_sem, hh, f8]; done)) | (refine PC.condF ?_ ?_; focus (simp [go_sem, hh, f8]; done)) | (refine PC.exit ?_; first | (refine hK _ _ ?_; clear hK) | (clear hK; refine hK _ _ ?_; clear hK) | (clear hK; clear hK; refine hK _ _ ?_; clear hK)))
        refine PL.nil ⟨n.sets.length - (k + 1), by omega, k + 1, q, by omega, by omega, by simp [go_sem, f1], by simp [go_sem, f2], by simp [go_sem, f3], by simp [go_sem, f7], by simp [go_sem], hH, ?_⟩
        rw [hsucc, hh]; simpa using hO
      · repeat (first | (refine PC.seq fun K hK => ?_) | (refine PC.block ?_) | (refine PC.region ?_) | (refine PL.k rfl fun KK hKK => ?_; simp (disch := omega) [go_sem, stepK, hh, f7, f8]; refine hKK _ ?_; clear hKK KK) | (refine PL.k rfl fun KK hKK => ?_; simp [go_sem, stepK, hh, f7, f8]; refine hKK _ ?_; clear hKK KK) | (refine PL.g rfl rfl fun KK hKK => ?_; simp (disch := omega) [go_sem, L.stepG, hh, f7, f8]; refine hKK _ ?_; clear hKK KK) | (refine PL.g rfl rfl fun KK hKK => ?_; simp [go_sem, L.stepG, hh, f7, f8]; refine hKK _ ?_; clear hKK KK) | (refine PL.done hK ?_; clear hK) | (refine PC.skip (hK _ _ ?_); clear hK) | (refine PC.condT ?_ ?_; focus (simp [go_sem, hh, f7, f8]; done)) | (refine PC.condF ?_ ?_; focus (simp [go_sem, hh, f7, f8]; done)) | (refine PC.exit ?_; first | (refine hK _ _ ?_; clear hK) | (clear hK; refine hK _ _ ?_; clear hK) | (clear hK; clear hK; refine hK _ _ ?_; clear hK)))
        refine PL.buildSliceR (d := 31) rfl rfl rfl (by simp) selem_30 rfl (by omega) (ips := [(0, I k)]) (by simp [go_sem]) (by simp [litOk, go_sem, okC]) (ps := [I k]) rfl ?_
        refine PL.appendL (d := 32) (xs := withK n.sets l b k) (ys := [(k : Int)]) rfl rfl rfl (by simp) selem_30 (by simp [go_sem]) hO (by simp [go_sem]) (fun _ => rfl) (fun x c hc => by simp [PV.cells] at hc; subst hc; rfl) (by simp [maxLen]; omega) (by simp; omega) fun q2 H2 b3 o3 => ?_
        repeat (first | (refine PC.seq fun K hK => ?_) | (refine PC.block ?_) | (refine PC.region ?_) | (refine PL.k rfl fun KK hKK => ?_; simp (disch := omega) [go_sem, stepK, f8]; refine hKK _ ?_; clear hKK KK) | (refine PL.k rfl fun KK hKK => ?_; simp [go_sem, stepK, f8]; refine hKK _ ?_; clear hKK KK) | (refine PL.g rfl rfl fun KK hKK => ?_; simp (disch := omega) [go_sem, L.stepG, f8]; refine hKK _ ?_; clear hKK KK) | (refine PL.g rfl rfl fun KK hKK => ?_; simp [go_sem, L.stepG, f8]; refine hKK _ ?_; clear hKK KK) | (refine PL.done hK ?_; clear hK) | (refine PC.skip (hK _ _ ?_); clear hK) | (refine PC.condT ?_ ?_; focus (simp [go_sem, f8]; done)) | (refine PC.condF ?_ ?_; focus (simp [go_sem, f8]; done)) | (refine PC.exit ?_; first | (refine hK _ _ ?_; clear hK) | (clear hK; refine hK _ _ ?_; clear hK) | (clear hK; clear hK; refine hK _ _ ?_; clear hK)))
        refine PL.nil ⟨n.sets.length - (k + 1), by omega, k + 1, q2, by omega, by omega, by simp [go_sem, f1], by simp [go_sem, f2], by simp [go_sem, f3], by simp [go_sem], by simp [go_sem], (o3 1 (by omega)).trans hH, ?_⟩
        rw [hsucc, hh]; simpa [hx] using b3
    · repeat (first | (refine PC.seq fun K hK => ?_) | (refine PC.block ?_) | (refine PC.region ?_) | (refine PL.k rfl fun KK hKK => ?_; simp (disch := omega) [go_sem, stepK, hx, f8]; refine hKK _ ?_; clear hKK KK) | (refine PL.k rfl fun KK hKK => ?_; simp [go_sem, stepK, hx, f8]; refine hKK _ ?_; clear hKK KK) | (refine PL.g rfl rfl fun KK hKK => ?_; simp (disch := omega) [go_sem, L.stepG, hx, f8]; refine hKK _ ?_; clear hKK KK) | (refine PL.g rfl rfl fun KK hKK => ?_; simp [go_sem, L.stepG, hx, f8]; refine hKK _ ?_; clear hKK KK) | (refine PL.done hK ?_; clear hK) | (refine PC.skip (hK _ _ ?_); clear hK) | (refine PC.condT ?_ ?_; focus (simp [go_sem, hx, f8]; done)) | (refine PC.condF ?_ ?_; focus (simp [go_sem, hx, f8]; done)) | (refine PC.exit ?_; first | (refine hK _ _ ?_; clear hK) | (clear hK; refine hK _ _ ?_; clear hK) | (clear hK; clear hK; refine hK _ _ ?_; clear hK)))
      refine PL.nil ⟨n.sets.length - (k + 1), by omega, k + 1, q, by omega, by omega, by simp [go_sem, f1], by simp [go_sem, f2], by simp [go_sem, f3], by simp [go_sem, f7], by simp [go_sem], hH, ?_⟩
      rw [hsucc]; simpa [hx] using hO
  · have hlt' : ¬ (k : Int) < n.sets.length := by omega
    have hke : k = n.sets.length := by omega
    repeat (first | (refine PC.seq fun K hK => ?_) | (refine PC.block ?_) | (refine PC.region ?_) | (refine PL.k rfl fun KK hKK => ?_; simp (disch := omega) [go_sem, stepK, f3, f7, f8, b2, hlt']; refine hKK _ ?_; clear hKK KK) | (refine PL.k rfl fun KK hKK => ?_; simp [go_sem, stepK, f3, f7, f8, b2, hlt']; refine hKK _ ?_; clear hKK KK) | (refine PL.g rfl rfl fun KK hKK => ?_; simp (disch := omega) [go_sem, L.stepG, f3, f7, f8, b2, hlt']; refine hKK _ ?_; clear hKK KK) | (refine PL.g rfl rfl fun KK hKK => ?_; simp [go_sem, L.stepG, f3, f7, f8, b2, hlt']; refine hKK _ ?_; clear hKK KK) | (refine PL.done hK ?_; clear hK) | (refine PC.skip (hK _ _ ?_); clear hK) | (refine PC.condT ?_ ?_; focus (simp [go_sem, f3, f7, f8, b2, hlt']; done)) | (refine PC.condF ?_ ?_; focus (simp [go_sem, f3, f7, f8, b2, hlt']; done)) | (refine PC.exit ?_; first | (refine hK _ _ ?_; clear hK) | (clear hK; refine hK _ _ ?_; clear hK) | (clear hK; clear hK; refine hK _ _ ?_; clear hK)))
    refine PC.ret ?_
    refine ⟨.inr rfl, q, slI (withK n.sets l b k), ?_, hO.view (fun _ => rfl) (fun x c hc => by simp [PV.cells] at hc; subst hc; exact .u _), noP_slI _, by rw [hke]; rfl⟩
    simp [resP, resP1, Try.results86, go_sem]
end Go.Proofs.Ytficeeaaaijgcaa

/-
  Where a byte leads in a net: the package fuse and chapter 12's reference.
-/
namespace Go.Proofs.Ytficeeaaaijgcaa
open Go Go.RowKit L
set_option linter.unusedVariables false
set_option linter.unusedSimpArgs false

def folN (n : Net) (i : Int) : List Int := if 0 ≤ i ∧ i < n.sets.length then n.follow.getD i.toNat [] else []
def allR (n : Net) (at_ : List Int) : List Int := at_.flatMap (folN n)
def onU (n : Net) (at_ : List Int) : List Int := at_.foldl (fun all (i : Int) => if 0 ≤ i ∧ i < (n.sets.length : Int) then mergeL true true true all (folN n i) else all) []
theorem onU_succ (n : Net) (at_ : List Int) (k : Nat) (h : k < at_.length) : onU n (at_.take (k + 1)) = if 0 ≤ at_[k] ∧ at_[k] < n.sets.length then mergeL true true true (onU n (at_.take k)) (folN n at_[k]) else onU n (at_.take k) := by
  unfold onU; rw [List.take_succ_eq_append_getElem h, List.foldl_append]; rfl

theorem rising_len2 {l : List Int} {N : Nat} (h : Rising l ∧ ∀ x ∈ l, 0 ≤ x ∧ x < (N : Int)) : l.length ≤ N := rising_le l h.1 N h.2
structure NetR (n : Net) : Prop where
  o : n.of_.length = n.sets.length
  l : n.last.length = n.sets.length
  f : n.follow.length = n.sets.length
  op : ∀ x ∈ n.of_, 0 ≤ x
  t : Rising n.first ∧ ∀ x ∈ n.first, 0 ≤ x ∧ x < n.sets.length
  fe : ∀ l ∈ n.follow, Rising l ∧ ∀ x ∈ l, 0 ≤ x ∧ x < n.sets.length
theorem spotsL_iff (N : Int) (l : List Int) : spotsL N l = true ↔ Rising l ∧ ∀ x ∈ l, 0 ≤ x ∧ x < N := by
  unfold spotsL
  rw [Bool.and_eq_true, rightL_rise, List.all_eq_true]
  simp only [decide_eq_true_eq]
theorem rightN_iff (n : Net) : rightN n = true ↔ NetR n := by
  unfold rightN
  simp only [Bool.and_eq_true, decide_eq_true_eq, List.all_eq_true, spotsL_iff]
  constructor
  · rintro ⟨h1, h2, h3, h4, h5, h6⟩; exact ⟨h1, h2, h3, h4, h5, h6⟩
  · rintro ⟨h1, h2, h3, h4, h5, h6⟩; exact ⟨h1, h2, h3, h4, h5, h6⟩
theorem NetR.fol {n : Net} (h : NetR n) (i : Int) : Rising (folN n i) ∧ ∀ x ∈ folN n i, 0 ≤ x ∧ x < n.sets.length := by
  unfold folN
  split
  · rename_i hi
    have hl : i.toNat < n.follow.length := by rw [h.f]; omega
    rw [List.getD_eq_getElem?_getD, List.getElem?_eq_getElem hl]
    exact h.fe _ (List.getElem_mem hl)
  · exact ⟨by simp [Rising], by simp⟩
theorem onU_spec {n : Net} (h : NetR n) (at_ : List Int) : Rising (onU n at_) ∧ ∀ x, x ∈ onU n at_ ↔ x ∈ allR n at_ := by
  suffices ∀ (k : Nat), k ≤ at_.length → Rising (onU n (at_.take k)) ∧ ∀ x, x ∈ onU n (at_.take k) ↔ x ∈ allR n (at_.take k) by
    have := this at_.length (Nat.le_refl _)
    rwa [List.take_length] at this
  intro k
  induction k with
  | zero => intro _; simp [onU, allR, Rising]
  | succ k ih =>
    intro hk
    obtain ⟨h1, h2⟩ := ih (by omega)
    have e : allR n (at_.take (k + 1)) = allR n (at_.take k) ++ folN n at_[k] := by
      unfold allR; rw [List.take_succ_eq_append_getElem (by omega), List.flatMap_append]; simp
    rw [onU_succ n at_ k (by omega), e]
    split
    · rename_i hv
      obtain ⟨f1, f2⟩ := h.fol at_[k]
      refine ⟨(mergeL_spec _ _ _ _ _ h1 f1).1, fun x => ?_⟩
      rw [union_mem _ _ h1 f1, List.mem_append, h2]
    · rename_i hv
      refine ⟨h1, fun x => ?_⟩
      have : folN n at_[k] = [] := by unfold folN; rw [if_neg hv]
      rw [this, List.append_nil, h2]
theorem allR_range {n : Net} (h : NetR n) (at_ : List Int) : ∀ x ∈ allR n at_, 0 ≤ x ∧ x < n.sets.length := fun x hx => by
  unfold allR at hx
  obtain ⟨i, _, hi⟩ := List.mem_flatMap.1 hx
  exact (h.fol i).2 x hi
theorem onU_len {n : Net} (h : NetR n) (at_ : List Int) : (onU n at_).length ≤ n.sets.length :=
  rising_le _ (onU_spec h at_).1 _ fun x hx => allR_range h at_ x (((onU_spec h at_).2 x).1 hx)
def stepW (n : Net) (at_ : List Int) (b : Nat) : List Int := withL n.sets (allR n at_) b
theorem step_have {n : Net} (h : NetR n) (at_ : List Int) (b : Nat) : haveL n.sets (onU n at_) b = stepW n at_ b := by
  obtain ⟨h1, h2⟩ := onU_spec h at_
  refine have_with h1 (fun x hx => allR_range h at_ x ((h2 x).1 hx)) fun x => ?_
  rw [h2]
  exact ⟨fun hx => ⟨hx, allR_range h at_ x hx⟩, fun hx => hx.1⟩
theorem start_have {n : Net} (h : NetR n) (b : Nat) : haveL n.sets n.first b = withL n.sets n.first b :=
  have_with h.t.1 h.t.2 fun x => ⟨fun hx => ⟨hx, h.t.2 x hx⟩, fun hx => hx.1⟩

set_option maxRecDepth 20000 in
set_option maxHeartbeats 4000000 in
theorem on_ok (n : Net) (at_ : List Int) (b : Nat) (hb : b < 256) (hl : at_.length ≤ 1000000) (hs : n.sets.length ≤ 1000) (hR : NetR n) (hnn : ∀ x ∈ n.sets, x.nn) : PCall Try.prog 84 [netV n, slI at_, U8 b] (· = slI (stepW n at_ b)) := by
  refine PCall.intro' Try.func84 rfl Try.ntmps84 (by simp) fun W => ?_
  refine PC.seq fun K hK => ?_
  refine PC.region ?_
  refine PL.boxA 1 (d := 3) rfl rfl rfl (by simp) (v := netV n) (by simp [go_sem]) (by simp [go_sem, okC]) rfl fun v H1 b1 o1 => ?_
  have b1 := netBox b1
  repeat (first | (refine PC.seq fun K hK => ?_) | (refine PC.block ?_) | (refine PC.region ?_) | (refine PL.k rfl fun KK hKK => ?_; simp (disch := omega) [go_sem, stepK, b1]; refine hKK _ ?_; clear hKK KK) | (refine PL.k rfl fun KK hKK => ?_; simp [go_sem, stepK, b1]; refine hKK _ ?_; clear hKK KK) | (refine PL.g rfl rfl fun KK hKK => ?_; simp (disch := omega) [go_sem, L.stepG, b1]; refine hKK _ ?_; clear hKK KK) | (refine PL.g rfl rfl fun KK hKK => ?_; simp [go_sem, L.stepG, b1]; refine hKK _ ?_; clear hKK KK) | (refine PL.done hK ?_; clear hK) | (refine PC.skip (hK _ _ ?_); clear hK) | (refine PC.condT ?_ ?_; focus (simp [go_sem, b1]; done)) | (refine PC.condF ?_ ?_; focus (simp [go_sem, b1]; done)) | (refine PC.exit ?_; first | (refine hK _ _ ?_; clear hK) | (clear hK; refine hK _ _ ?_; clear hK) | (clear hK; clear hK; refine hK _ _ ?_; clear hK)))
  refine PC.loop (fun m F H' => ∃ (k : Nat) (q : PV), k ≤ at_.length ∧ m = at_.length - k ∧ F 2 = U8 b ∧ F 3 = .pp 1 0 v ∧ F 7 = q ∧ isL q (onU n (at_.take k)) ∧ F 10 = slI at_ ∧ F 11 = I at_.length ∧ F 12 = I k ∧ H' = H1) (m := at_.length) ⟨0, _, by omega, by omega, by simp [go_sem], by simp [go_sem], by simp [go_sem], .inr ⟨rfl, rfl⟩, by simp [go_sem], by simp [go_sem], by simp [go_sem], rfl⟩ fun m F H' hI => ?_
  obtain ⟨k, q, hk, hm, f2, f3, f7, hq, f10, f11, f12, rfl⟩ := hI
  have hqN := hq.noP
  by_cases hlt : k < at_.length
  · have hlt' : (k : Int) < at_.length := by omega
    have hsucc := onU_succ n at_ k hlt
    obtain ⟨x, ex⟩ : ∃ x, at_[k] = x := ⟨_, rfl⟩
    rw [ex] at hsucc
    have hf : (n.follow.length : Int) = n.sets.length := by have := hR.f; omega
    by_cases h0 : 0 ≤ x
    · by_cases h1 : x < n.sets.length
      · have hfl : x.toNat < n.follow.length := by have := hR.f; omega
        obtain ⟨y, ey⟩ : ∃ y, n.follow[x.toNat] = y := ⟨_, rfl⟩
        have hfy : folN n x = y := by unfold folN; rw [if_pos ⟨h0, h1⟩]; simp [List.getD, hfl, ey]
        rw [if_pos ⟨h0, h1⟩, hfy] at hsucc
        have l1 := onU_len hR (at_.take k)
        have l2 := rising_len2 (hR.fe y (ey ▸ List.getElem_mem hfl))
        have h1' : x < (n.follow.length : Int) := by omega
        repeat (first | (refine PC.seq fun K hK => ?_) | (refine PC.block ?_) | (refine PC.region ?_) | (refine PL.k rfl fun KK hKK => ?_; simp (disch := omega) [go_sem, stepK, f3, f7, f10, f11, f12, hlt', hlt, ex, b1, h0, h1', hfl, ey]; refine hKK _ ?_; clear hKK KK) | (refine PL.k rfl fun KK hKK => ?_; simp [go_sem, stepK, f3, f7, f10, f11, f12, hlt', hlt, ex, b1, h0, h1', hfl, ey]; refine hKK _ ?_; clear hKK KK) | (refine PL.g rfl rfl fun KK hKK => ?_; simp (disch := omega) [go_sem, L.stepG, f3, f7, f10, f11, f12, hlt', hlt, ex, b1, h0, h1', hfl, ey]; refine hKK _ ?_; clear hKK KK) | (refine PL.g rfl rfl fun KK hKK => ?_; simp [go_sem, L.stepG, f3, f7, f10, f11, f12, hlt', hlt, ex, b1, h0, h1', hfl, ey]; refine hKK _ ?_; clear hKK KK) | (refine PL.done hK ?_; clear hK) | (refine PC.skip (hK _ _ ?_); clear hK) | (refine PC.condT ?_ ?_; focus (simp [go_sem, f3, f7, f10, f11, f12, hlt', hlt, ex, b1, h0, h1', hfl, ey]; done)) | (refine PC.condF ?_ ?_; focus (simp [go_sem, f3, f7, f10, f11, f12, hlt', hlt, ex, b1, h0, h1', hfl, ey]; done)) | (refine PC.exit ?_; first | (refine hK _ _ ?_; clear hK) | (clear hK; refine hK _ _ ?_; clear hK) | (clear hK; clear hK; refine hK _ _ ?_; clear hK)))
        refine PL.callB rfl rfl (by kernel_rfl) (manyUnion_ok (onU n (at_.take k)) y (by omega)) (by simp [go_sem]) (by simp [go_sem, hqN]) (by simp [go_sem, hq.view]) ?_
        repeat (first | (refine PC.seq fun K hK => ?_) | (refine PC.block ?_) | (refine PC.region ?_) | (refine PL.k rfl fun KK hKK => ?_; simp (disch := omega) [go_sem, stepK, f12]; refine hKK _ ?_; clear hKK KK) | (refine PL.k rfl fun KK hKK => ?_; simp [go_sem, stepK, f12]; refine hKK _ ?_; clear hKK KK) | (refine PL.g rfl rfl fun KK hKK => ?_; simp (disch := omega) [go_sem, L.stepG, f12]; refine hKK _ ?_; clear hKK KK) | (refine PL.g rfl rfl fun KK hKK => ?_; simp [go_sem, L.stepG, f12]; refine hKK _ ?_; clear hKK KK) | (refine PL.done hK ?_; clear hK) | (refine PC.skip (hK _ _ ?_); clear hK) | (refine PC.condT ?_ ?_; focus (simp [go_sem, f12]; done)) | (refine PC.condF ?_ ?_; focus (simp [go_sem, f12]; done)) | (refine PC.exit ?_; first | (refine hK _ _ ?_; clear hK) | (clear hK; refine hK _ _ ?_; clear hK) | (clear hK; clear hK; refine hK _ _ ?_; clear hK)))
        refine PL.nil ⟨at_.length - (k + 1), by omega, k + 1, _, by omega, by omega, by simp [go_sem, f2], by simp [go_sem, f3], by simp [go_sem]; rfl, ?_, by simp [go_sem, f10], by simp [go_sem, f11], by simp [go_sem], rfl⟩
        rw [hsucc]; exact isL_sl _
      · have h1' : ¬ x < (n.follow.length : Int) := by omega
        rw [if_neg (by omega)] at hsucc
        repeat (first | (refine PC.seq fun K hK => ?_) | (refine PC.block ?_) | (refine PC.region ?_) | (refine PL.k rfl fun KK hKK => ?_; simp (disch := omega) [go_sem, stepK, f3, f7, f10, f11, f12, hlt', hlt, ex, b1, h0, h1']; refine hKK _ ?_; clear hKK KK) | (refine PL.k rfl fun KK hKK => ?_; simp [go_sem, stepK, f3, f7, f10, f11, f12, hlt', hlt, ex, b1, h0, h1']; refine hKK _ ?_; clear hKK KK) | (refine PL.g rfl rfl fun KK hKK => ?_; simp (disch := omega) [go_sem, L.stepG, f3, f7, f10, f11, f12, hlt', hlt, ex, b1, h0, h1']; refine hKK _ ?_; clear hKK KK) | (refine PL.g rfl rfl fun KK hKK => ?_; simp [go_sem, L.stepG, f3, f7, f10, f11, f12, hlt', hlt, ex, b1, h0, h1']; refine hKK _ ?_; clear hKK KK) | (refine PL.done hK ?_; clear hK) | (refine PC.skip (hK _ _ ?_); clear hK) | (refine PC.condT ?_ ?_; focus (simp [go_sem, f3, f7, f10, f11, f12, hlt', hlt, ex, b1, h0, h1']; done)) | (refine PC.condF ?_ ?_; focus (simp [go_sem, f3, f7, f10, f11, f12, hlt', hlt, ex, b1, h0, h1']; done)) | (refine PC.exit ?_; first | (refine hK _ _ ?_; clear hK) | (clear hK; refine hK _ _ ?_; clear hK) | (clear hK; clear hK; refine hK _ _ ?_; clear hK)))
        refine PL.nil ⟨at_.length - (k + 1), by omega, k + 1, q, by omega, by omega, by simp [go_sem, f2], by simp [go_sem, f3], by simp [go_sem, f7], ?_, by simp [go_sem, f10], by simp [go_sem, f11], by simp [go_sem], rfl⟩
        rw [hsucc]; exact hq
    · rw [if_neg (by omega)] at hsucc
      repeat (first | (refine PC.seq fun K hK => ?_) | (refine PC.block ?_) | (refine PC.region ?_) | (refine PL.k rfl fun KK hKK => ?_; simp (disch := omega) [go_sem, stepK, f3, f7, f10, f11, f12, hlt', hlt, ex, b1, h0]; refine hKK _ ?_; clear hKK KK) | (refine PL.k rfl fun KK hKK => ?_; simp [go_sem, stepK, f3, f7, f10, f11, f12, hlt', hlt, ex, b1, h0]; refine hKK _ ?_; clear hKK KK) | (refine PL.g rfl rfl fun KK hKK => ?_; simp (disch := omega) [go_sem, L.stepG, f3, f7, f10, f11, f12, hlt', hlt, ex, b1, h0]; refine hKK _ ?_; clear hKK KK) | (refine PL.g rfl rfl fun KK hKK => ?_; simp [go_sem, L.stepG, f3, f7, f10, f11, f12, hlt', hlt, ex, b1, h0]; refine hKK _ ?_; clear hKK KK) | (refine PL.done hK ?_; clear hK) | (refine PC.skip (hK _ _ ?_); clear hK) | (refine PC.condT ?_ ?_; focus (simp [go_sem, f3, f7, f10, f11, f12, hlt', hlt, ex, b1, h0]; done)) | (refine PC.condF ?_ ?_; focus (simp [go_sem, f3, f7, f10, f11, f12, hlt', hlt, ex, b1, h0]; done)) | (refine PC.exit ?_; first | (refine hK _ _ ?_; clear hK) | (clear hK; refine hK _ _ ?_; clear hK) | (clear hK; clear hK; refine hK _ _ ?_; clear hK)))
      refine PL.nil ⟨at_.length - (k + 1), by omega, k + 1, q, by omega, by omega, by simp [go_sem, f2], by simp [go_sem, f3], by simp [go_sem, f7], ?_, by simp [go_sem, f10], by simp [go_sem, f11], by simp [go_sem], rfl⟩
      rw [hsucc]; exact hq
  · have hlt' : ¬ (k : Int) < at_.length := by omega
    have hke : k = at_.length := by omega
    rw [hke, List.take_length] at hq
    repeat (first | (refine PC.seq fun K hK => ?_) | (refine PC.block ?_) | (refine PC.region ?_) | (refine PL.k rfl fun KK hKK => ?_; simp (disch := omega) [go_sem, stepK, f2, f3, f7, f11, f12, hlt', b1]; refine hKK _ ?_; clear hKK KK) | (refine PL.k rfl fun KK hKK => ?_; simp [go_sem, stepK, f2, f3, f7, f11, f12, hlt', b1]; refine hKK _ ?_; clear hKK KK) | (refine PL.g rfl rfl fun KK hKK => ?_; simp (disch := omega) [go_sem, L.stepG, f2, f3, f7, f11, f12, hlt', b1]; refine hKK _ ?_; clear hKK KK) | (refine PL.g rfl rfl fun KK hKK => ?_; simp [go_sem, L.stepG, f2, f3, f7, f11, f12, hlt', b1]; refine hKK _ ?_; clear hKK KK) | (refine PL.done hK ?_; clear hK) | (refine PC.skip (hK _ _ ?_); clear hK) | (refine PC.condT ?_ ?_; focus (simp [go_sem, f2, f3, f7, f11, f12, hlt', b1]; done)) | (refine PC.condF ?_ ?_; focus (simp [go_sem, f2, f3, f7, f11, f12, hlt', b1]; done)) | (refine PC.exit ?_; first | (refine hK _ _ ?_; clear hK) | (clear hK; refine hK _ _ ?_; clear hK) | (clear hK; clear hK; refine hK _ _ ?_; clear hK)))
    have hh := having_ok n (onU n at_) b hb (by have := onU_len hR at_; omega) (fun x hx => allR_range hR at_ x (((onU_spec hR at_).2 x).1 hx)) hnn
    rw [step_have hR] at hh
    refine PL.callB rfl rfl (by kernel_rfl) hh (by simp [go_sem]) (by simp [go_sem, hqN]) (by simp [go_sem, hq.view]) ?_
    repeat (first | (refine PC.seq fun K hK => ?_) | (refine PC.block ?_) | (refine PC.region ?_) | (refine PL.k rfl fun KK hKK => ?_; simp (disch := omega) [go_sem, stepK]; refine hKK _ ?_; clear hKK KK) | (refine PL.k rfl fun KK hKK => ?_; simp [go_sem, stepK]; refine hKK _ ?_; clear hKK KK) | (refine PL.g rfl rfl fun KK hKK => ?_; simp (disch := omega) [go_sem, L.stepG]; refine hKK _ ?_; clear hKK KK) | (refine PL.g rfl rfl fun KK hKK => ?_; simp [go_sem, L.stepG]; refine hKK _ ?_; clear hKK KK) | (refine PL.done hK ?_; clear hK) | (refine PC.skip (hK _ _ ?_); clear hK) | (refine PC.condT ?_ ?_; focus (simp [go_sem]; done)) | (refine PC.condF ?_ ?_; focus (simp [go_sem]; done)) | (refine PC.exit ?_; first | (refine hK _ _ ?_; clear hK) | (clear hK; refine hK _ _ ?_; clear hK) | (clear hK; clear hK; refine hK _ _ ?_; clear hK)))
    (refine PC.ret ?_; refine fin (.inr rfl) (by simp [resP, resP1, Try.results84, go_sem]) (by simp [go_sem]))

def startN (n : Net) (b : Nat) : List Int := if rightN n = true then withL n.sets n.first b else []
def stepN (n : Net) (at_ : List Int) (b : Nat) : List Int := if rightN n = true then stepW n at_ b else []

set_option maxRecDepth 20000 in
set_option maxHeartbeats 1000000 in
theorem fuseStart_ok (n : Net) (b : Nat) (hb : b < 256) (hn : Nb n) (hs : NetR n → n.sets.length ≤ 1000) (hnn : ∀ x ∈ n.sets, x.nn) : PCall Try.prog 51 [netV n, U8 b] (· = slI (startN n b)) := by
  refine PCall.intro' Try.func51 rfl Try.ntmps51 (by simp) fun W => ?_
  refine PC.seq fun K hK => ?_
  refine PC.region ?_
  refine PL.boxA 1 (d := 2) rfl rfl rfl (by simp) (v := netV n) (by simp [go_sem]) (by simp [go_sem, okC]) rfl fun v H1 b1 o1 => ?_
  have b1 := netBox b1
  repeat (first | (refine PC.seq fun K hK => ?_) | (refine PC.block ?_) | (refine PC.region ?_) | (refine PL.k rfl fun KK hKK => ?_; simp (disch := omega) [go_sem, stepK, b1]; refine hKK _ ?_; clear hKK KK) | (refine PL.k rfl fun KK hKK => ?_; simp [go_sem, stepK, b1]; refine hKK _ ?_; clear hKK KK) | (refine PL.g rfl rfl fun KK hKK => ?_; simp (disch := omega) [go_sem, L.stepG, b1]; refine hKK _ ?_; clear hKK KK) | (refine PL.g rfl rfl fun KK hKK => ?_; simp [go_sem, L.stepG, b1]; refine hKK _ ?_; clear hKK KK) | (refine PL.done hK ?_; clear hK) | (refine PC.skip (hK _ _ ?_); clear hK) | (refine PC.condT ?_ ?_; focus (simp [go_sem, b1]; done)) | (refine PC.condF ?_ ?_; focus (simp [go_sem, b1]; done)) | (refine PC.exit ?_; first | (refine hK _ _ ?_; clear hK) | (clear hK; refine hK _ _ ?_; clear hK) | (clear hK; clear hK; refine hK _ _ ?_; clear hK)))
  refine PL.callB rfl rfl (by kernel_rfl) (fuseRight_ok n hn) (by simp [go_sem]) (by simp [go_sem]) (by simp [go_sem]) ?_
  cases hr : rightN n
  · repeat (first | (refine PC.seq fun K hK => ?_) | (refine PC.block ?_) | (refine PC.region ?_) | (refine PL.k rfl fun KK hKK => ?_; simp (disch := omega) [go_sem, stepK, hr]; refine hKK _ ?_; clear hKK KK) | (refine PL.k rfl fun KK hKK => ?_; simp [go_sem, stepK, hr]; refine hKK _ ?_; clear hKK KK) | (refine PL.g rfl rfl fun KK hKK => ?_; simp (disch := omega) [go_sem, L.stepG, hr]; refine hKK _ ?_; clear hKK KK) | (refine PL.g rfl rfl fun KK hKK => ?_; simp [go_sem, L.stepG, hr]; refine hKK _ ?_; clear hKK KK) | (refine PL.done hK ?_; clear hK) | (refine PC.skip (hK _ _ ?_); clear hK) | (refine PC.condT ?_ ?_; focus (simp [go_sem, hr]; done)) | (refine PC.condF ?_ ?_; focus (simp [go_sem, hr]; done)) | (refine PC.exit ?_; first | (refine hK _ _ ?_; clear hK) | (clear hK; refine hK _ _ ?_; clear hK) | (clear hK; clear hK; refine hK _ _ ?_; clear hK)))
    (refine PC.ret ?_; refine ⟨.inr rfl, .u (.slice none 0 0), slI [], by simp [resP, resP1, Try.results51, go_sem], View.nil _ _ _, noP_slI _, by simp [startN, hr]⟩)
  · have hR := (rightN_iff n).1 hr
    have hh := having_ok n n.first b hb (by have := rising_len2 hR.t; have := hs hR; omega) (fun x hx => hR.t.2 x hx) hnn
    rw [start_have hR] at hh
    repeat (first | (refine PC.seq fun K hK => ?_) | (refine PC.block ?_) | (refine PC.region ?_) | (refine PL.k rfl fun KK hKK => ?_; simp (disch := omega) [go_sem, stepK, hr, b1]; refine hKK _ ?_; clear hKK KK) | (refine PL.k rfl fun KK hKK => ?_; simp [go_sem, stepK, hr, b1]; refine hKK _ ?_; clear hKK KK) | (refine PL.g rfl rfl fun KK hKK => ?_; simp (disch := omega) [go_sem, L.stepG, hr, b1]; refine hKK _ ?_; clear hKK KK) | (refine PL.g rfl rfl fun KK hKK => ?_; simp [go_sem, L.stepG, hr, b1]; refine hKK _ ?_; clear hKK KK) | (refine PL.done hK ?_; clear hK) | (refine PC.skip (hK _ _ ?_); clear hK) | (refine PC.condT ?_ ?_; focus (simp [go_sem, hr, b1]; done)) | (refine PC.condF ?_ ?_; focus (simp [go_sem, hr, b1]; done)) | (refine PC.exit ?_; first | (refine hK _ _ ?_; clear hK) | (clear hK; refine hK _ _ ?_; clear hK) | (clear hK; clear hK; refine hK _ _ ?_; clear hK)))
    refine PL.callB rfl rfl (by kernel_rfl) hh (by simp [go_sem]) (by simp [go_sem]) (by simp [go_sem]) ?_
    repeat (first | (refine PC.seq fun K hK => ?_) | (refine PC.block ?_) | (refine PC.region ?_) | (refine PL.k rfl fun KK hKK => ?_; simp (disch := omega) [go_sem, stepK]; refine hKK _ ?_; clear hKK KK) | (refine PL.k rfl fun KK hKK => ?_; simp [go_sem, stepK]; refine hKK _ ?_; clear hKK KK) | (refine PL.g rfl rfl fun KK hKK => ?_; simp (disch := omega) [go_sem, L.stepG]; refine hKK _ ?_; clear hKK KK) | (refine PL.g rfl rfl fun KK hKK => ?_; simp [go_sem, L.stepG]; refine hKK _ ?_; clear hKK KK) | (refine PL.done hK ?_; clear hK) | (refine PC.skip (hK _ _ ?_); clear hK) | (refine PC.condT ?_ ?_; focus (simp [go_sem]; done)) | (refine PC.condF ?_ ?_; focus (simp [go_sem]; done)) | (refine PC.exit ?_; first | (refine hK _ _ ?_; clear hK) | (clear hK; refine hK _ _ ?_; clear hK) | (clear hK; clear hK; refine hK _ _ ?_; clear hK)))
    (refine PC.ret ?_; refine fin (.inr rfl) (by simp [resP, resP1, Try.results51, go_sem, startN, hr]) (by simp [go_sem, startN, hr]))

set_option maxRecDepth 20000 in
set_option maxHeartbeats 1000000 in
theorem refStart_ok (n : Net) (b : Nat) (hb : b < 256) (hn : Nb n) (hs : NetR n → n.sets.length ≤ 1000) : PCall Try.prog 52 [netV n, U8 b] (· = slI (startN n b)) := by
  refine PCall.intro' Try.func52 rfl Try.ntmps52 (by simp) fun W => ?_
  refine PC.seq fun K hK => ?_
  refine PC.region ?_
  refine PL.boxA 1 (d := 2) rfl rfl rfl (by simp) (v := netV n) (by simp [go_sem]) (by simp [go_sem, okC]) rfl fun v H1 b1 o1 => ?_
  have b1 := netBox b1
  repeat (first | (refine PC.seq fun K hK => ?_) | (refine PC.block ?_) | (refine PC.region ?_) | (refine PL.k rfl fun KK hKK => ?_; simp (disch := omega) [go_sem, stepK, b1]; refine hKK _ ?_; clear hKK KK) | (refine PL.k rfl fun KK hKK => ?_; simp [go_sem, stepK, b1]; refine hKK _ ?_; clear hKK KK) | (refine PL.g rfl rfl fun KK hKK => ?_; simp (disch := omega) [go_sem, L.stepG, b1]; refine hKK _ ?_; clear hKK KK) | (refine PL.g rfl rfl fun KK hKK => ?_; simp [go_sem, L.stepG, b1]; refine hKK _ ?_; clear hKK KK) | (refine PL.done hK ?_; clear hK) | (refine PC.skip (hK _ _ ?_); clear hK) | (refine PC.condT ?_ ?_; focus (simp [go_sem, b1]; done)) | (refine PC.condF ?_ ?_; focus (simp [go_sem, b1]; done)) | (refine PC.exit ?_; first | (refine hK _ _ ?_; clear hK) | (clear hK; refine hK _ _ ?_; clear hK) | (clear hK; clear hK; refine hK _ _ ?_; clear hK)))
  refine PL.callB rfl rfl (by kernel_rfl) (refRight_ok n hn) (by simp [go_sem]) (by simp [go_sem]) (by simp [go_sem]) ?_
  cases hr : rightN n
  · repeat (first | (refine PC.seq fun K hK => ?_) | (refine PC.block ?_) | (refine PC.region ?_) | (refine PL.k rfl fun KK hKK => ?_; simp (disch := omega) [go_sem, stepK, hr]; refine hKK _ ?_; clear hKK KK) | (refine PL.k rfl fun KK hKK => ?_; simp [go_sem, stepK, hr]; refine hKK _ ?_; clear hKK KK) | (refine PL.g rfl rfl fun KK hKK => ?_; simp (disch := omega) [go_sem, L.stepG, hr]; refine hKK _ ?_; clear hKK KK) | (refine PL.g rfl rfl fun KK hKK => ?_; simp [go_sem, L.stepG, hr]; refine hKK _ ?_; clear hKK KK) | (refine PL.done hK ?_; clear hK) | (refine PC.skip (hK _ _ ?_); clear hK) | (refine PC.condT ?_ ?_; focus (simp [go_sem, hr]; done)) | (refine PC.condF ?_ ?_; focus (simp [go_sem, hr]; done)) | (refine PC.exit ?_; first | (refine hK _ _ ?_; clear hK) | (clear hK; refine hK _ _ ?_; clear hK) | (clear hK; clear hK; refine hK _ _ ?_; clear hK)))
    refine PL.buildSliceR (d := 8) rfl rfl rfl (by simp) selem_30 rfl (by omega) (ips := []) (by simp [go_sem]) (by simp [litOk]) (ps := []) rfl ?_
    repeat (first | (refine PC.seq fun K hK => ?_) | (refine PC.block ?_) | (refine PC.region ?_) | (refine PL.k rfl fun KK hKK => ?_; simp (disch := omega) [go_sem, stepK]; refine hKK _ ?_; clear hKK KK) | (refine PL.k rfl fun KK hKK => ?_; simp [go_sem, stepK]; refine hKK _ ?_; clear hKK KK) | (refine PL.g rfl rfl fun KK hKK => ?_; simp (disch := omega) [go_sem, L.stepG]; refine hKK _ ?_; clear hKK KK) | (refine PL.g rfl rfl fun KK hKK => ?_; simp [go_sem, L.stepG]; refine hKK _ ?_; clear hKK KK) | (refine PL.done hK ?_; clear hK) | (refine PC.skip (hK _ _ ?_); clear hK) | (refine PC.condT ?_ ?_; focus (simp [go_sem]; done)) | (refine PC.condF ?_ ?_; focus (simp [go_sem]; done)) | (refine PC.exit ?_; first | (refine hK _ _ ?_; clear hK) | (clear hK; refine hK _ _ ?_; clear hK) | (clear hK; clear hK; refine hK _ _ ?_; clear hK)))
    (refine PC.ret ?_; refine fin (.inr rfl) (by simp [resP, resP1, Try.results52, go_sem, startN, hr, slI]) (by simp [go_sem, startN, hr, slI]))
  · have hR := (rightN_iff n).1 hr
    repeat (first | (refine PC.seq fun K hK => ?_) | (refine PC.block ?_) | (refine PC.region ?_) | (refine PL.k rfl fun KK hKK => ?_; simp (disch := omega) [go_sem, stepK, hr, b1]; refine hKK _ ?_; clear hKK KK) | (refine PL.k rfl fun KK hKK => ?_; simp [go_sem, stepK, hr, b1]; refine hKK _ ?_; clear hKK KK) | (refine PL.g rfl rfl fun KK hKK => ?_; simp (disch := omega) [go_sem, L.stepG, hr, b1]; refine hKK _ ?_; clear hKK KK) | (refine PL.g rfl rfl fun KK hKK => ?_; simp [go_sem, L.stepG, hr, b1]; refine hKK _ ?_; clear hKK KK) | (refine PL.done hK ?_; clear hK) | (refine PC.skip (hK _ _ ?_); clear hK) | (refine PC.condT ?_ ?_; focus (simp [go_sem, hr, b1]; done)) | (refine PC.condF ?_ ?_; focus (simp [go_sem, hr, b1]; done)) | (refine PC.exit ?_; first | (refine hK _ _ ?_; clear hK) | (clear hK; refine hK _ _ ?_; clear hK) | (clear hK; clear hK; refine hK _ _ ?_; clear hK)))
    refine PL.callB rfl rfl (by kernel_rfl) (with_ok n n.first b hb (by have := rising_len2 hR.t; have := hs hR; omega) (by have := hs hR; omega)) (by simp [go_sem]) (by simp [go_sem]) (by simp [go_sem]) ?_
    repeat (first | (refine PC.seq fun K hK => ?_) | (refine PC.block ?_) | (refine PC.region ?_) | (refine PL.k rfl fun KK hKK => ?_; simp (disch := omega) [go_sem, stepK]; refine hKK _ ?_; clear hKK KK) | (refine PL.k rfl fun KK hKK => ?_; simp [go_sem, stepK]; refine hKK _ ?_; clear hKK KK) | (refine PL.g rfl rfl fun KK hKK => ?_; simp (disch := omega) [go_sem, L.stepG]; refine hKK _ ?_; clear hKK KK) | (refine PL.g rfl rfl fun KK hKK => ?_; simp [go_sem, L.stepG]; refine hKK _ ?_; clear hKK KK) | (refine PL.done hK ?_; clear hK) | (refine PC.skip (hK _ _ ?_); clear hK) | (refine PC.condT ?_ ?_; focus (simp [go_sem]; done)) | (refine PC.condF ?_ ?_; focus (simp [go_sem]; done)) | (refine PC.exit ?_; first | (refine hK _ _ ?_; clear hK) | (clear hK; refine hK _ _ ?_; clear hK) | (clear hK; clear hK; refine hK _ _ ?_; clear hK)))
    (refine PC.ret ?_; refine fin (.inr rfl) (by simp [resP, resP1, Try.results52, go_sem, startN, hr]) (by simp [go_sem, startN, hr]))

set_option maxRecDepth 20000 in
set_option maxHeartbeats 1000000 in
theorem fuseStep_ok (n : Net) (at_ : List Int) (b : Nat) (hb : b < 256) (hl : at_.length ≤ 1000000) (hn : Nb n) (hs : NetR n → n.sets.length ≤ 1000) (hnn : ∀ x ∈ n.sets, x.nn) : PCall Try.prog 53 [netV n, slI at_, U8 b] (· = slI (stepN n at_ b)) := by
  refine PCall.intro' Try.func53 rfl Try.ntmps53 (by simp) fun W => ?_
  refine PC.seq fun K hK => ?_
  refine PC.region ?_
  refine PL.boxA 1 (d := 3) rfl rfl rfl (by simp) (v := netV n) (by simp [go_sem]) (by simp [go_sem, okC]) rfl fun v H1 b1 o1 => ?_
  have b1 := netBox b1
  repeat (first | (refine PC.seq fun K hK => ?_) | (refine PC.block ?_) | (refine PC.region ?_) | (refine PL.k rfl fun KK hKK => ?_; simp (disch := omega) [go_sem, stepK, b1]; refine hKK _ ?_; clear hKK KK) | (refine PL.k rfl fun KK hKK => ?_; simp [go_sem, stepK, b1]; refine hKK _ ?_; clear hKK KK) | (refine PL.g rfl rfl fun KK hKK => ?_; simp (disch := omega) [go_sem, L.stepG, b1]; refine hKK _ ?_; clear hKK KK) | (refine PL.g rfl rfl fun KK hKK => ?_; simp [go_sem, L.stepG, b1]; refine hKK _ ?_; clear hKK KK) | (refine PL.done hK ?_; clear hK) | (refine PC.skip (hK _ _ ?_); clear hK) | (refine PC.condT ?_ ?_; focus (simp [go_sem, b1]; done)) | (refine PC.condF ?_ ?_; focus (simp [go_sem, b1]; done)) | (refine PC.exit ?_; first | (refine hK _ _ ?_; clear hK) | (clear hK; refine hK _ _ ?_; clear hK) | (clear hK; clear hK; refine hK _ _ ?_; clear hK)))
  refine PL.callB rfl rfl (by kernel_rfl) (fuseRight_ok n hn) (by simp [go_sem]) (by simp [go_sem]) (by simp [go_sem]) ?_
  cases hr : rightN n
  · repeat (first | (refine PC.seq fun K hK => ?_) | (refine PC.block ?_) | (refine PC.region ?_) | (refine PL.k rfl fun KK hKK => ?_; simp (disch := omega) [go_sem, stepK, hr]; refine hKK _ ?_; clear hKK KK) | (refine PL.k rfl fun KK hKK => ?_; simp [go_sem, stepK, hr]; refine hKK _ ?_; clear hKK KK) | (refine PL.g rfl rfl fun KK hKK => ?_; simp (disch := omega) [go_sem, L.stepG, hr]; refine hKK _ ?_; clear hKK KK) | (refine PL.g rfl rfl fun KK hKK => ?_; simp [go_sem, L.stepG, hr]; refine hKK _ ?_; clear hKK KK) | (refine PL.done hK ?_; clear hK) | (refine PC.skip (hK _ _ ?_); clear hK) | (refine PC.condT ?_ ?_; focus (simp [go_sem, hr]; done)) | (refine PC.condF ?_ ?_; focus (simp [go_sem, hr]; done)) | (refine PC.exit ?_; first | (refine hK _ _ ?_; clear hK) | (clear hK; refine hK _ _ ?_; clear hK) | (clear hK; clear hK; refine hK _ _ ?_; clear hK)))
    (refine PC.ret ?_; refine ⟨.inr rfl, .u (.slice none 0 0), slI [], by simp [resP, resP1, Try.results53, go_sem], View.nil _ _ _, noP_slI _, by simp [stepN, hr]⟩)
  · have hR := (rightN_iff n).1 hr
    repeat (first | (refine PC.seq fun K hK => ?_) | (refine PC.block ?_) | (refine PC.region ?_) | (refine PL.k rfl fun KK hKK => ?_; simp (disch := omega) [go_sem, stepK, hr, b1]; refine hKK _ ?_; clear hKK KK) | (refine PL.k rfl fun KK hKK => ?_; simp [go_sem, stepK, hr, b1]; refine hKK _ ?_; clear hKK KK) | (refine PL.g rfl rfl fun KK hKK => ?_; simp (disch := omega) [go_sem, L.stepG, hr, b1]; refine hKK _ ?_; clear hKK KK) | (refine PL.g rfl rfl fun KK hKK => ?_; simp [go_sem, L.stepG, hr, b1]; refine hKK _ ?_; clear hKK KK) | (refine PL.done hK ?_; clear hK) | (refine PC.skip (hK _ _ ?_); clear hK) | (refine PC.condT ?_ ?_; focus (simp [go_sem, hr, b1]; done)) | (refine PC.condF ?_ ?_; focus (simp [go_sem, hr, b1]; done)) | (refine PC.exit ?_; first | (refine hK _ _ ?_; clear hK) | (clear hK; refine hK _ _ ?_; clear hK) | (clear hK; clear hK; refine hK _ _ ?_; clear hK)))
    refine PL.callB rfl rfl (by kernel_rfl) (on_ok n at_ b hb hl (hs hR) hR hnn) (by simp [go_sem]) (by simp [go_sem]) (by simp [go_sem]) ?_
    repeat (first | (refine PC.seq fun K hK => ?_) | (refine PC.block ?_) | (refine PC.region ?_) | (refine PL.k rfl fun KK hKK => ?_; simp (disch := omega) [go_sem, stepK]; refine hKK _ ?_; clear hKK KK) | (refine PL.k rfl fun KK hKK => ?_; simp [go_sem, stepK]; refine hKK _ ?_; clear hKK KK) | (refine PL.g rfl rfl fun KK hKK => ?_; simp (disch := omega) [go_sem, L.stepG]; refine hKK _ ?_; clear hKK KK) | (refine PL.g rfl rfl fun KK hKK => ?_; simp [go_sem, L.stepG]; refine hKK _ ?_; clear hKK KK) | (refine PL.done hK ?_; clear hK) | (refine PC.skip (hK _ _ ?_); clear hK) | (refine PC.condT ?_ ?_; focus (simp [go_sem]; done)) | (refine PC.condF ?_ ?_; focus (simp [go_sem]; done)) | (refine PC.exit ?_; first | (refine hK _ _ ?_; clear hK) | (clear hK; refine hK _ _ ?_; clear hK) | (clear hK; clear hK; refine hK _ _ ?_; clear hK)))
    (refine PC.ret ?_; refine fin (.inr rfl) (by simp [resP, resP1, Try.results53, go_sem, stepN, hr]) (by simp [go_sem, stepN, hr]))

set_option maxRecDepth 20000 in
set_option maxHeartbeats 4000000 in
theorem refStep_ok (n : Net) (at_ : List Int) (b : Nat) (hb : b < 256) (hl : at_.length ≤ 1000) (hn : Nb n) (hs : NetR n → n.sets.length ≤ 1000) : PCall Try.prog 54 [netV n, slI at_, U8 b] (· = slI (stepN n at_ b)) := by
  refine PCall.intro' Try.func54 rfl Try.ntmps54 (by simp) fun W => ?_
  refine PC.seq fun K hK => ?_
  refine PC.region ?_
  refine PL.boxA 1 (d := 3) rfl rfl rfl (by simp) (v := netV n) (by simp [go_sem]) (by simp [go_sem, okC]) rfl fun v H1 b1 o1 => ?_
  have b1 := netBox b1
  repeat (first | (refine PC.seq fun K hK => ?_) | (refine PC.block ?_) | (refine PC.region ?_) | (refine PL.k rfl fun KK hKK => ?_; simp (disch := omega) [go_sem, stepK, b1]; refine hKK _ ?_; clear hKK KK) | (refine PL.k rfl fun KK hKK => ?_; simp [go_sem, stepK, b1]; refine hKK _ ?_; clear hKK KK) | (refine PL.g rfl rfl fun KK hKK => ?_; simp (disch := omega) [go_sem, L.stepG, b1]; refine hKK _ ?_; clear hKK KK) | (refine PL.g rfl rfl fun KK hKK => ?_; simp [go_sem, L.stepG, b1]; refine hKK _ ?_; clear hKK KK) | (refine PL.done hK ?_; clear hK) | (refine PC.skip (hK _ _ ?_); clear hK) | (refine PC.condT ?_ ?_; focus (simp [go_sem, b1]; done)) | (refine PC.condF ?_ ?_; focus (simp [go_sem, b1]; done)) | (refine PC.exit ?_; first | (refine hK _ _ ?_; clear hK) | (clear hK; refine hK _ _ ?_; clear hK) | (clear hK; clear hK; refine hK _ _ ?_; clear hK)))
  refine PL.buildSliceA 60 (d := 9) rfl rfl rfl (by simp) selem_30 rfl (by omega) (by unfold maxLen; omega) (ips := []) (by simp [go_sem]) (by simp [litOk]) (cs := []) rfl fun v0 H0 b0 o0 => ?_
  have b2 := (o0 1 (by omega)).trans b1
  repeat (first | (refine PC.seq fun K hK => ?_) | (refine PC.block ?_) | (refine PC.region ?_) | (refine PL.k rfl fun KK hKK => ?_; simp (disch := omega) [go_sem, stepK, b2]; refine hKK _ ?_; clear hKK KK) | (refine PL.k rfl fun KK hKK => ?_; simp [go_sem, stepK, b2]; refine hKK _ ?_; clear hKK KK) | (refine PL.g rfl rfl fun KK hKK => ?_; simp (disch := omega) [go_sem, L.stepG, b2]; refine hKK _ ?_; clear hKK KK) | (refine PL.g rfl rfl fun KK hKK => ?_; simp [go_sem, L.stepG, b2]; refine hKK _ ?_; clear hKK KK) | (refine PL.done hK ?_; clear hK) | (refine PC.skip (hK _ _ ?_); clear hK) | (refine PC.condT ?_ ?_; focus (simp [go_sem, b2]; done)) | (refine PC.condF ?_ ?_; focus (simp [go_sem, b2]; done)) | (refine PC.exit ?_; first | (refine hK _ _ ?_; clear hK) | (clear hK; refine hK _ _ ?_; clear hK) | (clear hK; clear hK; refine hK _ _ ?_; clear hK)))
  refine PL.callB rfl rfl (by kernel_rfl) (refRight_ok n hn) (by simp [go_sem]) (by simp [go_sem]) (by simp [go_sem]) ?_
  cases hr : rightN n
  · repeat (first | (refine PC.seq fun K hK => ?_) | (refine PC.block ?_) | (refine PC.region ?_) | (refine PL.k rfl fun KK hKK => ?_; simp (disch := omega) [go_sem, stepK, hr]; refine hKK _ ?_; clear hKK KK) | (refine PL.k rfl fun KK hKK => ?_; simp [go_sem, stepK, hr]; refine hKK _ ?_; clear hKK KK) | (refine PL.g rfl rfl fun KK hKK => ?_; simp (disch := omega) [go_sem, L.stepG, hr]; refine hKK _ ?_; clear hKK KK) | (refine PL.g rfl rfl fun KK hKK => ?_; simp [go_sem, L.stepG, hr]; refine hKK _ ?_; clear hKK KK) | (refine PL.done hK ?_; clear hK) | (refine PC.skip (hK _ _ ?_); clear hK) | (refine PC.condT ?_ ?_; focus (simp [go_sem, hr]; done)) | (refine PC.condF ?_ ?_; focus (simp [go_sem, hr]; done)) | (refine PC.exit ?_; first | (refine hK _ _ ?_; clear hK) | (clear hK; refine hK _ _ ?_; clear hK) | (clear hK; clear hK; refine hK _ _ ?_; clear hK)))
    refine PC.ret ?_
    refine ⟨.inr rfl, .ps 60 v0, slI [], by simp [resP, resP1, Try.results54, go_sem], ownI.view (l := []) b0, noP_slI _, by simp [stepN, hr]⟩
  have hR := (rightN_iff n).1 hr
  have hs := hs hR
  have hfe : ∀ x ∈ n.follow, x.length ≤ 1000 := fun x hx => by have := rising_len2 (hR.fe x hx); omega
  repeat (first | (refine PC.seq fun K hK => ?_) | (refine PC.block ?_) | (refine PC.region ?_) | (refine PL.k rfl fun KK hKK => ?_; simp (disch := omega) [go_sem, stepK, hr]; refine hKK _ ?_; clear hKK KK) | (refine PL.k rfl fun KK hKK => ?_; simp [go_sem, stepK, hr]; refine hKK _ ?_; clear hKK KK) | (refine PL.g rfl rfl fun KK hKK => ?_; simp (disch := omega) [go_sem, L.stepG, hr]; refine hKK _ ?_; clear hKK KK) | (refine PL.g rfl rfl fun KK hKK => ?_; simp [go_sem, L.stepG, hr]; refine hKK _ ?_; clear hKK KK) | (refine PL.done hK ?_; clear hK) | (refine PC.skip (hK _ _ ?_); clear hK) | (refine PC.condT ?_ ?_; focus (simp [go_sem, hr]; done)) | (refine PC.condF ?_ ?_; focus (simp [go_sem, hr]; done)) | (refine PC.exit ?_; first | (refine hK _ _ ?_; clear hK) | (clear hK; refine hK _ _ ?_; clear hK) | (clear hK; clear hK; refine hK _ _ ?_; clear hK)))
  refine PC.loop (fun m F H' => ∃ (k : Nat) (q : PV), k ≤ at_.length ∧ m = at_.length - k ∧ F 1 = slI at_ ∧ F 2 = U8 b ∧ F 3 = .pp 1 0 v ∧ F 7 = q ∧ F 8 = I k ∧ H' 1 = H1 1 ∧ ownIs H' 60 q (allR n (at_.take k))) (m := at_.length) ⟨0, .ps 60 v0, by omega, by omega, by simp [go_sem], by simp [go_sem], by simp [go_sem], by simp [go_sem], by simp [go_sem], o0 1 (by omega), OwnS.row b0 rfl⟩ fun m F H' hI => ?_
  obtain ⟨k, q, hk, hm, f1, f2, f3, f7, f8, hH, hO⟩ := hI
  have b3 := hH.trans b1
  by_cases hlt : k < at_.length
  · have hlt' : (k : Int) < at_.length := by omega
    have hsucc : allR n (at_.take (k + 1)) = allR n (at_.take k) ++ folN n at_[k] := by
      unfold allR; rw [List.take_succ_eq_append_getElem hlt, List.flatMap_append]; simp
    have hlen : (allR n (at_.take k)).length ≤ 1000000 := by
      have h1 := flat_len (N := 1000) (at_.take k) (folN n) fun i => by
        unfold folN
        split
        · rw [List.getD_eq_getElem?_getD]
          cases h : n.follow[i.toNat]? with
          | none => simp
          | some y => exact hfe y (List.mem_of_getElem? h)
        · simp
      have h2 : (at_.take k).length ≤ 1000 := by rw [List.length_take]; omega
      have h3 := Nat.mul_le_mul_right 1000 h2
      unfold allR
      omega
    obtain ⟨x, ex⟩ : ∃ x, at_[k] = x := ⟨_, rfl⟩
    rw [ex] at hsucc
    by_cases h0 : 0 ≤ x
    · by_cases h1 : x < n.sets.length
      · have hfl : x.toNat < n.follow.length := by have := hR.f; omega
        obtain ⟨y, ey⟩ : ∃ y, n.follow[x.toNat] = y := ⟨_, rfl⟩
        have hfy : folN n x = y := by unfold folN; rw [if_pos ⟨h0, h1⟩]; simp [List.getD, hfl, ey]
        rw [hfy] at hsucc
        have l2 := hfe y (ey ▸ List.getElem_mem hfl)
        repeat (first | (refine PC.seq fun K hK => ?_) | (refine PC.block ?_) | (refine PC.region ?_) | (refine PL.k rfl fun KK hKK => ?_; simp (disch := omega) [go_sem, stepK, f1, f8, hlt']; refine hKK _ ?_; clear hKK KK) | (refine PL.k rfl fun KK hKK => ?_; simp [go_sem, stepK, f1, f8, hlt']; refine hKK _ ?_; clear hKK KK) | (refine PL.g rfl rfl fun KK hKK => ?_; simp (disch := omega) [go_sem, L.stepG, f1, f8, hlt']; refine hKK _ ?_; clear hKK KK) | (refine PL.g rfl rfl fun KK hKK => ?_; simp [go_sem, L.stepG, f1, f8, hlt']; refine hKK _ ?_; clear hKK KK) | (refine PL.done hK ?_; clear hK) | (refine PC.skip (hK _ _ ?_); clear hK) | (refine PC.condT ?_ ?_; focus (simp [go_sem, f1, f8, hlt']; done)) | (refine PC.condF ?_ ?_; focus (simp [go_sem, f1, f8, hlt']; done)) | (refine PC.exit ?_; first | (refine hK _ _ ?_; clear hK) | (clear hK; refine hK _ _ ?_; clear hK) | (clear hK; clear hK; refine hK _ _ ?_; clear hK)))
        refine PC.regionQ mixed (by kernel_rfl) ?_
        repeat (first | (refine QF.k rfl fun KK hKK => ?_; simp (disch := omega) [go_sem, stepK, f1, f3, f8, hlt, hlt', ex, b3, h0, h1]; refine hKK _ ?_; clear hKK KK) | (refine QF.k rfl fun KK hKK => ?_; simp [go_sem, stepK, f1, f3, f8, hlt, hlt', ex, b3, h0, h1]; refine hKK _ ?_; clear hKK KK) | (refine QF.g rfl rfl fun KK hKK => ?_; simp (disch := omega) [go_sem, L.stepG, f1, f3, f8, hlt, hlt', ex, b3, h0, h1]; refine hKK _ ?_; clear hKK KK) | (refine QF.g rfl rfl fun KK hKK => ?_; simp [go_sem, L.stepG, f1, f3, f8, hlt, hlt', ex, b3, h0, h1]; refine hKK _ ?_; clear hKK KK))
        refine QF.done hK ?_; clear hK
        repeat (first | (refine PC.seq fun K hK => ?_) | (refine PC.block ?_) | (refine PC.region ?_) | (refine PL.k rfl fun KK hKK => ?_; simp (disch := omega) [go_sem, stepK]; refine hKK _ ?_; clear hKK KK) | (refine PL.k rfl fun KK hKK => ?_; simp [go_sem, stepK]; refine hKK _ ?_; clear hKK KK) | (refine PL.g rfl rfl fun KK hKK => ?_; simp (disch := omega) [go_sem, L.stepG]; refine hKK _ ?_; clear hKK KK) | (refine PL.g rfl rfl fun KK hKK => ?_; simp [go_sem, L.stepG]; refine hKK _ ?_; clear hKK KK) | (refine PL.done hK ?_; clear hK) | (refine PC.skip (hK _ _ ?_); clear hK) | (refine PC.condT ?_ ?_; focus (simp [go_sem]; done)) | (refine PC.condF ?_ ?_; focus (simp [go_sem]; done)) | (refine PC.exit ?_; first | (refine hK _ _ ?_; clear hK) | (clear hK; refine hK _ _ ?_; clear hK) | (clear hK; clear hK; refine hK _ _ ?_; clear hK)))
        refine PC.regionT 9 mixed (by kernel_rfl) ?_
        repeat (first | (refine QF.k rfl fun KK hKK => ?_; simp (disch := omega) [go_sem, stepK, f1, f3, f7, f8, hlt, hlt', ex, b3, h0, h1, hfl, ey]; refine hKK _ ?_; clear hKK KK) | (refine QF.k rfl fun KK hKK => ?_; simp [go_sem, stepK, f1, f3, f7, f8, hlt, hlt', ex, b3, h0, h1, hfl, ey]; refine hKK _ ?_; clear hKK KK) | (refine QF.g rfl rfl fun KK hKK => ?_; simp (disch := omega) [go_sem, L.stepG, f1, f3, f7, f8, hlt, hlt', ex, b3, h0, h1, hfl, ey]; refine hKK _ ?_; clear hKK KK) | (refine QF.g rfl rfl fun KK hKK => ?_; simp [go_sem, L.stepG, f1, f3, f7, f8, hlt, hlt', ex, b3, h0, h1, hfl, ey]; refine hKK _ ?_; clear hKK KK))
        refine QF.nil ?_
        refine PL.appendL (d := 44) (xs := allR n (at_.take k)) (ys := y) rfl rfl rfl (by simp) selem_30 (by simp [go_sem]) hO (by simp [go_sem]; rfl) (fun _ => rfl) (fun x c hc => by simp [PV.cells] at hc; subst hc; rfl) (by simp [maxLen]; omega) (by omega) fun q2 H2 b4 o4 => ?_
        repeat (first | (refine PC.seq fun K hK => ?_) | (refine PC.block ?_) | (refine PC.region ?_) | (refine PL.k rfl fun KK hKK => ?_; simp (disch := omega) [go_sem, stepK, f8]; refine hKK _ ?_; clear hKK KK) | (refine PL.k rfl fun KK hKK => ?_; simp [go_sem, stepK, f8]; refine hKK _ ?_; clear hKK KK) | (refine PL.g rfl rfl fun KK hKK => ?_; simp (disch := omega) [go_sem, L.stepG, f8]; refine hKK _ ?_; clear hKK KK) | (refine PL.g rfl rfl fun KK hKK => ?_; simp [go_sem, L.stepG, f8]; refine hKK _ ?_; clear hKK KK) | (refine PL.done hK ?_; clear hK) | (refine PC.skip (hK _ _ ?_); clear hK) | (refine PC.condT ?_ ?_; focus (simp [go_sem, f8]; done)) | (refine PC.condF ?_ ?_; focus (simp [go_sem, f8]; done)) | (refine PC.exit ?_; first | (refine hK _ _ ?_; clear hK) | (clear hK; refine hK _ _ ?_; clear hK) | (clear hK; clear hK; refine hK _ _ ?_; clear hK)))
        refine PL.nil ⟨at_.length - (k + 1), by omega, k + 1, q2, by omega, by omega, by simp [go_sem, f1], by simp [go_sem, f2], by simp [go_sem, f3], by simp [go_sem], by simp [go_sem], (o4 1 (by omega)).trans hH, ?_⟩
        rw [hsucc]; exact b4
      · have hfx : folN n x = [] := by unfold folN; rw [if_neg (by omega)]
        rw [hfx, List.append_nil] at hsucc
        repeat (first | (refine PC.seq fun K hK => ?_) | (refine PC.block ?_) | (refine PC.region ?_) | (refine PL.k rfl fun KK hKK => ?_; simp (disch := omega) [go_sem, stepK, f1, f8, hlt']; refine hKK _ ?_; clear hKK KK) | (refine PL.k rfl fun KK hKK => ?_; simp [go_sem, stepK, f1, f8, hlt']; refine hKK _ ?_; clear hKK KK) | (refine PL.g rfl rfl fun KK hKK => ?_; simp (disch := omega) [go_sem, L.stepG, f1, f8, hlt']; refine hKK _ ?_; clear hKK KK) | (refine PL.g rfl rfl fun KK hKK => ?_; simp [go_sem, L.stepG, f1, f8, hlt']; refine hKK _ ?_; clear hKK KK) | (refine PL.done hK ?_; clear hK) | (refine PC.skip (hK _ _ ?_); clear hK) | (refine PC.condT ?_ ?_; focus (simp [go_sem, f1, f8, hlt']; done)) | (refine PC.condF ?_ ?_; focus (simp [go_sem, f1, f8, hlt']; done)) | (refine PC.exit ?_; first | (refine hK _ _ ?_; clear hK) | (clear hK; refine hK _ _ ?_; clear hK) | (clear hK; clear hK; refine hK _ _ ?_; clear hK)))
        refine PC.regionQ mixed (by kernel_rfl) ?_
        repeat (first | (refine QF.k rfl fun KK hKK => ?_; simp (disch := omega) [go_sem, stepK, f1, f3, f8, hlt, hlt', ex, b3, h0, h1]; refine hKK _ ?_; clear hKK KK) | (refine QF.k rfl fun KK hKK => ?_; simp [go_sem, stepK, f1, f3, f8, hlt, hlt', ex, b3, h0, h1]; refine hKK _ ?_; clear hKK KK) | (refine QF.g rfl rfl fun KK hKK => ?_; simp (disch := omega) [go_sem, L.stepG, f1, f3, f8, hlt, hlt', ex, b3, h0, h1]; refine hKK _ ?_; clear hKK KK) | (refine QF.g rfl rfl fun KK hKK => ?_; simp [go_sem, L.stepG, f1, f3, f8, hlt, hlt', ex, b3, h0, h1]; refine hKK _ ?_; clear hKK KK))
        refine QF.done hK ?_; clear hK
        repeat (first | (refine PC.seq fun K hK => ?_) | (refine PC.block ?_) | (refine PC.region ?_) | (refine PL.k rfl fun KK hKK => ?_; simp (disch := omega) [go_sem, stepK, f8]; refine hKK _ ?_; clear hKK KK) | (refine PL.k rfl fun KK hKK => ?_; simp [go_sem, stepK, f8]; refine hKK _ ?_; clear hKK KK) | (refine PL.g rfl rfl fun KK hKK => ?_; simp (disch := omega) [go_sem, L.stepG, f8]; refine hKK _ ?_; clear hKK KK) | (refine PL.g rfl rfl fun KK hKK => ?_; simp [go_sem, L.stepG, f8]; refine hKK _ ?_; clear hKK KK) | (refine PL.done hK ?_; clear hK) | (refine PC.skip (hK _ _ ?_); clear hK) | (refine PC.condT ?_ ?_; focus (simp [go_sem, f8]; done)) | (refine PC.condF ?_ ?_; focus (simp [go_sem, f8]; done)) | (refine PC.exit ?_; first | (refine hK _ _ ?_; clear hK) | (clear hK; refine hK _ _ ?_; clear hK) | (clear hK; clear hK; refine hK _ _ ?_; clear hK)))
        refine PL.nil ⟨at_.length - (k + 1), by omega, k + 1, q, by omega, by omega, by simp [go_sem, f1], by simp [go_sem, f2], by simp [go_sem, f3], by simp [go_sem, f7], by simp [go_sem], hH, ?_⟩
        rw [hsucc]; exact hO
    · have hfx : folN n x = [] := by unfold folN; rw [if_neg (by omega)]
      rw [hfx, List.append_nil] at hsucc
      repeat (first | (refine PC.seq fun K hK => ?_) | (refine PC.block ?_) | (refine PC.region ?_) | (refine PL.k rfl fun KK hKK => ?_; simp (disch := omega) [go_sem, stepK, f1, f8, hlt']; refine hKK _ ?_; clear hKK KK) | (refine PL.k rfl fun KK hKK => ?_; simp [go_sem, stepK, f1, f8, hlt']; refine hKK _ ?_; clear hKK KK) | (refine PL.g rfl rfl fun KK hKK => ?_; simp (disch := omega) [go_sem, L.stepG, f1, f8, hlt']; refine hKK _ ?_; clear hKK KK) | (refine PL.g rfl rfl fun KK hKK => ?_; simp [go_sem, L.stepG, f1, f8, hlt']; refine hKK _ ?_; clear hKK KK) | (refine PL.done hK ?_; clear hK) | (refine PC.skip (hK _ _ ?_); clear hK) | (refine PC.condT ?_ ?_; focus (simp [go_sem, f1, f8, hlt']; done)) | (refine PC.condF ?_ ?_; focus (simp [go_sem, f1, f8, hlt']; done)) | (refine PC.exit ?_; first | (refine hK _ _ ?_; clear hK) | (clear hK; refine hK _ _ ?_; clear hK) | (clear hK; clear hK; refine hK _ _ ?_; clear hK)))
      refine PC.regionQ mixed (by kernel_rfl) ?_
      repeat (first | (refine QF.k rfl fun KK hKK => ?_; simp (disch := omega) [go_sem, stepK, f1, f3, f8, hlt, hlt', ex, b3, h0]; refine hKK _ ?_; clear hKK KK) | (refine QF.k rfl fun KK hKK => ?_; simp [go_sem, stepK, f1, f3, f8, hlt, hlt', ex, b3, h0]; refine hKK _ ?_; clear hKK KK) | (refine QF.g rfl rfl fun KK hKK => ?_; simp (disch := omega) [go_sem, L.stepG, f1, f3, f8, hlt, hlt', ex, b3, h0]; refine hKK _ ?_; clear hKK KK) | (refine QF.g rfl rfl fun KK hKK => ?_; simp [go_sem, L.stepG, f1, f3, f8, hlt, hlt', ex, b3, h0]; refine hKK _ ?_; clear hKK KK))
      refine QF.done hK ?_; clear hK
      repeat (first | (refine PC.seq fun K hK => ?_) | (refine PC.block ?_) | (refine PC.region ?_) | (refine PL.k rfl fun KK hKK => ?_; simp (disch := omega) [go_sem, stepK, f8]; refine hKK _ ?_; clear hKK KK) | (refine PL.k rfl fun KK hKK => ?_; simp [go_sem, stepK, f8]; refine hKK _ ?_; clear hKK KK) | (refine PL.g rfl rfl fun KK hKK => ?_; simp (disch := omega) [go_sem, L.stepG, f8]; refine hKK _ ?_; clear hKK KK) | (refine PL.g rfl rfl fun KK hKK => ?_; simp [go_sem, L.stepG, f8]; refine hKK _ ?_; clear hKK KK) | (refine PL.done hK ?_; clear hK) | (refine PC.skip (hK _ _ ?_); clear hK) | (refine PC.condT ?_ ?_; focus (simp [go_sem, f8]; done)) | (refine PC.condF ?_ ?_; focus (simp [go_sem, f8]; done)) | (refine PC.exit ?_; first | (refine hK _ _ ?_; clear hK) | (clear hK; refine hK _ _ ?_; clear hK) | (clear hK; clear hK; refine hK _ _ ?_; clear hK)))
      refine PL.nil ⟨at_.length - (k + 1), by omega, k + 1, q, by omega, by omega, by simp [go_sem, f1], by simp [go_sem, f2], by simp [go_sem, f3], by simp [go_sem, f7], by simp [go_sem], hH, ?_⟩
      rw [hsucc]; exact hO
  · have hlt' : ¬ (k : Int) < at_.length := by omega
    have hke : k = at_.length := by omega
    rw [hke, List.take_length] at hO
    have hlen : (allR n at_).length ≤ 4000000 := by
      have h1 := flat_len (N := 1000) at_ (folN n) fun i => by
        unfold folN
        split
        · rw [List.getD_eq_getElem?_getD]
          cases h : n.follow[i.toNat]? with
          | none => simp
          | some y => exact hfe y (List.mem_of_getElem? h)
        · simp
      have h3 := Nat.mul_le_mul_right 1000 hl
      unfold allR
      omega
    repeat (first | (refine PC.seq fun K hK => ?_) | (refine PC.block ?_) | (refine PC.region ?_) | (refine PL.k rfl fun KK hKK => ?_; simp (disch := omega) [go_sem, stepK, f1, f2, f3, f7, f8, hlt', b3]; refine hKK _ ?_; clear hKK KK) | (refine PL.k rfl fun KK hKK => ?_; simp [go_sem, stepK, f1, f2, f3, f7, f8, hlt', b3]; refine hKK _ ?_; clear hKK KK) | (refine PL.g rfl rfl fun KK hKK => ?_; simp (disch := omega) [go_sem, L.stepG, f1, f2, f3, f7, f8, hlt', b3]; refine hKK _ ?_; clear hKK KK) | (refine PL.g rfl rfl fun KK hKK => ?_; simp [go_sem, L.stepG, f1, f2, f3, f7, f8, hlt', b3]; refine hKK _ ?_; clear hKK KK) | (refine PL.done hK ?_; clear hK) | (refine PC.skip (hK _ _ ?_); clear hK) | (refine PC.condT ?_ ?_; focus (simp [go_sem, f1, f2, f3, f7, f8, hlt', b3]; done)) | (refine PC.condF ?_ ?_; focus (simp [go_sem, f1, f2, f3, f7, f8, hlt', b3]; done)) | (refine PC.exit ?_; first | (refine hK _ _ ?_; clear hK) | (clear hK; refine hK _ _ ?_; clear hK) | (clear hK; clear hK; refine hK _ _ ?_; clear hK)))
    refine PL.freezeL 46 (rep := I) (by simp [go_sem]) hO (fun _ => rfl) fun H6 o6 => ?_
    refine PL.callB rfl rfl (by kernel_rfl) (with_ok n (allR n at_) b hb hlen (by omega)) (by simp [go_sem]) (by simp [go_sem]) (by simp [go_sem, slI]) ?_
    repeat (first | (refine PC.seq fun K hK => ?_) | (refine PC.block ?_) | (refine PC.region ?_) | (refine PL.k rfl fun KK hKK => ?_; simp (disch := omega) [go_sem, stepK]; refine hKK _ ?_; clear hKK KK) | (refine PL.k rfl fun KK hKK => ?_; simp [go_sem, stepK]; refine hKK _ ?_; clear hKK KK) | (refine PL.g rfl rfl fun KK hKK => ?_; simp (disch := omega) [go_sem, L.stepG]; refine hKK _ ?_; clear hKK KK) | (refine PL.g rfl rfl fun KK hKK => ?_; simp [go_sem, L.stepG]; refine hKK _ ?_; clear hKK KK) | (refine PL.done hK ?_; clear hK) | (refine PC.skip (hK _ _ ?_); clear hK) | (refine PC.condT ?_ ?_; focus (simp [go_sem]; done)) | (refine PC.condF ?_ ?_; focus (simp [go_sem]; done)) | (refine PC.exit ?_; first | (refine hK _ _ ?_; clear hK) | (clear hK; refine hK _ _ ?_; clear hK) | (clear hK; clear hK; refine hK _ _ ?_; clear hK)))
    (refine PC.ret ?_; refine fin (.inr rfl) (by simp [resP, resP1, Try.results54, go_sem, stepN, hr, stepW]) (by simp [go_sem, stepN, hr, stepW]))
end Go.Proofs.Ytficeeaaaijgcaa
