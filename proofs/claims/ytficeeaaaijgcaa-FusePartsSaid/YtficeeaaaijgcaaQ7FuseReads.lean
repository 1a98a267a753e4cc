/-
  Texts of this proof, put together: Ft, Row, OpX, OpN, OpT.
-/
import Derived.ProofKit
import Derived.OpenShut
import Derived.Deep.Slices
import Derived.Test.YtficeeaaaijgcaaQ6FuseReads

/-
  FuseReads, of chapter 12, over pure values.
-/
namespace Go.Proofs.Ytficeeaaaijgcaa
open Go Go.RowKit L
set_option linter.unusedVariables false
set_option linter.unusedSimpArgs false

theorem netR_of {n : Net} (h : NetR n) (x : Int) : 0 ≤ ofT n x := by
  unfold ofT
  rw [List.getD_eq_getElem?_getD]
  cases hx : n.of_[x.toNat]? with
  | none => simp
  | some y => exact h.op y (List.mem_of_getElem? hx)
theorem at_of (l : List Tok) {t : Nat} (ht : t < l.length) {i : Int} (h : 0 ≤ i ∧ i < (spSets l[t].rex).length) : ofT (fuseL l) (i + byT l t) = t ∧ okT (fuseL l) (i + byT l t) = decide (i ∈ spLast l[t].rex) := by
  have hs := spotAt l l.length (Nat.le_refl _) t ht ht i.toNat (by omega)
  have e : (i + (byT l t : Int)).toNat = byT l t + i.toNat := by omega
  have ho : (fuseL l).of_[byT l t + i.toNat]? = _ := hs.o
  have hl : (fuseL l).last[byT l t + i.toNat]? = _ := hs.l
  constructor
  · unfold ofT; rw [e, List.getD_eq_getElem?_getD, ho]; rfl
  · unfold okT
    rw [e, List.getD_eq_getElem?_getD, hl, show ((i.toNat : Nat) : Int) = i by omega]
    have := sets_lt ht h
    simp [this]
def ownT (n : Net) (at_ : List Int) (t : Int) : List Int := at_.filter fun x => decide (ofT n x = t)
theorem ownT_succ (n : Net) (at_ : List Int) (t : Int) (k : Nat) (h : k < at_.length) : ownT n (at_.take (k + 1)) t = ownT n (at_.take k) t ++ (if ofT n at_[k] = t then [at_[k]] else []) := by
  unfold ownT
  rw [List.take_succ_eq_append_getElem h, List.filter_append]
  congr 1
  by_cases h : ofT n at_[k] = t <;> simp [h]
abbrev atW (l : List Tok) (w : ByteArray) : List Int := runK (fuseL l) w w.size
theorem tok_own (l : List Tok) (w : ByteArray) (hw : 0 < w.size) (t : Nat) (ht : t < l.length) : tokK (fuseL l) (ownT (fuseL l) (atW l w) t) = t ↔ saysR l[t].rex w = true := by
  rw [says_spots _ _ hw]
  have mem : ∀ i, NowP l[t].rex w w.size i → i + (byT l t : Int) ∈ ownT (fuseL l) (atW l w) t := fun i hi => by
    unfold ownT
    rw [List.mem_filter]
    exact ⟨(run_mem l w w.size _).2 ⟨t, ht, i, hi, rfl⟩, by simpa using (at_of l ht hi.range).1⟩
  rcases tokK_spec (fuseL l) (netR_of (fuseL_R l)) (ownT (fuseL l) (atW l w) t) with ⟨h1, h2⟩ | ⟨x, hx, h1, h2, h3⟩
  · constructor
    · intro h; omega
    · rintro ⟨i, hi, hl⟩
      have := h2 _ (mem i hi)
      rw [(at_of l ht hi.range).2] at this
      simp [hl] at this
  · unfold ownT at hx
    rw [List.mem_filter] at hx
    obtain ⟨hx, ho⟩ := hx
    simp only [decide_eq_true_eq] at ho
    obtain ⟨u, hu, i, hi, rfl⟩ := (run_mem l w w.size x).1 hx
    obtain ⟨a, b⟩ := at_of l hu hi.range
    rw [a] at ho
    have hut : u = t := by omega
    subst hut
    rw [b] at h1
    simp only [decide_eq_true_eq] at h1
    constructor
    · intro _; exact ⟨i, hi, h1⟩
    · intro _; rw [h2, a]
def firstK (l : List Tok) (w : ByteArray) : Nat → Int
  | 0 => -1
  | k + 1 => if saysR (((l[k]?).map Tok.rex).getD []) w = true ∧ firstK l w k < 0 then k else firstK l w k
theorem firstK_succ (l : List Tok) (w : ByteArray) (k : Nat) (h : k < l.length) : firstK l w (k + 1) = if saysR l[k].rex w = true ∧ firstK l w k < 0 then (k : Int) else firstK l w k := by
  rw [firstK]; simp [h]
theorem firstK_spec (l : List Tok) (w : ByteArray) : ∀ k, k ≤ l.length → (firstK l w k = -1 ∧ ∀ (t : Nat) (ht : t < l.length), t < k → saysR l[t].rex w = false) ∨ ∃ (t : Nat) (ht : t < l.length), t < k ∧ firstK l w k = t ∧ saysR l[t].rex w = true ∧ ∀ (u : Nat) (hu : u < l.length), u < t → saysR l[u].rex w = false := by
  intro k
  induction k with
  | zero => intro _; left; exact ⟨rfl, fun t ht h => by omega⟩
  | succ k ih =>
    intro hk
    rw [firstK_succ l w k (by omega)]
    rcases ih (by omega) with ⟨h1, h2⟩ | ⟨t, ht, h1, h2, h3, h4⟩
    · cases hs : saysR l[k].rex w
      · left
        refine ⟨by rw [if_neg (by simp)]; exact h1, fun t ht h => ?_⟩
        by_cases e : t = k
        · subst e; exact hs
        · exact h2 t ht (by omega)
      · right
        exact ⟨k, by omega, by omega, by rw [if_pos ⟨rfl, by omega⟩], hs, fun u hu h => h2 u hu h⟩
    · right
      exact ⟨t, ht, by omega, by rw [if_neg (by omega)]; exact h2, h3, h4⟩
theorem tok_all (l : List Tok) (w : ByteArray) (hw : 0 < w.size) : tokK (fuseL l) (atW l w) = firstK l w l.length := by
  have mem : ∀ (t : Nat) (ht : t < l.length), saysR l[t].rex w = true → ∃ y ∈ atW l w, okT (fuseL l) y = true ∧ ofT (fuseL l) y = t := fun t ht h => by
    obtain ⟨i, hi, hl⟩ := (says_spots _ _ hw).1 h
    obtain ⟨a, b⟩ := at_of l ht hi.range
    exact ⟨_, (run_mem l w w.size _).2 ⟨t, ht, i, hi, rfl⟩, by rw [b]; simpa using hl, a⟩
  rcases tokK_spec (fuseL l) (netR_of (fuseL_R l)) (atW l w) with ⟨h1, h2⟩ | ⟨x, hx, h1, h2, h3⟩
  · rcases firstK_spec l w l.length (Nat.le_refl _) with ⟨h4, _⟩ | ⟨t, ht, _, h4, h5, _⟩
    · omega
    · obtain ⟨y, hy, hok, _⟩ := mem t ht h5
      rw [h2 y hy] at hok
      cases hok
  · obtain ⟨u, hu, i, hi, rfl⟩ := (run_mem l w w.size x).1 hx
    obtain ⟨a, b⟩ := at_of l hu hi.range
    rw [b] at h1
    simp only [decide_eq_true_eq] at h1
    have hsay : saysR l[u].rex w = true := (says_spots _ _ hw).2 ⟨i, hi, h1⟩
    rcases firstK_spec l w l.length (Nat.le_refl _) with ⟨_, h5⟩ | ⟨t, ht, _, h4, h5, h6⟩
    · rw [h5 u hu hu] at hsay; cases hsay
    · obtain ⟨y, hy, hok, hof⟩ := mem t ht h5
      have := h3 y hy hok
      rw [a, hof] at this
      have : ¬ u < t := fun h => by rw [h6 u hu h] at hsay; cases hsay
      rw [h2, a, h4]
      omega

/-! whether any steps say a word -/
set_option maxRecDepth 20000 in
set_option maxHeartbeats 2000000 in
theorem Ends_bad (l : List Rx) (h : checkL l ≠ 0) (w : ByteArray) : PCall Try.prog 64 [slX l, S w, I 0] (· = slI []) := by
  refine PCall.intro' Try.func64 rfl Try.ntmps64 (by simp) fun W => ?_
  repeat (first | (refine PC.seq fun K hK => ?_) | (refine PC.block ?_) | (refine PC.region ?_) | (refine PL.k rfl fun KK hKK => ?_; simp (disch := omega) [go_sem, stepK]; refine hKK _ ?_; clear hKK KK) | (refine PL.k rfl fun KK hKK => ?_; simp [go_sem, stepK]; refine hKK _ ?_; clear hKK KK) | (refine PL.g rfl rfl fun KK hKK => ?_; simp (disch := omega) [go_sem, L.stepG]; refine hKK _ ?_; clear hKK KK) | (refine PL.g rfl rfl fun KK hKK => ?_; simp [go_sem, L.stepG]; refine hKK _ ?_; clear hKK KK) | (refine PL.done hK ?_; clear hK) | (refine PC.skip (hK _ _ ?_); clear hK) | (refine PC.condT ?_ ?_; focus (simp [go_sem]; done)) | (refine PC.condF ?_ ?_; focus (simp [go_sem]; done)) | (refine PC.exit ?_; first | (refine hK _ _ ?_; clear hK) | (clear hK; refine hK _ _ ?_; clear hK) | (clear hK; clear hK; refine hK _ _ ?_; clear hK)))
  refine PL.buildSliceR (d := 10) rfl rfl rfl (by simp) selem_30 rfl (by omega) (ips := []) (by simp [go_sem]) (by simp [litOk]) (ps := []) rfl ?_
  repeat (first | (refine PC.seq fun K hK => ?_) | (refine PC.block ?_) | (refine PC.region ?_) | (refine PL.k rfl fun KK hKK => ?_; simp (disch := omega) [go_sem, stepK]; refine hKK _ ?_; clear hKK KK) | (refine PL.k rfl fun KK hKK => ?_; simp [go_sem, stepK]; refine hKK _ ?_; clear hKK KK) | (refine PL.g rfl rfl fun KK hKK => ?_; simp (disch := omega) [go_sem, L.stepG]; refine hKK _ ?_; clear hKK KK) | (refine PL.g rfl rfl fun KK hKK => ?_; simp [go_sem, L.stepG]; refine hKK _ ?_; clear hKK KK) | (refine PL.done hK ?_; clear hK) | (refine PC.skip (hK _ _ ?_); clear hK) | (refine PC.condT ?_ ?_; focus (simp [go_sem]; done)) | (refine PC.condF ?_ ?_; focus (simp [go_sem]; done)) | (refine PC.exit ?_; first | (refine hK _ _ ?_; clear hK) | (clear hK; refine hK _ _ ?_; clear hK) | (clear hK; clear hK; refine hK _ _ ?_; clear hK)))
  (refine PL.callB rfl rfl (by kernel_rfl) (ref7Check_ok l) (by simp [go_sem]) (by simp [go_sem]) (by simp [go_sem]) ?_)
  repeat (first | (refine PC.seq fun K hK => ?_) | (refine PC.block ?_) | (refine PC.region ?_) | (refine PL.k rfl fun KK hKK => ?_; simp (disch := omega) [go_sem, stepK, h]; refine hKK _ ?_; clear hKK KK) | (refine PL.k rfl fun KK hKK => ?_; simp [go_sem, stepK, h]; refine hKK _ ?_; clear hKK KK) | (refine PL.g rfl rfl fun KK hKK => ?_; simp (disch := omega) [go_sem, L.stepG, h]; refine hKK _ ?_; clear hKK KK) | (refine PL.g rfl rfl fun KK hKK => ?_; simp [go_sem, L.stepG, h]; refine hKK _ ?_; clear hKK KK) | (refine PL.done hK ?_; clear hK) | (refine PC.skip (hK _ _ ?_); clear hK) | (refine PC.condT ?_ ?_; focus (simp [go_sem, h]; done)) | (refine PC.condF ?_ ?_; focus (simp [go_sem, h]; done)) | (refine PC.exit ?_; first | (refine hK _ _ ?_; clear hK) | (clear hK; refine hK _ _ ?_; clear hK) | (clear hK; clear hK; refine hK _ _ ?_; clear hK)))
  (refine PC.ret ?_; refine fin (.inr rfl) (by simp [resP, resP1, Try.results64, go_sem, slI]) (by simp [go_sem, slI]))
set_option maxRecDepth 20000 in
set_option maxHeartbeats 2000000 in
theorem SaysAny_ok (l : List Rx) (w : ByteArray) (hw : w.size ≤ 1000) : PCall Try.prog 27 [slX l, S w] (· = B (saysR l w)) := by
  by_cases h : checkL l = 0
  · obtain ⟨e, he⟩ := wfx_of l h
    rw [saysR_good he]
    exact Says_ok l e he w hw
  · have e : saysR l w = false := by unfold saysR; rw [if_neg h]
    rw [e]
    refine PCall.intro' Try.func27 rfl Try.ntmps27 (by simp) fun W => ?_
    repeat (first | (refine PC.seq fun K hK => ?_) | (refine PC.block ?_) | (refine PC.region ?_) | (refine PL.k rfl fun KK hKK => ?_; simp (disch := omega) [go_sem, stepK]; refine hKK _ ?_; clear hKK KK) | (refine PL.k rfl fun KK hKK => ?_; simp [go_sem, stepK]; refine hKK _ ?_; clear hKK KK) | (refine PL.g rfl rfl fun KK hKK => ?_; simp (disch := omega) [go_sem, L.stepG]; refine hKK _ ?_; clear hKK KK) | (refine PL.g rfl rfl fun KK hKK => ?_; simp [go_sem, L.stepG]; refine hKK _ ?_; clear hKK KK) | (refine PL.done hK ?_; clear hK) | (refine PC.skip (hK _ _ ?_); clear hK) | (refine PC.condT ?_ ?_; focus (simp [go_sem]; done)) | (refine PC.condF ?_ ?_; focus (simp [go_sem]; done)) | (refine PC.exit ?_; first | (refine hK _ _ ?_; clear hK) | (clear hK; refine hK _ _ ?_; clear hK) | (clear hK; clear hK; refine hK _ _ ?_; clear hK)))
    (refine PL.callB rfl rfl (by kernel_rfl) (Ends_bad l h w) (by simp [go_sem]) (by simp [go_sem]) (by simp [go_sem]) ?_)
    repeat (first | (refine PC.seq fun K hK => ?_) | (refine PC.block ?_) | (refine PC.region ?_) | (refine PL.k rfl fun KK hKK => ?_; simp (disch := omega) [go_sem, stepK]; refine hKK _ ?_; clear hKK KK) | (refine PL.k rfl fun KK hKK => ?_; simp [go_sem, stepK]; refine hKK _ ?_; clear hKK KK) | (refine PL.g rfl rfl fun KK hKK => ?_; simp (disch := omega) [go_sem, L.stepG]; refine hKK _ ?_; clear hKK KK) | (refine PL.g rfl rfl fun KK hKK => ?_; simp [go_sem, L.stepG]; refine hKK _ ?_; clear hKK KK) | (refine PL.done hK ?_; clear hK) | (refine PC.skip (hK _ _ ?_); clear hK) | (refine PC.condT ?_ ?_; focus (simp [go_sem]; done)) | (refine PC.condF ?_ ?_; focus (simp [go_sem]; done)) | (refine PC.exit ?_; first | (refine hK _ _ ?_; clear hK) | (clear hK; refine hK _ _ ?_; clear hK) | (clear hK; clear hK; refine hK _ _ ?_; clear hK)))
    (refine PC.ret ?_; refine fin (.inr rfl) (by simp [resP, resP1, Try.results27, go_sem]) (by simp [go_sem]))

set_option maxRecDepth 20000 in
set_option maxHeartbeats 8000000 in
theorem FuseReads_ok (l : List Tok) (w : ByteArray) (hl : l.length ≤ 9223372036854775807) (hnn : ∀ t ∈ l, ∀ x ∈ t.rex, x.nn) : PCall Try.prog 9 [slT l, S w] (· = B true) := by
  refine PCall.intro' Try.func9 rfl Try.ntmps9 (by simp) fun W => ?_
  repeat (first | (refine PC.seq fun K hK => ?_) | (refine PC.block ?_) | (refine PC.region ?_) | (refine PL.k rfl fun KK hKK => ?_; simp (disch := omega) [go_sem, stepK]; refine hKK _ ?_; clear hKK KK) | (refine PL.k rfl fun KK hKK => ?_; simp [go_sem, stepK]; refine hKK _ ?_; clear hKK KK) | (refine PL.g rfl rfl fun KK hKK => ?_; simp (disch := omega) [go_sem, L.stepG]; refine hKK _ ?_; clear hKK KK) | (refine PL.g rfl rfl fun KK hKK => ?_; simp [go_sem, L.stepG]; refine hKK _ ?_; clear hKK KK) | (refine PL.done hK ?_; clear hK) | (refine PC.skip (hK _ _ ?_); clear hK) | (refine PC.condT ?_ ?_; focus (simp [go_sem]; done)) | (refine PC.condF ?_ ?_; focus (simp [go_sem]; done)) | (refine PC.exit ?_; first | (refine hK _ _ ?_; clear hK) | (clear hK; refine hK _ _ ?_; clear hK) | (clear hK; clear hK; refine hK _ _ ?_; clear hK)))
  (refine PL.callB rfl rfl (by kernel_rfl) (Few_ok l hl) (by simp [go_sem]) (by simp [go_sem]) (by simp [go_sem]) ?_)
  cases hfew : fewL l
  · repeat (first | (refine PC.seq fun K hK => ?_) | (refine PC.block ?_) | (refine PC.region ?_) | (refine PL.k rfl fun KK hKK => ?_; simp (disch := omega) [go_sem, stepK, hfew]; refine hKK _ ?_; clear hKK KK) | (refine PL.k rfl fun KK hKK => ?_; simp [go_sem, stepK, hfew]; refine hKK _ ?_; clear hKK KK) | (refine PL.g rfl rfl fun KK hKK => ?_; simp (disch := omega) [go_sem, L.stepG, hfew]; refine hKK _ ?_; clear hKK KK) | (refine PL.g rfl rfl fun KK hKK => ?_; simp [go_sem, L.stepG, hfew]; refine hKK _ ?_; clear hKK KK) | (refine PL.done hK ?_; clear hK) | (refine PC.skip (hK _ _ ?_); clear hK) | (refine PC.condT ?_ ?_; focus (simp [go_sem, hfew]; done)) | (refine PC.condF ?_ ?_; focus (simp [go_sem, hfew]; done)) | (refine PC.exit ?_; first | (refine hK _ _ ?_; clear hK) | (clear hK; refine hK _ _ ?_; clear hK) | (clear hK; clear hK; refine hK _ _ ?_; clear hK)))
    (refine PL.callB rfl rfl (by kernel_rfl) (knows12_ok) (by simp [go_sem]) (by simp [go_sem]) (by simp [go_sem]) ?_)
    repeat (first | (refine PC.seq fun K hK => ?_) | (refine PC.block ?_) | (refine PC.region ?_) | (refine PL.k rfl fun KK hKK => ?_; simp (disch := omega) [go_sem, stepK]; refine hKK _ ?_; clear hKK KK) | (refine PL.k rfl fun KK hKK => ?_; simp [go_sem, stepK]; refine hKK _ ?_; clear hKK KK) | (refine PL.g rfl rfl fun KK hKK => ?_; simp (disch := omega) [go_sem, L.stepG]; refine hKK _ ?_; clear hKK KK) | (refine PL.g rfl rfl fun KK hKK => ?_; simp [go_sem, L.stepG]; refine hKK _ ?_; clear hKK KK) | (refine PL.done hK ?_; clear hK) | (refine PC.skip (hK _ _ ?_); clear hK) | (refine PC.condT ?_ ?_; focus (simp [go_sem]; done)) | (refine PC.condF ?_ ?_; focus (simp [go_sem]; done)) | (refine PC.exit ?_; first | (refine hK _ _ ?_; clear hK) | (clear hK; refine hK _ _ ?_; clear hK) | (clear hK; clear hK; refine hK _ _ ?_; clear hK)))
    (refine PC.ret ?_; refine fin (.inr rfl) (by simp [resP, resP1, Try.results9, go_sem]) (by simp [go_sem]))
  by_cases h1 : w.size ≤ 30
  rotate_left
  · have h1' : (30 : Int) < w.size := by omega
    repeat (first | (refine PC.seq fun K hK => ?_) | (refine PC.block ?_) | (refine PC.region ?_) | (refine PL.k rfl fun KK hKK => ?_; simp (disch := omega) [go_sem, stepK, hfew, h1']; refine hKK _ ?_; clear hKK KK) | (refine PL.k rfl fun KK hKK => ?_; simp [go_sem, stepK, hfew, h1']; refine hKK _ ?_; clear hKK KK) | (refine PL.g rfl rfl fun KK hKK => ?_; simp (disch := omega) [go_sem, L.stepG, hfew, h1']; refine hKK _ ?_; clear hKK KK) | (refine PL.g rfl rfl fun KK hKK => ?_; simp [go_sem, L.stepG, hfew, h1']; refine hKK _ ?_; clear hKK KK) | (refine PL.done hK ?_; clear hK) | (refine PC.skip (hK _ _ ?_); clear hK) | (refine PC.condT ?_ ?_; focus (simp [go_sem, hfew, h1']; done)) | (refine PC.condF ?_ ?_; focus (simp [go_sem, hfew, h1']; done)) | (refine PC.exit ?_; first | (refine hK _ _ ?_; clear hK) | (clear hK; refine hK _ _ ?_; clear hK) | (clear hK; clear hK; refine hK _ _ ?_; clear hK)))
    (refine PL.callB rfl rfl (by kernel_rfl) (knows12_ok) (by simp [go_sem]) (by simp [go_sem]) (by simp [go_sem]) ?_)
    repeat (first | (refine PC.seq fun K hK => ?_) | (refine PC.block ?_) | (refine PC.region ?_) | (refine PL.k rfl fun KK hKK => ?_; simp (disch := omega) [go_sem, stepK]; refine hKK _ ?_; clear hKK KK) | (refine PL.k rfl fun KK hKK => ?_; simp [go_sem, stepK]; refine hKK _ ?_; clear hKK KK) | (refine PL.g rfl rfl fun KK hKK => ?_; simp (disch := omega) [go_sem, L.stepG]; refine hKK _ ?_; clear hKK KK) | (refine PL.g rfl rfl fun KK hKK => ?_; simp [go_sem, L.stepG]; refine hKK _ ?_; clear hKK KK) | (refine PL.done hK ?_; clear hK) | (refine PC.skip (hK _ _ ?_); clear hK) | (refine PC.condT ?_ ?_; focus (simp [go_sem]; done)) | (refine PC.condF ?_ ?_; focus (simp [go_sem]; done)) | (refine PC.exit ?_; first | (refine hK _ _ ?_; clear hK) | (clear hK; refine hK _ _ ?_; clear hK) | (clear hK; clear hK; refine hK _ _ ?_; clear hK)))
    (refine PC.ret ?_; refine fin (.inr rfl) (by simp [resP, resP1, Try.results9, go_sem]) (by simp [go_sem]))
  have h1' : ¬ (30 : Int) < w.size := by omega
  by_cases h3 : w.size = 0
  · have hsn : w = ByteArray.empty := by simpa using h3
    subst hsn
    repeat (first | (refine PC.seq fun K hK => ?_) | (refine PC.block ?_) | (refine PC.region ?_) | (refine PL.k rfl fun KK hKK => ?_; simp (disch := omega) [go_sem, stepK, hfew]; refine hKK _ ?_; clear hKK KK) | (refine PL.k rfl fun KK hKK => ?_; simp [go_sem, stepK, hfew]; refine hKK _ ?_; clear hKK KK) | (refine PL.g rfl rfl fun KK hKK => ?_; simp (disch := omega) [go_sem, L.stepG, hfew]; refine hKK _ ?_; clear hKK KK) | (refine PL.g rfl rfl fun KK hKK => ?_; simp [go_sem, L.stepG, hfew]; refine hKK _ ?_; clear hKK KK) | (refine PL.done hK ?_; clear hK) | (refine PC.skip (hK _ _ ?_); clear hK) | (refine PC.condT ?_ ?_; focus (simp [go_sem, hfew]; done)) | (refine PC.condF ?_ ?_; focus (simp [go_sem, hfew]; done)) | (refine PC.exit ?_; first | (refine hK _ _ ?_; clear hK) | (clear hK; refine hK _ _ ?_; clear hK) | (clear hK; clear hK; refine hK _ _ ?_; clear hK)))
    (refine PL.callB rfl rfl (by kernel_rfl) (knows12_ok) (by simp [go_sem]) (by simp [go_sem]) (by simp [go_sem]) ?_)
    repeat (first | (refine PC.seq fun K hK => ?_) | (refine PC.block ?_) | (refine PC.region ?_) | (refine PL.k rfl fun KK hKK => ?_; simp (disch := omega) [go_sem, stepK]; refine hKK _ ?_; clear hKK KK) | (refine PL.k rfl fun KK hKK => ?_; simp [go_sem, stepK]; refine hKK _ ?_; clear hKK KK) | (refine PL.g rfl rfl fun KK hKK => ?_; simp (disch := omega) [go_sem, L.stepG]; refine hKK _ ?_; clear hKK KK) | (refine PL.g rfl rfl fun KK hKK => ?_; simp [go_sem, L.stepG]; refine hKK _ ?_; clear hKK KK) | (refine PL.done hK ?_; clear hK) | (refine PC.skip (hK _ _ ?_); clear hK) | (refine PC.condT ?_ ?_; focus (simp [go_sem]; done)) | (refine PC.condF ?_ ?_; focus (simp [go_sem]; done)) | (refine PC.exit ?_; first | (refine hK _ _ ?_; clear hK) | (clear hK; refine hK _ _ ?_; clear hK) | (clear hK; clear hK; refine hK _ _ ?_; clear hK)))
    (refine PC.ret ?_; refine fin (.inr rfl) (by simp [resP, resP1, Try.results9, go_sem]) (by simp [go_sem]))
  have hsn := str_ne h3
  have hw0 : 0 < w.size := by omega
  have h12 : l.length ≤ 12 := by unfold fewL at hfew; simp only [decide_eq_true_eq] at hfew; exact hfew.1
  have cF := fuseFuse_ok l h12
  have nb := fuseL_nb h12
  have hR := fuseL_R l
  have hs : NetR (fuseL l) → (fuseL l).sets.length ≤ 1000 := fun _ => by have := few_sets hfew; omega
  have nn := fuseL_nn hnn
  have hri := fuseL_right l
  have hown := tok_own l w hw0
  have hall := tok_all l w hw0
  have hrange : ∀ x ∈ atW l w, 0 ≤ x ∧ x < (fuseL l).sets.length := fun x hx => by
    obtain ⟨t, ht, i, hi, rfl⟩ := (run_mem l w w.size x).1 hx
    exact sets_lt ht hi.range
  have hlen : (atW l w).length ≤ 1000 := runK_len2 (fuseL l) w w.size hs
  have cRun := fuseRun_ok (fuseL l) w (by omega) nb hs nn
  unfold atW at hown hall hrange hlen
  generalize runK (fuseL l) w w.size = at_ at *
  generalize fuseL l = n at *
  repeat (first | (refine PC.seq fun K hK => ?_) | (refine PC.block ?_) | (refine PC.region ?_) | (refine PL.k rfl fun KK hKK => ?_; simp (disch := omega) [go_sem, stepK, hfew, h1', hsn]; refine hKK _ ?_; clear hKK KK) | (refine PL.k rfl fun KK hKK => ?_; simp [go_sem, stepK, hfew, h1', hsn]; refine hKK _ ?_; clear hKK KK) | (refine PL.g rfl rfl fun KK hKK => ?_; simp (disch := omega) [go_sem, L.stepG, hfew, h1', hsn]; refine hKK _ ?_; clear hKK KK) | (refine PL.g rfl rfl fun KK hKK => ?_; simp [go_sem, L.stepG, hfew, h1', hsn]; refine hKK _ ?_; clear hKK KK) | (refine PL.done hK ?_; clear hK) | (refine PC.skip (hK _ _ ?_); clear hK) | (refine PC.condT ?_ ?_; focus (simp [go_sem, hfew, h1', hsn]; done)) | (refine PC.condF ?_ ?_; focus (simp [go_sem, hfew, h1', hsn]; done)) | (refine PC.exit ?_; first | (refine hK _ _ ?_; clear hK) | (clear hK; refine hK _ _ ?_; clear hK) | (clear hK; clear hK; refine hK _ _ ?_; clear hK)))
  (refine PL.callB rfl rfl (by kernel_rfl) (cF) (by simp [go_sem]) (by simp [go_sem]) (by simp [go_sem]) ?_)
  refine PL.allocA 3 (d := 5) rfl rfl rfl (by simp) zeroC_61 rfl rfl fun v1 H1 b1 o1 => ?_
  refine PL.storeA (id := 3) (off := 0) rfl rfl (by simp [dstOk]) (by simp [go_sem]) b1 asz_61 (v := netV n) (by simp [go_sem]) (by simp [go_sem, okC]) rfl (by simp [go_sem]) (by simp) (cs' := [slS n.sets, slI n.of_, slB n.last, slLL n.follow, slI n.first]) rfl fun H2 b2 o2 => ?_
  repeat (first | (refine PC.seq fun K hK => ?_) | (refine PC.block ?_) | (refine PC.region ?_) | (refine PL.k rfl fun KK hKK => ?_; simp (disch := omega) [go_sem, stepK, b2]; refine hKK _ ?_; clear hKK KK) | (refine PL.k rfl fun KK hKK => ?_; simp [go_sem, stepK, b2]; refine hKK _ ?_; clear hKK KK) | (refine PL.g rfl rfl fun KK hKK => ?_; simp (disch := omega) [go_sem, L.stepG, b2]; refine hKK _ ?_; clear hKK KK) | (refine PL.g rfl rfl fun KK hKK => ?_; simp [go_sem, L.stepG, b2]; refine hKK _ ?_; clear hKK KK) | (refine PL.done hK ?_; clear hK) | (refine PC.skip (hK _ _ ?_); clear hK) | (refine PC.condT ?_ ?_; focus (simp [go_sem, b2]; done)) | (refine PC.condF ?_ ?_; focus (simp [go_sem, b2]; done)) | (refine PC.exit ?_; first | (refine hK _ _ ?_; clear hK) | (clear hK; refine hK _ _ ?_; clear hK) | (clear hK; clear hK; refine hK _ _ ?_; clear hK)))
  (refine PL.callB rfl rfl (by kernel_rfl) (cRun) (by simp [go_sem]) (by simp [go_sem]) (by simp [go_sem]) ?_)
  repeat (first | (refine PC.seq fun K hK => ?_) | (refine PC.block ?_) | (refine PC.region ?_) | (refine PL.k rfl fun KK hKK => ?_; simp (disch := omega) [go_sem, stepK]; refine hKK _ ?_; clear hKK KK) | (refine PL.k rfl fun KK hKK => ?_; simp [go_sem, stepK]; refine hKK _ ?_; clear hKK KK) | (refine PL.g rfl rfl fun KK hKK => ?_; simp (disch := omega) [go_sem, L.stepG]; refine hKK _ ?_; clear hKK KK) | (refine PL.g rfl rfl fun KK hKK => ?_; simp [go_sem, L.stepG]; refine hKK _ ?_; clear hKK KK) | (refine PL.done hK ?_; clear hK) | (refine PC.skip (hK _ _ ?_); clear hK) | (refine PC.condT ?_ ?_; focus (simp [go_sem]; done)) | (refine PC.condF ?_ ?_; focus (simp [go_sem]; done)) | (refine PC.exit ?_; first | (refine hK _ _ ?_; clear hK) | (clear hK; refine hK _ _ ?_; clear hK) | (clear hK; clear hK; refine hK _ _ ?_; clear hK)))
  refine PC.loop (fun m F H' => ∃ k : Nat, k ≤ l.length ∧ m = l.length - k ∧ F 0 = slT l ∧ F 1 = S w ∧ F 5 = .pp 3 0 v1 ∧ F 6 = slI at_ ∧ F 7 = I (firstK l w k) ∧ F 8 = I k ∧ H' 3 = H2 3) (m := l.length) ⟨0, by omega, by omega, by simp [go_sem], by simp [go_sem], by simp [go_sem], by simp [go_sem], by simp [go_sem, firstK], by simp [go_sem], rfl⟩ fun m F H' hI => ?_
  obtain ⟨k, hk, hm, f0, f1, f5, f6, f7, f8, hH⟩ := hI
  have b3 := hH.trans b2
  by_cases hlt : k < l.length
  · have hlt' : (k : Int) < l.length := by omega
    have hfs := firstK_succ l w k hlt
    have ho := hown k hlt
    obtain ⟨tk, etk⟩ : ∃ t, l[k] = t := ⟨_, rfl⟩
    rw [etk] at hfs ho
    repeat (first | (refine PC.seq fun K hK => ?_) | (refine PC.block ?_) | (refine PC.region ?_) | (refine PL.k rfl fun KK hKK => ?_; simp (disch := omega) [go_sem, stepK, f0, f8, hlt']; refine hKK _ ?_; clear hKK KK) | (refine PL.k rfl fun KK hKK => ?_; simp [go_sem, stepK, f0, f8, hlt']; refine hKK _ ?_; clear hKK KK) | (refine PL.g rfl rfl fun KK hKK => ?_; simp (disch := omega) [go_sem, L.stepG, f0, f8, hlt']; refine hKK _ ?_; clear hKK KK) | (refine PL.g rfl rfl fun KK hKK => ?_; simp [go_sem, L.stepG, f0, f8, hlt']; refine hKK _ ?_; clear hKK KK) | (refine PL.done hK ?_; clear hK) | (refine PC.skip (hK _ _ ?_); clear hK) | (refine PC.condT ?_ ?_; focus (simp [go_sem, f0, f8, hlt']; done)) | (refine PC.condF ?_ ?_; focus (simp [go_sem, f0, f8, hlt']; done)) | (refine PC.exit ?_; first | (refine hK _ _ ?_; clear hK) | (clear hK; refine hK _ _ ?_; clear hK) | (clear hK; clear hK; refine hK _ _ ?_; clear hK)))
    refine PL.buildSliceA 60 (d := 36) rfl rfl rfl (by simp) selem_30 rfl (by omega) (by unfold maxLen; omega) (ips := []) (by simp [go_sem]) (by simp [litOk]) (cs := []) rfl fun v6 H6 b6 o6 => ?_
    repeat (first | (refine PC.seq fun K hK => ?_) | (refine PC.block ?_) | (refine PC.region ?_) | (refine PL.k rfl fun KK hKK => ?_; simp (disch := omega) [go_sem, stepK]; refine hKK _ ?_; clear hKK KK) | (refine PL.k rfl fun KK hKK => ?_; simp [go_sem, stepK]; refine hKK _ ?_; clear hKK KK) | (refine PL.g rfl rfl fun KK hKK => ?_; simp (disch := omega) [go_sem, L.stepG]; refine hKK _ ?_; clear hKK KK) | (refine PL.g rfl rfl fun KK hKK => ?_; simp [go_sem, L.stepG]; refine hKK _ ?_; clear hKK KK) | (refine PL.done hK ?_; clear hK) | (refine PC.skip (hK _ _ ?_); clear hK) | (refine PC.condT ?_ ?_; focus (simp [go_sem]; done)) | (refine PC.condF ?_ ?_; focus (simp [go_sem]; done)) | (refine PC.exit ?_; first | (refine hK _ _ ?_; clear hK) | (clear hK; refine hK _ _ ?_; clear hK) | (clear hK; clear hK; refine hK _ _ ?_; clear hK)))
    refine PC.loop (fun m F H' => ∃ (j : Nat) (q : PV), j ≤ at_.length ∧ m = at_.length - j ∧ F 0 = slT l ∧ F 1 = S w ∧ F 5 = .pp 3 0 v1 ∧ F 6 = slI at_ ∧ F 7 = I (firstK l w k) ∧ F 8 = I k ∧ F 9 = q ∧ F 10 = I j ∧ H' 3 = H2 3 ∧ ownIs H' 60 q (ownT n (at_.take j) k)) (m := at_.length) ⟨0, .ps 60 v6, by omega, by omega, by simp [go_sem, f0], by simp [go_sem, f1], by simp [go_sem, f5], by simp [go_sem, f6], by simp [go_sem, f7], by simp [go_sem, f8], by simp [go_sem], by simp [go_sem], (o6 3 (by omega)).trans hH, OwnS.row b6 rfl⟩ fun m2 F H7 hI => ?_
    clear f0 f1 f5 f6 f7 f8
    obtain ⟨j, q, hj, hm2, f0, f1, f5, f6, f7, f8, f9, f10, hH7, hO⟩ := hI
    have b7 := hH7.trans b2
    by_cases hlj : j < at_.length
    · have hlj' : (j : Int) < at_.length := by omega
      have hx := hrange at_[j] (List.getElem_mem hlj)
      have hos := ownT_succ n at_ k j hlj
      obtain ⟨x, ex⟩ : ∃ x, at_[j] = x := ⟨_, rfl⟩
      rw [ex] at hx hos
      have hx0 := hx.1
      have hxn : ¬ x < 0 := by omega
      have hxo : ¬ (n.of_.length : Int) ≤ x := by have := hR.o; omega
      have hxl : ¬ (n.last.length : Int) ≤ x := by have := hR.l; omega
      have hol : x.toNat < n.of_.length := by have := hR.o; omega
      obtain ⟨z, ez⟩ : ∃ z, n.of_[x.toNat] = z := ⟨_, rfl⟩
      have hoz : ofT n x = z := by unfold ofT; simp [List.getD, hol, ez]
      rw [hoz] at hos
      have hol2 : (ownT n (at_.take j) k).length ≤ 1000 := by
        have := List.length_filter_le (fun x => decide (ofT n x = (k : Int))) (at_.take j)
        rw [List.length_take] at this
        unfold ownT
        omega
      repeat (first | (refine PC.seq fun K hK => ?_) | (refine PC.block ?_) | (refine PC.region ?_) | (refine PL.k rfl fun KK hKK => ?_; simp (disch := omega) [go_sem, stepK, f6, f10, hlj']; refine hKK _ ?_; clear hKK KK) | (refine PL.k rfl fun KK hKK => ?_; simp [go_sem, stepK, f6, f10, hlj']; refine hKK _ ?_; clear hKK KK) | (refine PL.g rfl rfl fun KK hKK => ?_; simp (disch := omega) [go_sem, L.stepG, f6, f10, hlj']; refine hKK _ ?_; clear hKK KK) | (refine PL.g rfl rfl fun KK hKK => ?_; simp [go_sem, L.stepG, f6, f10, hlj']; refine hKK _ ?_; clear hKK KK) | (refine PL.done hK ?_; clear hK) | (refine PC.skip (hK _ _ ?_); clear hK) | (refine PC.condT ?_ ?_; focus (simp [go_sem, f6, f10, hlj']; done)) | (refine PC.condF ?_ ?_; focus (simp [go_sem, f6, f10, hlj']; done)) | (refine PC.exit ?_; first | (refine hK _ _ ?_; clear hK) | (clear hK; refine hK _ _ ?_; clear hK) | (clear hK; clear hK; refine hK _ _ ?_; clear hK)))
      refine PC.regionQ mixed (by kernel_rfl) ?_
      repeat (first | (refine QF.k rfl fun KK hKK => ?_; simp (disch := omega) [go_sem, stepK, f5, f6, f10, hlj, hlj', ex, hxn, hxo, hxl, b7]; refine hKK _ ?_; clear hKK KK) | (refine QF.k rfl fun KK hKK => ?_; simp [go_sem, stepK, f5, f6, f10, hlj, hlj', ex, hxn, hxo, hxl, b7]; refine hKK _ ?_; clear hKK KK) | (refine QF.g rfl rfl fun KK hKK => ?_; simp (disch := omega) [go_sem, L.stepG, f5, f6, f10, hlj, hlj', ex, hxn, hxo, hxl, b7]; refine hKK _ ?_; clear hKK KK) | (refine QF.g rfl rfl fun KK hKK => ?_; simp [go_sem, L.stepG, f5, f6, f10, hlj, hlj', ex, hxn, hxo, hxl, b7]; refine hKK _ ?_; clear hKK KK))
      refine QF.done hK ?_; clear hK
      repeat (first | (refine PC.seq fun K hK => ?_) | (refine PC.block ?_) | (refine PC.region ?_) | (refine PL.k rfl fun KK hKK => ?_; simp (disch := omega) [go_sem, stepK]; refine hKK _ ?_; clear hKK KK) | (refine PL.k rfl fun KK hKK => ?_; simp [go_sem, stepK]; refine hKK _ ?_; clear hKK KK) | (refine PL.g rfl rfl fun KK hKK => ?_; simp (disch := omega) [go_sem, L.stepG]; refine hKK _ ?_; clear hKK KK) | (refine PL.g rfl rfl fun KK hKK => ?_; simp [go_sem, L.stepG]; refine hKK _ ?_; clear hKK KK) | (refine PL.done hK ?_; clear hK) | (refine PC.skip (hK _ _ ?_); clear hK) | (refine PC.condT ?_ ?_; focus (simp [go_sem]; done)) | (refine PC.condF ?_ ?_; focus (simp [go_sem]; done)) | (refine PC.exit ?_; first | (refine hK _ _ ?_; clear hK) | (clear hK; refine hK _ _ ?_; clear hK) | (clear hK; clear hK; refine hK _ _ ?_; clear hK)))
      refine PC.regionQ mixed (by kernel_rfl) ?_
      repeat (first | (refine QF.k rfl fun KK hKK => ?_; simp (disch := omega) [go_sem, stepK, f5, f6, f8, f10, hlj, hlj', ex, hx0, hol, ez, b7]; refine hKK _ ?_; clear hKK KK) | (refine QF.k rfl fun KK hKK => ?_; simp [go_sem, stepK, f5, f6, f8, f10, hlj, hlj', ex, hx0, hol, ez, b7]; refine hKK _ ?_; clear hKK KK) | (refine QF.g rfl rfl fun KK hKK => ?_; simp (disch := omega) [go_sem, L.stepG, f5, f6, f8, f10, hlj, hlj', ex, hx0, hol, ez, b7]; refine hKK _ ?_; clear hKK KK) | (refine QF.g rfl rfl fun KK hKK => ?_; simp [go_sem, L.stepG, f5, f6, f8, f10, hlj, hlj', ex, hx0, hol, ez, b7]; refine hKK _ ?_; clear hKK KK))
      refine QF.done hK ?_; clear hK
      by_cases hz : z = (k : Int)
      · rw [if_pos hz] at hos
        repeat (first | (refine PC.seq fun K hK => ?_) | (refine PC.block ?_) | (refine PC.region ?_) | (refine PL.k rfl fun KK hKK => ?_; simp (disch := omega) [go_sem, stepK, hz, f6, f9, f10, hlj, hlj', ex]; refine hKK _ ?_; clear hKK KK) | (refine PL.k rfl fun KK hKK => ?_; simp [go_sem, stepK, hz, f6, f9, f10, hlj, hlj', ex]; refine hKK _ ?_; clear hKK KK) | (refine PL.g rfl rfl fun KK hKK => ?_; simp (disch := omega) [go_sem, L.stepG, hz, f6, f9, f10, hlj, hlj', ex]; refine hKK _ ?_; clear hKK KK) | (refine PL.g rfl rfl fun KK hKK => ?_; simp [go_sem, L.stepG, hz, f6, f9, f10, hlj, hlj', ex]; refine hKK _ ?_; clear hKK KK) | (refine PL.done hK ?_; clear hK) | (refine PC.skip (hK _ _ ?_); clear hK) | (refine PC.condT ?_ ?_; focus (simp [go_sem, hz, f6, f9, f10, hlj, hlj', ex]; done)) | (refine PC.condF ?_ ?_; focus (simp [go_sem, hz, f6, f9, f10, hlj, hlj', ex]; done)) | (refine PC.exit ?_; first | (refine hK _ _ ?_; clear hK) | (clear hK; refine hK _ _ ?_; clear hK) | (clear hK; clear hK; refine hK _ _ ?_; clear hK)))
        refine PL.buildSliceR (d := 83) rfl rfl rfl (by simp) selem_30 rfl (by omega) (ips := [(0, I x)]) (by simp [go_sem]) (by simp [litOk, go_sem, okC]) (ps := [I x]) rfl ?_
        refine PL.appendL (d := 84) (xs := ownT n (at_.take j) k) (ys := [x]) rfl rfl rfl (by simp) selem_30 (by simp [go_sem]) hO (by simp [go_sem]) (fun _ => rfl) (fun x c hc => by simp [PV.cells] at hc; subst hc; rfl) (by simp [maxLen]; omega) (by simp; omega) fun q2 H8 b8 o8 => ?_
        repeat (first | (refine PC.seq fun K hK => ?_) | (refine PC.block ?_) | (refine PC.region ?_) | (refine PL.k rfl fun KK hKK => ?_; simp (disch := omega) [go_sem, stepK, f10]; refine hKK _ ?_; clear hKK KK) | (refine PL.k rfl fun KK hKK => ?_; simp [go_sem, stepK, f10]; refine hKK _ ?_; clear hKK KK) | (refine PL.g rfl rfl fun KK hKK => ?_; simp (disch := omega) [go_sem, L.stepG, f10]; refine hKK _ ?_; clear hKK KK) | (refine PL.g rfl rfl fun KK hKK => ?_; simp [go_sem, L.stepG, f10]; refine hKK _ ?_; clear hKK KK) | (refine PL.done hK ?_; clear hK) | (refine PC.skip (hK _ _ ?_); clear hK) | (refine PC.condT ?_ ?_; focus (simp [go_sem, f10]; done)) | (refine PC.condF ?_ ?_; focus (simp [go_sem, f10]; done)) | (refine PC.exit ?_; first | (refine hK _ _ ?_; clear hK) | (clear hK; refine hK _ _ ?_; clear hK) | (clear hK; clear hK; refine hK _ _ ?_; clear hK)))
        refine PL.nil ⟨at_.length - (j + 1), by omega, j + 1, q2, by omega, by omega, by simp [go_sem, f0], by simp [go_sem, f1], by simp [go_sem, f5], by simp [go_sem, f6], by simp [go_sem, f7], by simp [go_sem, f8], by simp [go_sem], by simp [go_sem], (o8 3 (by omega)).trans hH7, ?_⟩
        rw [hos]; exact b8
      · rw [if_neg hz, List.append_nil] at hos
        repeat (first | (refine PC.seq fun K hK => ?_) | (refine PC.block ?_) | (refine PC.region ?_) | (refine PL.k rfl fun KK hKK => ?_; simp (disch := omega) [go_sem, stepK, hz, f10]; refine hKK _ ?_; clear hKK KK) | (refine PL.k rfl fun KK hKK => ?_; simp [go_sem, stepK, hz, f10]; refine hKK _ ?_; clear hKK KK) | (refine PL.g rfl rfl fun KK hKK => ?_; simp (disch := omega) [go_sem, L.stepG, hz, f10]; refine hKK _ ?_; clear hKK KK) | (refine PL.g rfl rfl fun KK hKK => ?_; simp [go_sem, L.stepG, hz, f10]; refine hKK _ ?_; clear hKK KK) | (refine PL.done hK ?_; clear hK) | (refine PC.skip (hK _ _ ?_); clear hK) | (refine PC.condT ?_ ?_; focus (simp [go_sem, hz, f10]; done)) | (refine PC.condF ?_ ?_; focus (simp [go_sem, hz, f10]; done)) | (refine PC.exit ?_; first | (refine hK _ _ ?_; clear hK) | (clear hK; refine hK _ _ ?_; clear hK) | (clear hK; clear hK; refine hK _ _ ?_; clear hK)))
        refine PL.nil ⟨at_.length - (j + 1), by omega, j + 1, q, by omega, by omega, by simp [go_sem, f0], by simp [go_sem, f1], by simp [go_sem, f5], by simp [go_sem, f6], by simp [go_sem, f7], by simp [go_sem, f8], by simp [go_sem, f9], by simp [go_sem], hH7, ?_⟩
        rw [hos]; exact hO
    · have hlj' : ¬ (j : Int) < at_.length := by omega
      have hje : j = at_.length := by omega
      rw [hje, List.take_length] at hO
      have hol2 : (ownT n at_ k).length ≤ 1000 := by
        have := List.length_filter_le (fun x => decide (ofT n x = (k : Int))) at_
        unfold ownT
        omega
      have cT := fuseToken_ok n (ownT n at_ k) (by omega) nb
      have htk : tokN n (ownT n at_ k) = tokK n (ownT n at_ k) := by unfold tokN; rw [if_pos hri]
      rw [htk] at cT
      generalize ownT n at_ k = own at *
      repeat (first | (refine PC.seq fun K hK => ?_) | (refine PC.block ?_) | (refine PC.region ?_) | (refine PL.k rfl fun KK hKK => ?_; simp (disch := omega) [go_sem, stepK, f0, f1, f6, f8, f10, hlj', hlt, hlt', etk]; refine hKK _ ?_; clear hKK KK) | (refine PL.k rfl fun KK hKK => ?_; simp [go_sem, stepK, f0, f1, f6, f8, f10, hlj', hlt, hlt', etk]; refine hKK _ ?_; clear hKK KK) | (refine PL.g rfl rfl fun KK hKK => ?_; simp (disch := omega) [go_sem, L.stepG, f0, f1, f6, f8, f10, hlj', hlt, hlt', etk]; refine hKK _ ?_; clear hKK KK) | (refine PL.g rfl rfl fun KK hKK => ?_; simp [go_sem, L.stepG, f0, f1, f6, f8, f10, hlj', hlt, hlt', etk]; refine hKK _ ?_; clear hKK KK) | (refine PL.done hK ?_; clear hK) | (refine PC.skip (hK _ _ ?_); clear hK) | (refine PC.condT ?_ ?_; focus (simp [go_sem, f0, f1, f6, f8, f10, hlj', hlt, hlt', etk]; done)) | (refine PC.condF ?_ ?_; focus (simp [go_sem, f0, f1, f6, f8, f10, hlj', hlt, hlt', etk]; done)) | (refine PC.exit ?_; first | (refine hK _ _ ?_; clear hK) | (clear hK; refine hK _ _ ?_; clear hK) | (clear hK; clear hK; refine hK _ _ ?_; clear hK)))
      (refine PL.callB rfl rfl (by kernel_rfl) (SaysAny_ok tk.rex w (by omega)) (by simp [go_sem]) (by simp [go_sem]) (by simp [go_sem]) ?_)
      repeat (first | (refine PC.seq fun K hK => ?_) | (refine PC.block ?_) | (refine PC.region ?_) | (refine PL.k rfl fun KK hKK => ?_; simp (disch := omega) [go_sem, stepK, f5, f9, b7]; refine hKK _ ?_; clear hKK KK) | (refine PL.k rfl fun KK hKK => ?_; simp [go_sem, stepK, f5, f9, b7]; refine hKK _ ?_; clear hKK KK) | (refine PL.g rfl rfl fun KK hKK => ?_; simp (disch := omega) [go_sem, L.stepG, f5, f9, b7]; refine hKK _ ?_; clear hKK KK) | (refine PL.g rfl rfl fun KK hKK => ?_; simp [go_sem, L.stepG, f5, f9, b7]; refine hKK _ ?_; clear hKK KK) | (refine PL.done hK ?_; clear hK) | (refine PC.skip (hK _ _ ?_); clear hK) | (refine PC.condT ?_ ?_; focus (simp [go_sem, f5, f9, b7]; done)) | (refine PC.condF ?_ ?_; focus (simp [go_sem, f5, f9, b7]; done)) | (refine PC.exit ?_; first | (refine hK _ _ ?_; clear hK) | (clear hK; refine hK _ _ ?_; clear hK) | (clear hK; clear hK; refine hK _ _ ?_; clear hK)))
      refine PL.freezeL 93 (rep := I) (by simp [go_sem]) hO (fun _ => rfl) fun H9 o9 => ?_
      have b9 := (o9 3 (by omega)).trans b7
      refine PL.callB rfl rfl (by kernel_rfl) cT (by simp [go_sem]) (by simp [go_sem]) (by simp [go_sem, slI]) ?_
      cases hsay : saysR tk.rex w
      · rw [hsay] at ho hfs
        have hne : ¬ tokK n own = (k : Int) := fun h => by have := ho.1 h; cases this
        rw [if_neg (by simp)] at hfs
        repeat (first | (refine PC.seq fun K hK => ?_) | (refine PC.block ?_) | (refine PC.region ?_) | (refine PL.k rfl fun KK hKK => ?_; simp (disch := omega) [go_sem, stepK, f8, hsay, hne]; refine hKK _ ?_; clear hKK KK) | (refine PL.k rfl fun KK hKK => ?_; simp [go_sem, stepK, f8, hsay, hne]; refine hKK _ ?_; clear hKK KK) | (refine PL.g rfl rfl fun KK hKK => ?_; simp (disch := omega) [go_sem, L.stepG, f8, hsay, hne]; refine hKK _ ?_; clear hKK KK) | (refine PL.g rfl rfl fun KK hKK => ?_; simp [go_sem, L.stepG, f8, hsay, hne]; refine hKK _ ?_; clear hKK KK) | (refine PL.done hK ?_; clear hK) | (refine PC.skip (hK _ _ ?_); clear hK) | (refine PC.condT ?_ ?_; focus (simp [go_sem, f8, hsay, hne]; done)) | (refine PC.condF ?_ ?_; focus (simp [go_sem, f8, hsay, hne]; done)) | (refine PC.exit ?_; first | (refine hK _ _ ?_; clear hK) | (clear hK; refine hK _ _ ?_; clear hK) | (clear hK; clear hK; refine hK _ _ ?_; clear hK)))
        refine PL.nil ⟨l.length - (k + 1), by omega, k + 1, by omega, by omega, by simp [go_sem, f0], by simp [go_sem, f1], by simp [go_sem, f5], by simp [go_sem, f6], by simp [go_sem, f7, hfs], by simp [go_sem], (o9 3 (by omega)).trans hH7⟩
      · rw [hsay] at ho hfs
        have heq : tokK n own = (k : Int) := ho.2 rfl
        by_cases hfk : firstK l w k < 0
        · rw [if_pos ⟨rfl, hfk⟩] at hfs
          repeat (first | (refine PC.seq fun K hK => ?_) | (refine PC.block ?_) | (refine PC.region ?_) | (refine PL.k rfl fun KK hKK => ?_; simp (disch := omega) [go_sem, stepK, f7, f8, hsay, heq, hfk]; refine hKK _ ?_; clear hKK KK) | (refine PL.k rfl fun KK hKK => ?_; simp [go_sem, stepK, f7, f8, hsay, heq, hfk]; refine hKK _ ?_; clear hKK KK) | (refine PL.g rfl rfl fun KK hKK => ?_; simp (disch := omega) [go_sem, L.stepG, f7, f8, hsay, heq, hfk]; refine hKK _ ?_; clear hKK KK) | (refine PL.g rfl rfl fun KK hKK => ?_; simp [go_sem, L.stepG, f7, f8, hsay, heq, hfk]; refine hKK _ ?_; clear hKK KK) | (refine PL.done hK ?_; clear hK) | (refine PC.skip (hK _ _ ?_); clear hK) | (refine PC.condT ?_ ?_; focus (simp [go_sem, f7, f8, hsay, heq, hfk]; done)) | (refine PC.condF ?_ ?_; focus (simp [go_sem, f7, f8, hsay, heq, hfk]; done)) | (refine PC.exit ?_; first | (refine hK _ _ ?_; clear hK) | (clear hK; refine hK _ _ ?_; clear hK) | (clear hK; clear hK; refine hK _ _ ?_; clear hK)))
          refine PL.nil ⟨l.length - (k + 1), by omega, k + 1, by omega, by omega, by simp [go_sem, f0], by simp [go_sem, f1], by simp [go_sem, f5], by simp [go_sem, f6], by simp [go_sem, hfs], by simp [go_sem], (o9 3 (by omega)).trans hH7⟩
        · rw [if_neg (fun h => hfk h.2)] at hfs
          repeat (first | (refine PC.seq fun K hK => ?_) | (refine PC.block ?_) | (refine PC.region ?_) | (refine PL.k rfl fun KK hKK => ?_; simp (disch := omega) [go_sem, stepK, f7, f8, hsay, heq, hfk]; refine hKK _ ?_; clear hKK KK) | (refine PL.k rfl fun KK hKK => ?_; simp [go_sem, stepK, f7, f8, hsay, heq, hfk]; refine hKK _ ?_; clear hKK KK) | (refine PL.g rfl rfl fun KK hKK => ?_; simp (disch := omega) [go_sem, L.stepG, f7, f8, hsay, heq, hfk]; refine hKK _ ?_; clear hKK KK) | (refine PL.g rfl rfl fun KK hKK => ?_; simp [go_sem, L.stepG, f7, f8, hsay, heq, hfk]; refine hKK _ ?_; clear hKK KK) | (refine PL.done hK ?_; clear hK) | (refine PC.skip (hK _ _ ?_); clear hK) | (refine PC.condT ?_ ?_; focus (simp [go_sem, f7, f8, hsay, heq, hfk]; done)) | (refine PC.condF ?_ ?_; focus (simp [go_sem, f7, f8, hsay, heq, hfk]; done)) | (refine PC.exit ?_; first | (refine hK _ _ ?_; clear hK) | (clear hK; refine hK _ _ ?_; clear hK) | (clear hK; clear hK; refine hK _ _ ?_; clear hK)))
          refine PL.nil ⟨l.length - (k + 1), by omega, k + 1, by omega, by omega, by simp [go_sem, f0], by simp [go_sem, f1], by simp [go_sem, f5], by simp [go_sem, f6], by simp [go_sem, f7, hfs], by simp [go_sem], (o9 3 (by omega)).trans hH7⟩
  · have hlt' : ¬ (k : Int) < l.length := by omega
    have hke : k = l.length := by omega
    rw [hke, ← hall] at f7
    have cT := fuseToken_ok n at_ (by omega) nb
    have htk : tokN n at_ = tokK n at_ := by unfold tokN; rw [if_pos hri]
    rw [htk] at cT
    repeat (first | (refine PC.seq fun K hK => ?_) | (refine PC.block ?_) | (refine PC.region ?_) | (refine PL.k rfl fun KK hKK => ?_; simp (disch := omega) [go_sem, stepK, f0, f5, f6, f7, f8, hlt', b3]; refine hKK _ ?_; clear hKK KK) | (refine PL.k rfl fun KK hKK => ?_; simp [go_sem, stepK, f0, f5, f6, f7, f8, hlt', b3]; refine hKK _ ?_; clear hKK KK) | (refine PL.g rfl rfl fun KK hKK => ?_; simp (disch := omega) [go_sem, L.stepG, f0, f5, f6, f7, f8, hlt', b3]; refine hKK _ ?_; clear hKK KK) | (refine PL.g rfl rfl fun KK hKK => ?_; simp [go_sem, L.stepG, f0, f5, f6, f7, f8, hlt', b3]; refine hKK _ ?_; clear hKK KK) | (refine PL.done hK ?_; clear hK) | (refine PC.skip (hK _ _ ?_); clear hK) | (refine PC.condT ?_ ?_; focus (simp [go_sem, f0, f5, f6, f7, f8, hlt', b3]; done)) | (refine PC.condF ?_ ?_; focus (simp [go_sem, f0, f5, f6, f7, f8, hlt', b3]; done)) | (refine PC.exit ?_; first | (refine hK _ _ ?_; clear hK) | (clear hK; refine hK _ _ ?_; clear hK) | (clear hK; clear hK; refine hK _ _ ?_; clear hK)))
    (refine PL.callB rfl rfl (by kernel_rfl) (cT) (by simp [go_sem]) (by simp [go_sem]) (by simp [go_sem]) ?_)
    repeat (first | (refine PC.seq fun K hK => ?_) | (refine PC.block ?_) | (refine PC.region ?_) | (refine PL.k rfl fun KK hKK => ?_; simp (disch := omega) [go_sem, stepK, f7]; refine hKK _ ?_; clear hKK KK) | (refine PL.k rfl fun KK hKK => ?_; simp [go_sem, stepK, f7]; refine hKK _ ?_; clear hKK KK) | (refine PL.g rfl rfl fun KK hKK => ?_; simp (disch := omega) [go_sem, L.stepG, f7]; refine hKK _ ?_; clear hKK KK) | (refine PL.g rfl rfl fun KK hKK => ?_; simp [go_sem, L.stepG, f7]; refine hKK _ ?_; clear hKK KK) | (refine PL.done hK ?_; clear hK) | (refine PC.skip (hK _ _ ?_); clear hK) | (refine PC.condT ?_ ?_; focus (simp [go_sem, f7]; done)) | (refine PC.condF ?_ ?_; focus (simp [go_sem, f7]; done)) | (refine PC.exit ?_; first | (refine hK _ _ ?_; clear hK) | (clear hK; refine hK _ _ ?_; clear hK) | (clear hK; clear hK; refine hK _ _ ?_; clear hK)))
    (refine PL.callBg rfl rfl rfl (by simp [go_sem]) (by kernel_rfl) (knows12_ok) (by simp [go_sem]) (by simp [go_sem]) (by simp [go_sem]) ?_)
    repeat (first | (refine PC.seq fun K hK => ?_) | (refine PC.block ?_) | (refine PC.region ?_) | (refine PL.k rfl fun KK hKK => ?_; simp (disch := omega) [go_sem, stepK]; refine hKK _ ?_; clear hKK KK) | (refine PL.k rfl fun KK hKK => ?_; simp [go_sem, stepK]; refine hKK _ ?_; clear hKK KK) | (refine PL.g rfl rfl fun KK hKK => ?_; simp (disch := omega) [go_sem, L.stepG]; refine hKK _ ?_; clear hKK KK) | (refine PL.g rfl rfl fun KK hKK => ?_; simp [go_sem, L.stepG]; refine hKK _ ?_; clear hKK KK) | (refine PL.done hK ?_; clear hK) | (refine PC.skip (hK _ _ ?_); clear hK) | (refine PC.condT ?_ ?_; focus (simp [go_sem]; done)) | (refine PC.condF ?_ ?_; focus (simp [go_sem]; done)) | (refine PC.exit ?_; first | (refine hK _ _ ?_; clear hK) | (clear hK; refine hK _ _ ?_; clear hK) | (clear hK; clear hK; refine hK _ _ ?_; clear hK)))
    (refine PC.ret ?_; refine fin (.inr rfl) (by simp [resP, resP1, Try.results9, go_sem]) (by simp [go_sem]))
end Go.Proofs.Ytficeeaaaijgcaa

/-
  From a law's contract (true comes back, nothing that was there has turned) to its row, whatever its parameters' shapes.
-/
namespace Go.Proofs.Ytficeeaaaijgcaa
open Go.ChangeShapes Go.WideShapes Go.ChangeAt Go.RowKit

theorem trodAll_below {H : Type} {enc : TypeId × Value → H} {P : Program} (hl : laidOutB P = true) {W W' : World} (hb : Below W.heap.size W W') :
    ∀ (ts : List TypeId) (vs : List Value) (ds : List (DataW H)) (ps : List MemPlace), (∀ t ∈ ts, P.readableRec t = true ∧ t < P.types.size) → (∀ x ∈ ps, x.block < W.heap.size) →
      DataW.TrodAll enc P W 0 (fun _ => true) true ts vs ds ps → DataW.TrodAll enc P W' 0 (fun b => decide (b < W.heap.size)) true ts vs ds ps
  | [], vs, ds, ps, _, _, h => by
    obtain ⟨rfl, rfl, rfl⟩ := trodAll_nil h
    exact trodAll_mk0
  | t :: ts, vs, ds, ps, hr, hlt, h => by
    obtain ⟨v, vs', d, ds', p, q, rfl, rfl, rfl, h0, h1⟩ := trodAll_cons h
    have ht := hr t (by simp)
    exact trodAll_cons_mk (Below.trod hl ht.1 ht.2 h0 hb fun x hx => hlt x (by simp [hx]))
      (trodAll_below hl hb ts vs' ds' q (fun t ht => hr t (by simp [ht])) (fun x hx => hlt x (by simp [hx])) h1)

/-- A LAW's row, out of its contract. -/
theorem law_post {H : Type} {enc : TypeId × Value → H} {P : Program} {f : Func} {s : ChangeSpec} {tB : TypeId} (hl : laidOutB P = true) (hr : (f.params.toList.all fun t => P.readableRec t && decide (t < P.types.size)) = true)
    (hvars : s.vars = []) (hbool : f.resultTypes = #[tB]) (hB : P.underlying tB = some .bool) {W W' : World} {args : Array Value} {ds gs : List (DataW H)} {before : List MemPlace}
    (hW : DataW.Whole enc P f.params.toList s.vars false W args.toList ds gs before) (hfn : s.fn H ds = { results := [.lit (.bool true)], args := ds }) (hb : Below W.heap.size W W') :
    s.post enc P f false true false false W args (.bool true) W' := by
  have hW' := hW
  obtain ⟨p, q, hA, hV, hbef, _, _⟩ := hW
  rw [hvars] at hV
  obtain ⟨rfl, rfl⟩ := trodVars_none hV
  rw [List.append_nil] at hbef
  subst hbef
  have hlt : ∀ x ∈ before, x.block < W.heap.size := fun x hx => by simpa using hW'.lt x hx
  have hr' : ∀ t ∈ f.params.toList, P.readableRec t = true ∧ t < P.types.size := by
    intro t ht
    have := List.all_eq_true.1 hr t ht
    simpa using this
  refine ⟨ds, [], before, [], before, [], hW', ?_, ?_, ?_, hb.frame _, fun h => by cases h⟩
  · rw [List.append_nil, hfn, hbool]
    exact trodAll_mk1 (shut_bool hB true)
  · rw [List.append_nil, hfn]
    exact trodAll_below hl hb _ _ _ _ hr' hlt hA
  · rw [List.append_nil, hfn, hvars]
    rfl

/-- an argument of type []int, as this family reads it -/
theorem open_I {H : Type} {enc : TypeId × Value → H} {P : Program} {t e : TypeId} {w : World} {base : Nat} {held : Bool} {fuel : Nat} {a0 : Option Addr} {len cap : Nat} {d : DataW H} {p : List MemPlace} (ht : P.underlying t = some (.slice e)) (he : P.underlying e = some (.int .i64)) (hc : P.cellsOf e = 1)
    (hf : DataW.trod enc P w base (fun _ => true) held fuel t (Value.slice a0 len cap).cells.toList = some (d, p)) :
    ∃ l : List Int, RdI w (.slice a0 len cap) l ∧ CapOK (.slice a0 len cap) ∧ ∀ x ∈ l, -9223372036854775808 ≤ x ∧ x ≤ 9223372036854775807 := by
  rcases open_ints ht he hc hf with ⟨hcs, hx⟩ | ⟨a, len', cap', zs, hcs, _, hl, hm, hz, hx, hcell, hwz⟩
  · simp [Value.cells] at hcs
    obtain ⟨rfl, rfl, rfl⟩ := hcs
    exact ⟨[], Rd_nil _ _ _, Nat.le_refl _, fun x hx => by cases hx⟩
  · simp [Value.cells] at hcs
    obtain ⟨rfl, rfl, rfl⟩ := hcs
    simp only [if_true] at hz
    refine ⟨zs.take len, ⟨some a, cap, ?_, fun j hj => ?_⟩, hl, fun x hx => ?_⟩
    · rw [List.length_take, Nat.min_eq_left (by omega)]
    · rw [List.length_take] at hj
      have hcj := hcell j (by omega)
      have hsp := World.cell?_spot (hcell 0 (by omega))
      obtain ⟨b, o, sp⟩ := a
      have hsp' : sp = none := by simpa [Addr.add] using hsp
      subst hsp'
      refine ⟨b, o, rfl, ?_⟩
      rw [add_plain] at hcj
      rw [hcj, List.getElem_take, List.getD_eq_getElem?_getD, List.getElem?_eq_getElem (by omega)]
      rfl
    · have := hwz x (List.mem_of_mem_take hx)
      simpa [Lit.wf, IntKind.min, IntKind.max, IntKind.signed, IntKind.bits] using this
end Go.Proofs.Ytficeeaaaijgcaa

/-
  An argument of type []api.Rx, as the rows read it.
-/
namespace Go.Proofs.Ytficeeaaaijgcaa
open Go Go.RowKit Go.ChangeShapes Go.WideShapes L
set_option linter.unusedVariables false
set_option linter.unusedSimpArgs false

theorem cellsRx : Try.prog.cellsOf 88 = 5 := by kernel_rfl
theorem cellsSetA : Try.prog.cellsOf 28 = 4 := by kernel_rfl
theorem cellsKd : Try.prog.cellsOf 86 = 1 := by kernel_rfl
theorem cellsU64 : Try.prog.cellsOf 26 = 1 := by kernel_rfl

instance : Inhabited Rx := ⟨⟨0, 0, 0, 0, 0⟩⟩
set_option maxRecDepth 20000 in
theorem open_rxcells {H : Type} {enc : TypeId × Value → H} {w : World} {base fuel : Nat} {spare : Nat → Bool} {held : Bool} {cs : List Value} {x : DataW H × List MemPlace} (h : DataW.trod enc Try.prog w base spare held fuel 88 cs = some x) :
    ∃ r : Rx, cs = [.int .i64 r.kind, .int .u64 r.s0, .int .u64 r.s1, .int .u64 r.s2, .int .u64 r.s3] := by
  obtain ⟨xs, n, _, _, hcl, hxl, hf⟩ := DataW.trod_struct Try.underlying88 h
  rw [cellsRx] at hcl
  match cs, hcl with
  | [v0, v1, v2, v3, v4], _ =>
    have g0 := hf 0 _ rfl
    have g1 := hf 1 _ rfl
    have hx2 : xs.length = 2 := hxl
    match xs, hx2 with
    | [y0, y1], _ =>
      simp [cellsKd, cellsSetA] at g0 g1
      obtain ⟨k, hk, _, _⟩ := DataW.trod_int Try.underlying86 g0
      obtain ⟨zs, m, _, _, _, hzl, hz⟩ := DataW.trod_array Try.underlying28 g1
      have e := fun (i : Nat) (hi : i < 4) => hz i hi
      match zs, hzl with
      | [z0, z1, z2, z3], _ =>
        have e0 := e 0 (by decide)
        have e1 := e 1 (by decide)
        have e2 := e 2 (by decide)
        have e3 := e 3 (by decide)
        simp [cellsU64] at e0 e1 e2 e3
        obtain ⟨s0, h0, _, _⟩ := DataW.trod_int Try.underlying26 e0
        obtain ⟨s1, h1, _, _⟩ := DataW.trod_int Try.underlying26 e1
        obtain ⟨s2, h2, _, _⟩ := DataW.trod_int Try.underlying26 e2
        obtain ⟨s3, h3, _, _⟩ := DataW.trod_int Try.underlying26 e3
        simp at hk h0 h1 h2 h3
        subst hk h0 h1 h2 h3
        exact ⟨⟨k, s0, s1, s2, s3⟩, rfl⟩

theorem open_Rx {H : Type} {enc : TypeId × Value → H} {w : World} {base fuel : Nat} {spare : Nat → Bool} {held : Bool} {a0 : Option Addr} {len cap : Nat} {d : DataW H} {p : List MemPlace}
    (h : DataW.trod enc Try.prog w base spare held fuel 22 (Value.slice a0 len cap).cells.toList = some (d, p)) :
    ∃ l : List Rx, Rp (fun _ => False) PHeap.empty V0 w (slX l) (.slice a0 len cap) := by
  rcases Go.Deep.open_slice Try.underlying22 h with ⟨hcs, _⟩ | ⟨a, len', cap', m, n, D, Pl, hcs, hb, hl, hm, hmm, _, hx⟩
  · simp [Value.cells] at hcs
    obtain ⟨rfl, rfl, rfl⟩ := hcs
    exact ⟨[], .nil _ _ _⟩
  · simp [Value.cells] at hcs
    obtain ⟨rfl, rfl, rfl⟩ := hcs
    have hlm : len ≤ m := by rw [hmm]; split <;> omega
    by_cases h0 : len = 0
    · subst h0; exact ⟨[], .nil _ _ _⟩
    have each : ∀ i, i < m → ∃ r : Rx, w.cell? (a.add (i * 5)) = some (.int .i64 r.kind) ∧ w.cell? (a.add (i * 5 + 1)) = some (.int .u64 r.s0) ∧ w.cell? (a.add (i * 5 + 2)) = some (.int .u64 r.s1) ∧ w.cell? (a.add (i * 5 + 3)) = some (.int .u64 r.s2) ∧ w.cell? (a.add (i * 5 + 4)) = some (.int .u64 r.s3) := fun i hi => by
      obtain ⟨cs', h1, h2⟩ := hx i hi
      rw [cellsRx] at h1
      obtain ⟨_, hlen, hcell⟩ := World.cells?_some h1
      obtain ⟨r, rfl⟩ := open_rxcells h2
      have e0 := hcell 0 (by decide)
      have e1 := hcell 1 (by decide)
      have e2 := hcell 2 (by decide)
      have e3 := hcell 3 (by decide)
      have e4 := hcell 4 (by decide)
      rw [Go.Deep.add_add] at e0 e1 e2 e3 e4
      exact ⟨r, e0, e1, e2, e3, e4⟩
    obtain ⟨q, hq⟩ := Go.Deep.choose_lt each
    obtain ⟨b, o, spot⟩ := a
    have hspot : spot = none := by
      have := (hq 0 (by omega)).1
      simpa [Addr.add] using World.cell?_spot this
    subst hspot
    have hbl : b < w.heap.size := by
      have := (hq 0 (by omega)).1
      unfold World.cell? at this
      by_cases hlt : b < w.heap.size
      · exact hlt
      · simp [Addr.add, Array.getElem?_eq_none (by omega : w.heap.size ≤ b)] at this
    refine ⟨(List.range len).map q, ?_⟩
    have hu : ∀ y ∈ ((List.range len).map q).map encX, y.cells.length = 5 := fun y hy => by obtain ⟨z, _, rfl⟩ := List.mem_map.1 hy; rfl
    have hlx : (((List.range len).map q).map encX).length = len := by simp
    have hfl : ∀ (xs : List PV), (∀ y ∈ xs, y.cells.length = 5) → (xs.flatMap PV.cells).length = xs.length * 5 := fun xs hxs => flat_length xs hxs
    have key : ∀ (i : Nat) (p : PV), ((((List.range len).map q).map encX).flatMap PV.cells)[i]? = some p → ∃ v, p = .u v ∧ w.cell? ⟨b, o + i, none⟩ = some v := fun i p hp => by
      have hi : i < len * 5 := by
        have := (List.getElem?_eq_some_iff.1 hp).1
        rw [hfl _ hu, hlx] at this
        exact this
      have hj : i / 5 < len := by omega
      have hk : i % 5 < 5 := by omega
      have hy : (((List.range len).map q).map encX)[i / 5]? = some (encX (q (i / 5))) := by simp [hj]
      have e := flat_at hu (i / 5) (i % 5) _ hy hk
      rw [show i / 5 * 5 + i % 5 = i by omega, hp] at e
      obtain ⟨c0, c1, c2, c3, c4⟩ := hq (i / 5) (by omega)
      have hadd : ∀ k, w.cell? ((⟨b, o, none⟩ : Addr).add k) = w.cell? ⟨b, o + k, none⟩ := fun k => by rw [addr_add]
      rw [hadd] at c0 c1 c2 c3 c4
      have h5 : i % 5 = 0 ∨ i % 5 = 1 ∨ i % 5 = 2 ∨ i % 5 = 3 ∨ i % 5 = 4 := by omega
      rcases h5 with h5 | h5 | h5 | h5 | h5 <;> rw [h5] at e <;> simp [encX, PV.cells] at e <;> subst e
      · exact ⟨_, rfl, by rw [show o + i = o + i / 5 * 5 by omega]; exact c0⟩
      · exact ⟨_, rfl, by rw [show o + i = o + (i / 5 * 5 + 1) by omega]; exact c1⟩
      · exact ⟨_, rfl, by rw [show o + i = o + (i / 5 * 5 + 2) by omega]; exact c2⟩
      · exact ⟨_, rfl, by rw [show o + i = o + (i / 5 * 5 + 3) by omega]; exact c3⟩
      · exact ⟨_, rfl, by rw [show o + i = o + (i / 5 * 5 + 4) by omega]; exact c4⟩
    have hsl := Rp.sl (Z := fun _ => False) (H := PHeap.empty) (V := V0) (w := w) 5 (((List.range len).map q).map encX) b o cap (fun i => (w.cell? ⟨b, o + i, none⟩).getD undef) hu (by simpa using hl) (fun h => (pz_empty.1 h).elim) hbl
      (fun i p hp => by obtain ⟨v, _, hv⟩ := key i p hp; rw [hv]; rfl) (fun i p hp => by obtain ⟨v, rfl, hv⟩ := key i p hp; simp only [hv, Option.getD_some]; exact .u v)
    rwa [hlx] at hsl

/-- a law's contract over pure values, as a row takes it -/
theorem law_calls {f : FuncId} {qs : List PV} (h : PCall Try.prog f qs (· = B true)) {w : World} {vs : List Value} (hr : RpL (fun _ => False) PHeap.empty V0 w qs vs) : Calls Try.prog f vs.toArray w fun e w' => e = .returned (.bool true) ∧ Below w.heap.size w w' :=
  (h (fun _ => False) w vs (fun b hb => hb.elim) hr).mono fun e w' ⟨v, p, he, hp, _, hR, hb⟩ => by
    subst hp
    rw [rpu hR] at he
    exact ⟨he, hb⟩
theorem rpl_nil {Z : Nat → Prop} {H : PHeap} {V : Nat → Value} {w : World} : RpL Z H V w [] [] := ⟨rfl, fun i p v h => by simp at h⟩
theorem rpl_cons {Z : Nat → Prop} {H : PHeap} {V : Nat → Value} {w : World} {p : PV} {v : Value} {ps : List PV} {vs : List Value} (h : Rp Z H V w p v) (hs : RpL Z H V w ps vs) : RpL Z H V w (p :: ps) (v :: vs) := ⟨by simp [hs.1], fun i a b h1 h2 => by
  cases i with
  | zero => simp at h1 h2; subst h1; subst h2; exact h
  | succ i => exact hs.2 i a b (by simpa using h1) (by simpa using h2)⟩
section
variable {P : Program} {H : Type} {enc : TypeId × Value → H} {w : World} {base b0 : Nat} {spare : Nat → Bool} {held : Bool}
theorem open_string {r : Reach} {t : TypeId} {v : Value} {d : DataW H} {ps : List MemPlace} (ht : P.underlying t = some .string) (hval : Value.okWide P w r b0 t v) (hd : DataW.Trod enc P w base spare held t v d ps) :
    ∃ s : ByteArray, v = .string s ∧ d = .lit (.string s.data.toList) ∧ ps = [] ∧ s.size ≤ maxLen := by
  obtain ⟨s, rfl⟩ := Go.WideShapes.okWide_string ht hval
  obtain ⟨fuel, hf⟩ := hd
  cases fuel with
  | zero => simp [DataW.trod] at hf
  | succ n =>
    simp [DataW.trod, ht, Value.cells] at hf
    obtain ⟨h1, h2, h3⟩ := hf
    exact ⟨s, rfl, h2.symm, h3, h1⟩
end
end Go.Proofs.Ytficeeaaaijgcaa

/-
  Arguments of types made of lists, as the rows read them: lists of whatever elements, nets, tokens.
-/
namespace Go.Proofs.Ytficeeaaaijgcaa
open Go Go.RowKit Go.ChangeShapes Go.WideShapes L
set_option linter.unusedVariables false
set_option linter.unusedSimpArgs false

abbrev F0 : Nat → Prop := fun _ => False
section
variable {P : Program} {H : Type} {enc : TypeId × Value → H} {w : World} {base : Nat} {spare : Nat → Bool} {held : Bool}
theorem open_sl {α : Type} [Inhabited α] {t e : TypeId} {k : Nat} (rep : α → PV) (C : α → Prop) (ht : P.underlying t = some (.slice e)) (hk : P.cellsOf e = k) (hpos : 0 < k) (hcell : ∀ a, (rep a).cells.length = k)
    (helem : ∀ (n : Nat) (cs' : List Value) (x : DataW H × List MemPlace), DataW.trod enc P w base spare held n e cs' = some x → ∃ a, RpL F0 PHeap.empty V0 w (rep a).cells cs' ∧ C a) {fuel : Nat} {cs : List Value} {x : DataW H × List MemPlace} (h : DataW.trod enc P w base spare held fuel t cs = some x) :
    ∃ (l : List α) (v : Value), cs = [v] ∧ Rp F0 PHeap.empty V0 w (.sl k (l.map rep)) v ∧ l.length ≤ maxLen ∧ ∀ a ∈ l, C a := by
  rcases Go.Deep.open_slice ht h with ⟨hcs, _⟩ | ⟨a, len, cap, m, n, D, Pl, hcs, hb, hl, hm, hmm, _, hx⟩
  · exact ⟨[], _, hcs, .nil _ _ _, Nat.zero_le _, fun a ha => by cases ha⟩
  · have hlm : len ≤ m := by rw [hmm]; split <;> omega
    by_cases h0 : len = 0
    · subst h0; exact ⟨[], _, hcs, .nil _ _ _, Nat.zero_le _, fun a ha => by cases ha⟩
    have each : ∀ i, i < m → ∃ q : α, (∀ r, r < k → ∃ u p, w.cell? (a.add (i * k + r)) = some u ∧ (rep q).cells[r]? = some p ∧ Rp F0 PHeap.empty V0 w p u) ∧ C q := fun i hi => by
      obtain ⟨cs', h1, h2⟩ := hx i hi
      rw [hk] at h1
      obtain ⟨_, hlen, hcl⟩ := World.cells?_some h1
      obtain ⟨q, hq, hC⟩ := helem n cs' _ h2
      refine ⟨q, fun r hr => ?_, hC⟩
      have e0 := hcl r hr
      rw [Go.Deep.add_add] at e0
      have h3 : r < cs'.length := by omega
      have h4 : r < (rep q).cells.length := by rw [hcell]; exact hr
      rw [List.getElem?_eq_getElem h3] at e0
      exact ⟨_, _, e0, List.getElem?_eq_getElem h4, hq.2 r _ _ (List.getElem?_eq_getElem h4) (List.getElem?_eq_getElem h3)⟩
    obtain ⟨q, hq⟩ := Go.Deep.choose_lt each
    obtain ⟨b, o, spot⟩ := a
    obtain ⟨u0, _, hu0, _, _⟩ := (hq 0 (by omega)).1 0 hpos
    have hspot : spot = none := by simpa [Addr.add] using World.cell?_spot hu0
    subst hspot
    have hbl : b < w.heap.size := by
      unfold World.cell? at hu0
      by_cases hlt : b < w.heap.size
      · exact hlt
      · simp [Addr.add, Array.getElem?_eq_none (by omega : w.heap.size ≤ b)] at hu0
    refine ⟨(List.range len).map q, _, hcs, ?_, by simp; omega, fun z hz => by obtain ⟨i, hi, rfl⟩ := List.mem_map.1 hz; exact (hq i (by have := List.mem_range.1 hi; omega)).2⟩
    have hu : ∀ y ∈ ((List.range len).map q).map rep, y.cells.length = k := fun y hy => by obtain ⟨z, _, rfl⟩ := List.mem_map.1 hy; exact hcell z
    have hlx : (((List.range len).map q).map rep).length = len := by simp
    have hadd : ∀ k, w.cell? ((⟨b, o, none⟩ : Addr).add k) = w.cell? ⟨b, o + k, none⟩ := fun k => by rw [addr_add]
    have key : ∀ (i : Nat) (p : PV), ((((List.range len).map q).map rep).flatMap PV.cells)[i]? = some p → ∃ v, w.cell? ⟨b, o + i, none⟩ = some v ∧ Rp F0 PHeap.empty V0 w p v := fun i p hp => by
      have hi : i < len * k := by
        have := (List.getElem?_eq_some_iff.1 hp).1
        rw [L.flat_length _ hu, hlx] at this
        exact this
      have hj : i / k < len := by rw [Nat.div_lt_iff_lt_mul hpos]; exact hi
      have hr : i % k < k := Nat.mod_lt _ hpos
      have hy : (((List.range len).map q).map rep)[i / k]? = some (rep (q (i / k))) := by simp [hj]
      have e := flat_at hu (i / k) (i % k) _ hy hr
      have hdm : i / k * k + i % k = i := by rw [Nat.mul_comm]; exact Nat.div_add_mod i k
      rw [hdm, hp] at e
      obtain ⟨u, p', h1, h2, h3⟩ := (hq (i / k) (by omega)).1 (i % k) hr
      rw [← e] at h2
      cases h2
      rw [hadd, hdm] at h1
      exact ⟨u, h1, h3⟩
    have hsl := Rp.sl (Z := F0) (H := PHeap.empty) (V := V0) (w := w) k (((List.range len).map q).map rep) b o cap (fun i => (w.cell? ⟨b, o + i, none⟩).getD undef) hu (by simpa using hl) (fun h => (pz_empty.1 h).elim) hbl
      (fun i p hp => by obtain ⟨v, hv, _⟩ := key i p hp; rw [hv]; rfl) (fun i p hp => by obtain ⟨v, hv, hr⟩ := key i p hp; simp only [hv, Option.getD_some]; exact hr)
    rwa [hlx] at hsl
theorem rpl_one {p : PV} {v : Value} (h : Rp F0 PHeap.empty V0 w p v) : RpL F0 PHeap.empty V0 w [p] [v] := rpl_cons h rpl_nil
end

section
variable {H : Type} {enc : TypeId × Value → H} {w : World} {base : Nat} {spare : Nat → Bool} {held : Bool}
theorem cInt : Try.prog.cellsOf 3 = 1 := by kernel_rfl
theorem cBool : Try.prog.cellsOf 4 = 1 := by kernel_rfl
theorem cInts : Try.prog.cellsOf 30 = 1 := by kernel_rfl
theorem cBools : Try.prog.cellsOf 51 = 1 := by kernel_rfl
theorem cLists : Try.prog.cellsOf 44 = 1 := by kernel_rfl
theorem cSets : Try.prog.cellsOf 24 = 1 := by kernel_rfl
theorem cRxs : Try.prog.cellsOf 22 = 1 := by kernel_rfl
theorem cNet : Try.prog.cellsOf 61 = 5 := by kernel_rfl
theorem cTok : Try.prog.cellsOf 68 = 3 := by kernel_rfl
theorem cStr : Try.prog.cellsOf 9 = 1 := by kernel_rfl
theorem cCls : Try.prog.cellsOf 66 = 1 := by kernel_rfl

theorem open_ints2 {fuel : Nat} {cs : List Value} {x : DataW H × List MemPlace} (h : DataW.trod enc Try.prog w base spare held fuel 30 cs = some x) :
    ∃ (l : List Int) (v : Value), cs = [v] ∧ Rp F0 PHeap.empty V0 w (slI l) v ∧ l.length ≤ maxLen ∧ ∀ a ∈ l, True :=
  open_sl I (fun _ => True) Try.underlying30 cInt (by decide) (fun _ => rfl) (fun n cs' x h => by
    obtain ⟨z, rfl, _, _⟩ := DataW.trod_int Try.underlying3 h
    exact ⟨z, rpl_one (.u _), trivial⟩) h
theorem open_bools2 {fuel : Nat} {cs : List Value} {x : DataW H × List MemPlace} (h : DataW.trod enc Try.prog w base spare held fuel 51 cs = some x) :
    ∃ (l : List Bool) (v : Value), cs = [v] ∧ Rp F0 PHeap.empty V0 w (slB l) v ∧ l.length ≤ maxLen ∧ ∀ a ∈ l, True :=
  open_sl B (fun _ => True) Try.underlying51 cBool (by decide) (fun _ => rfl) (fun n cs' x h => by
    obtain ⟨z, rfl, _⟩ := DataW.trod_bool Try.underlying4 h
    exact ⟨z, rpl_one (.u _), trivial⟩) h
theorem open_lists2 {fuel : Nat} {cs : List Value} {x : DataW H × List MemPlace} (h : DataW.trod enc Try.prog w base spare held fuel 44 cs = some x) :
    ∃ (l : List (List Int)) (v : Value), cs = [v] ∧ Rp F0 PHeap.empty V0 w (slLL l) v ∧ l.length ≤ maxLen ∧ ∀ a ∈ l, a.length ≤ maxLen :=
  open_sl slI (fun a => a.length ≤ maxLen) Try.underlying44 cInts (by decide) (fun _ => rfl) (fun n cs' x h => by
    obtain ⟨l, v, rfl, hr, hl, _⟩ := open_ints2 h
    exact ⟨l, rpl_one hr, hl⟩) h
set_option maxRecDepth 20000 in
theorem open_setcells {fuel : Nat} {cs : List Value} {x : DataW H × List MemPlace} (h : DataW.trod enc Try.prog w base spare held fuel 28 cs = some x) : ∃ s0 s1 s2 s3 : Int, cs = [.int .u64 s0, .int .u64 s1, .int .u64 s2, .int .u64 s3] ∧ 0 ≤ s0 ∧ 0 ≤ s1 ∧ 0 ≤ s2 ∧ 0 ≤ s3 := by
  obtain ⟨zs, m, _, _, hcl, hzl, hz⟩ := DataW.trod_array Try.underlying28 h
  rw [cellsSetA] at hcl
  match cs, hcl with
  | [v0, v1, v2, v3], _ =>
    have e := fun (i : Nat) (hi : i < 4) => hz i hi
    match zs, hzl with
    | [z0, z1, z2, z3], _ =>
      have e0 := e 0 (by decide)
      have e1 := e 1 (by decide)
      have e2 := e 2 (by decide)
      have e3 := e 3 (by decide)
      simp [cellsU64] at e0 e1 e2 e3
      obtain ⟨s0, h0, _, w0⟩ := DataW.trod_int Try.underlying26 e0
      obtain ⟨s1, h1, _, w1⟩ := DataW.trod_int Try.underlying26 e1
      obtain ⟨s2, h2, _, w2⟩ := DataW.trod_int Try.underlying26 e2
      obtain ⟨s3, h3, _, w3⟩ := DataW.trod_int Try.underlying26 e3
      simp at h0 h1 h2 h3
      subst h0 h1 h2 h3
      simp [Lit.wf, IntKind.min, IntKind.max, IntKind.signed, IntKind.bits] at w0 w1 w2 w3
      exact ⟨s0, s1, s2, s3, rfl, w0.1, w1.1, w2.1, w3.1⟩
theorem open_sets2 {fuel : Nat} {cs : List Value} {x : DataW H × List MemPlace} (h : DataW.trod enc Try.prog w base spare held fuel 24 cs = some x) :
    ∃ (l : List Rx) (v : Value), cs = [v] ∧ Rp F0 PHeap.empty V0 w (slS l) v ∧ l.length ≤ maxLen ∧ ∀ a ∈ l, a.nn :=
  open_sl encS Rx.nn Try.underlying24 cellsSetA (by decide) (fun _ => rfl) (fun n cs' x h => by
    obtain ⟨s0, s1, s2, s3, rfl, h0, h1, h2, h3⟩ := open_setcells h
    exact ⟨⟨0, s0, s1, s2, s3⟩, rpl_cons (.u _) (rpl_cons (.u _) (rpl_cons (.u _) (rpl_cons (.u _) rpl_nil))), h0, h1, h2, h3⟩) h

theorem rpl_get5 {a b c d e : PV} {v0 v1 v2 v3 v4 : Value} (h0 : Rp F0 PHeap.empty V0 w a v0) (h1 : Rp F0 PHeap.empty V0 w b v1) (h2 : Rp F0 PHeap.empty V0 w c v2) (h3 : Rp F0 PHeap.empty V0 w d v3) (h4 : Rp F0 PHeap.empty V0 w e v4) : RpL F0 PHeap.empty V0 w [a, b, c, d, e] [v0, v1, v2, v3, v4] :=
  rpl_cons h0 (rpl_cons h1 (rpl_cons h2 (rpl_cons h3 (rpl_cons h4 rpl_nil))))
set_option maxRecDepth 20000 in
theorem open_Net {r : Reach} {b0 : Nat} {v : Value} {d : DataW H} {ps : List MemPlace} (hval : Value.okWide Try.prog w r b0 61 v) (hd : DataW.Trod enc Try.prog w base spare held 61 v d ps) :
    ∃ n : Net, Rp F0 PHeap.empty V0 w (netV n) v ∧ Nb n ∧ ∀ x ∈ n.sets, x.nn := by
  obtain ⟨cs, rfl, hsz⟩ := Go.WideShapes.okWide_struct Try.underlying61 hval
  obtain ⟨fuel, h⟩ := hd
  obtain ⟨xs, n, _, _, hcl, hxl, hf⟩ := DataW.trod_struct Try.underlying61 h
  rw [cNet] at hcl
  have hcl : cs.toList.length = 5 := hcl
  have hf : ∀ (i : Nat) (f : Field), _ → DataW.trod enc Try.prog w base spare held n f.type ((cs.toList.drop f.offset).take (Try.prog.cellsOf f.type)) = xs[i]? := hf
  obtain ⟨cl⟩ := cs
  match cl, hcl with
  | [v0, v1, v2, v3, v4], _ =>
    have g0 := hf 0 _ rfl
    have g1 := hf 1 _ rfl
    have g2 := hf 2 _ rfl
    have g3 := hf 3 _ rfl
    have g4 := hf 4 _ rfl
    have hx2 : xs.length = 5 := hxl
    match xs, hx2 with
    | [y0, y1, y2, y3, y4], _ =>
      simp [cSets, cInts, cBools, cLists] at g0 g1 g2 g3 g4
      obtain ⟨l0, u0, e0, r0, n0, c0⟩ := open_sets2 g0
      obtain ⟨l1, u1, e1, r1, n1, c1⟩ := open_ints2 g1
      obtain ⟨l2, u2, e2, r2, n2, c2⟩ := open_bools2 g2
      obtain ⟨l3, u3, e3, r3, n3, c3⟩ := open_lists2 g3
      obtain ⟨l4, u4, e4, r4, n4, c4⟩ := open_ints2 g4
      simp at e0 e1 e2 e3 e4
      subst e0 e1 e2 e3 e4
      have hL := rpl_get5 r0 r1 r2 r3 r4
      refine ⟨⟨l0, l1, l2, l3, l4⟩, .agg _ _ rfl fun i p u h1 h2 => hL.2 i p u h1 (by simpa using h2), ⟨?_, ?_, ?_, ?_, ?_, ?_⟩, c0⟩
      all_goals simp only [maxLen] at *
      · omega
      · omega
      · omega
      · omega
      · intro x hx; have := c3 x hx; omega
      · omega
end
theorem byte_of {n : Int} (h : (Lit.int .u8 n).wf = true) : ∃ b : Nat, n = (b : Int) ∧ b < 256 := by
  simp [Lit.wf, IntKind.min, IntKind.max, IntKind.signed, IntKind.bits] at h
  exact ⟨n.toNat, by omega, by omega⟩
end Go.Proofs.Ytficeeaaaijgcaa

/-
  An argument of type []api.Token, as the rows read it.
-/
namespace Go.Proofs.Ytficeeaaaijgcaa
open Go Go.RowKit Go.ChangeShapes Go.WideShapes L
set_option linter.unusedVariables false
set_option linter.unusedSimpArgs false
section
variable {H : Type} {enc : TypeId × Value → H} {w : World} {base : Nat} {spare : Nat → Bool} {held : Bool}
set_option maxRecDepth 20000 in
theorem open_rxnn {fuel : Nat} {cs : List Value} {x : DataW H × List MemPlace} (h : DataW.trod enc Try.prog w base spare held fuel 88 cs = some x) :
    ∃ r : Rx, cs = [.int .i64 r.kind, .int .u64 r.s0, .int .u64 r.s1, .int .u64 r.s2, .int .u64 r.s3] ∧ r.nn := by
  obtain ⟨xs, n, _, _, hcl, hxl, hf⟩ := DataW.trod_struct Try.underlying88 h
  rw [cellsRx] at hcl
  match cs, hcl with
  | [v0, v1, v2, v3, v4], _ =>
    have g0 := hf 0 _ rfl
    have g1 := hf 1 _ rfl
    have hx2 : xs.length = 2 := hxl
    match xs, hx2 with
    | [y0, y1], _ =>
      simp [cellsKd, cellsSetA] at g0 g1
      obtain ⟨k, hk, _, _⟩ := DataW.trod_int Try.underlying86 g0
      obtain ⟨s0, s1, s2, s3, hs, h0, h1, h2, h3⟩ := open_setcells g1
      simp at hk hs
      obtain ⟨rfl, rfl, rfl, rfl⟩ := hs
      subst hk
      exact ⟨⟨k, s0, s1, s2, s3⟩, rfl, h0, h1, h2, h3⟩
theorem open_rexes2 {fuel : Nat} {cs : List Value} {x : DataW H × List MemPlace} (h : DataW.trod enc Try.prog w base spare held fuel 22 cs = some x) :
    ∃ (l : List Rx) (v : Value), cs = [v] ∧ Rp F0 PHeap.empty V0 w (slX l) v ∧ l.length ≤ maxLen ∧ ∀ a ∈ l, a.nn :=
  open_sl encX Rx.nn Try.underlying22 cellsRx (by decide) (fun _ => rfl) (fun n cs' x h => by
    obtain ⟨r, rfl, hr⟩ := open_rxnn h
    exact ⟨r, rpl_get5 (.u _) (.u _) (.u _) (.u _) (.u _), hr⟩) h
instance : Inhabited Tok := ⟨⟨ByteArray.empty, [], 0⟩⟩
set_option maxRecDepth 20000 in
theorem open_tokcells {fuel : Nat} {cs : List Value} {x : DataW H × List MemPlace} (h : DataW.trod enc Try.prog w base spare held fuel 68 cs = some x) :
    ∃ t : Tok, RpL F0 PHeap.empty V0 w (tokV t).cells cs ∧ ∀ a ∈ t.rex, a.nn := by
  obtain ⟨xs, n, _, _, hcl, hxl, hf⟩ := DataW.trod_struct Try.underlying68 h
  rw [cTok] at hcl
  match cs, hcl with
  | [v0, v1, v2], _ =>
    have g0 := hf 0 _ rfl
    have g1 := hf 1 _ rfl
    have g2 := hf 2 _ rfl
    have hx2 : xs.length = 3 := hxl
    match xs, hx2 with
    | [y0, y1, y2], _ =>
      simp [cStr, cRxs, cCls] at g0 g1 g2
      obtain ⟨s, e0, _, _⟩ := DataW.trod_string Try.underlying9 g0
      obtain ⟨l, u, e1, r1, _, c1⟩ := open_rexes2 g1
      obtain ⟨k, e2, _, _⟩ := DataW.trod_int Try.underlying66 g2
      simp at e0 e1 e2
      subst e0 e1 e2
      exact ⟨⟨s, l, k⟩, rpl_cons (.u _) (rpl_cons r1 (rpl_cons (.u _) rpl_nil)), c1⟩
theorem open_toks2 {fuel : Nat} {cs : List Value} {x : DataW H × List MemPlace} (h : DataW.trod enc Try.prog w base spare held fuel 58 cs = some x) :
    ∃ (l : List Tok) (v : Value), cs = [v] ∧ Rp F0 PHeap.empty V0 w (slT l) v ∧ l.length ≤ maxLen ∧ ∀ t ∈ l, ∀ a ∈ t.rex, a.nn :=
  open_sl tokV (fun t => ∀ a ∈ t.rex, a.nn) Try.underlying58 cTok (by decide) (fun _ => rfl) (fun n cs' x h => open_tokcells h) h
end
end Go.Proofs.Ytficeeaaaijgcaa
