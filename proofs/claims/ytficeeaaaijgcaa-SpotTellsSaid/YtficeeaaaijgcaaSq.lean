/-
  The package spot over pure values: behind.
-/
import Derived.Test.YtficeeaaaijgcaaSo
namespace Go.Proofs.Ytficeeaaaijgcaa
open Go Go.RowKit L
set_option linter.unusedVariables false
set_option linter.unusedSimpArgs false

/-- a slot or a cell tells a list of numbers -/
def isL (p : PV) (l : List Int) : Prop := p = slI l ∨ (p = .u (.slice none 0 0) ∧ l = [])
theorem noP_slI (l : List Int) : NoP (slI l) := .sl _ _ fun c hc => by obtain ⟨z, _, rfl⟩ := List.mem_map.1 hc; exact .u _
theorem isL.noP {p : PV} {l : List Int} (h : isL p l) : NoP p := by
  rcases h with rfl | ⟨rfl, _⟩
  · exact noP_slI l
  · exact .u _
theorem isL.view {p : PV} {l : List Int} (h : isL p l) (H : PHeap) : View H p (slI l) := by
  rcases h with rfl | ⟨rfl, rfl⟩
  · exact View.noP (noP_slI l)
  · exact View.nil 1 none 0
theorem isL.leaf {p : PV} {l : List Int} (h : isL p l) (H : PHeap) : leafOk H p = true := by
  rcases h with rfl | ⟨rfl, _⟩ <;> rfl
theorem isL.cells {p : PV} {l : List Int} (h : isL p l) : p.cells = [p] := by
  rcases h with rfl | ⟨rfl, _⟩ <;> rfl
theorem isL.okC {p : PV} {l : List Int} (h : isL p l) (H : PHeap) : okC H p = true := by
  rcases h with rfl | ⟨rfl, _⟩ <;> rfl
theorem isL.len {P : Program} {t : TypeId} {p : PV} {l : List Int} (ht : isSlice P t = true) (h : isL p l) (H : PHeap) : lenP P H t p = some (I l.length) := by
  rcases h with rfl | ⟨rfl, rfl⟩ <;> simp [lenP, slI, ht, I]
theorem isL.sl {p : PV} {l : List Int} (h : isL p l) (hl : l ≠ []) : p = slI l := by
  rcases h with h | ⟨_, h⟩
  · exact h
  · exact absurd h hl
theorem isL_sl (l : List Int) : isL (slI l) l := .inl rfl

def FolAt (fc : List PV) (fol : List (List Int)) : Prop := fc.length = fol.length ∧ ∀ (i : Nat) (p : PV) (l : List Int), fc[i]? = some p → fol[i]? = some l → isL p l
theorem FolAt.set {fc : List PV} {fol : List (List Int)} (h : FolAt fc fol) (i : Nat) (l : List Int) : FolAt (fc.set i (slI l)) (fol.set i l) := ⟨by simp [h.1], fun j p m h1 h2 => by
  rw [List.getElem?_set] at h1 h2
  by_cases e : i = j
  · rw [if_pos e] at h1 h2
    split at h1
    · rename_i hlt
      rw [if_pos (by rw [← h.1]; exact hlt)] at h2
      cases h1; cases h2; exact isL_sl l
    · cases h1
  · rw [if_neg e] at h1 h2
    exact h.2 j p m h1 h2⟩

theorem setMany_one {α : Type} (cs : List α) (i : Nat) (p : α) (h : i < cs.length) : setMany cs i [p] = cs.set i p := by
  apply List.ext_getElem?
  intro j
  rw [setMany_get _ _ _ (by simp; omega), List.getElem?_set]
  by_cases e : i = j
  · subst e; simp [h]
  · rw [if_neg (by simp; omega), if_neg e]

theorem rising_le (l : List Int) (h : Rising l) (N : Nat) (hb : ∀ x ∈ l, 0 ≤ x ∧ x < (N : Int)) : l.length ≤ N := by
  by_cases h0 : l.length = 0
  · omega
  · have := rising_at l h (fun x hx => (hb x hx).1) (l.length - 1) (by omega)
    have h2 := (hb _ (List.getElem_mem (show l.length - 1 < l.length by omega))).2
    omega

set_option maxHeartbeats 1000000 in
theorem behind_in (x vx idf vf m0 : Nat) (H : PHeap) (sp p2 p3 p4 p5 pa pb : PV) (fc : List PV) (fol : List (List Int)) (a b : List Int) (N : Nat)
    (hx : H x = ⟨vx, some (.box 85 [sp, rowV m0 idf vf, p2, p3, p4, p5])⟩) (hf : RowAt H 30 1 m0 idf vf fc) (hm0 : fol.length = m0) (hne : x ≠ idf) (hfc : FolAt fc fol) (hpa : isL pa a) (hb : isL pb b)
    (hN : N ≤ 1000) (hsm : SmF N fol) (hbN : ∀ y ∈ b, 0 ≤ y ∧ y < (N : Int)) (hbl : b.length ≤ 1000) (ha : ∀ i ∈ a, 0 ≤ i ∧ i < (fol.length : Int)) (hal : a.length ≤ 1000000) :
    PIn Try.prog 93 [.pp x 0 vx, pa, pb] H (fun q H' => q = .tup [] ∧ (∀ j, j ≠ idf → H' j = H j) ∧ ∃ fc', RowAt H' 30 1 m0 idf vf fc' ∧ FolAt fc' (a.foldl (updF b) fol)) := by
  refine PIn.intro Try.func93 rfl Try.ntmps93 (by simp) (by kernel_rfl) fun W => ?_
  refine PC.seq fun K hK => ?_
  refine PC.region ?_
  have hlen := hpa.len isSlice_30 H
  repeat (refine PL.k rfl fun KK hKK => ?_; simp [go_sem, stepK, hlen]; refine hKK _ ?_; clear hKK KK)
  refine PL.done hK ?_; clear hK
  refine PC.block ?_
  refine PC.loop (fun m F H' => ∃ k : Nat, k ≤ a.length ∧ m = a.length - k ∧ F 0 = .pp x 0 vx ∧ F 2 = pb ∧ F 8 = pa ∧ F 9 = I a.length ∧ F 10 = I k ∧ (∀ j, j ≠ idf → H' j = H j) ∧ ∃ fc', RowAt H' 30 1 m0 idf vf fc' ∧ FolAt fc' ((a.take k).foldl (updF b) fol)) (m := a.length) ⟨0, by omega, by omega, by simp [go_sem], by simp [go_sem], by simp [go_sem], by simp [go_sem], by simp [go_sem], fun _ _ => rfl, fc, hf, by simpa using hfc⟩ fun m F H' hI => ?_
  obtain ⟨k, hk, hm, h0, h2, h8, h9, h10, hoth, fc', hrow, hfol⟩ := hI
  by_cases hlt : k < a.length
  · have hA : ∀ (t : Nat) (x y : Operand), binP Try.prog .add t x y (I (k : Int)) (I 1) = some (I ((k : Int) + 1)) := fun t x y => binP_add (by omega) (by omega)
    have hps := hpa.sl (by intro e; rw [e] at hlt; simp at hlt)
    rw [hps] at h8
    have hak := ha a[k] (List.getElem_mem hlt)
    obtain ⟨u, hu⟩ : ∃ u : Nat, a[k] = (u : Int) := ⟨a[k].toNat, by omega⟩
    rw [hu] at hak
    have hul : u < fol.length := by omega
    have hfl : ((a.take k).foldl (updF b) fol).length = fol.length := foldl_updF_len _ _ _
    have hfcl : fc'.length = fol.length := by rw [hfol.1, hfl]
    have huf : u < fc'.length := by omega
    have hm1 : m0 ≠ 0 := by omega
    have hfm : fc'.length = m0 := by omega
    have hrow := hrow.2 hm1
    have hum : u < m0 := by omega
    have hcell : fc'[u]? = some fc'[u] := List.getElem?_eq_getElem huf
    have hsm' : SmF N ((a.take k).foldl (updF b) fol) := hsm.fold _ hbN _
    obtain ⟨lu, hlu⟩ : ∃ lu, ((a.take k).foldl (updF b) fol)[u]? = some lu := ⟨_, List.getElem?_eq_getElem (by omega)⟩
    have hisl : isL fc'[u] lu := hfol.2 u _ _ hcell hlu
    have hlul : lu.length ≤ N := by
      obtain ⟨r1, r2⟩ := hsm' lu (List.mem_of_getElem? hlu)
      exact rising_le lu r1 N r2
    refine PC.seq fun K2 hK2 => ?_
    refine PC.region ?_
    repeat (refine PL.k rfl fun KK hKK => ?_; simp [go_sem, stepK, h8, h9, h10, hlt]; refine hKK _ ?_; clear hKK KK)
    refine PL.done hK2 ?_; clear hK2
    refine PC.seq fun K2 hK2 => ?_
    refine PC.condT (by simp [go_sem]) ?_
    refine PC.skip (hK2 _ _ ?_); clear hK2
    refine PC.seq fun K2 hK2 => ?_
    refine PC.block ?_
    refine PC.seq fun K3 hK3 => ?_
    refine PC.region ?_
    repeat (refine PL.k rfl fun KK hKK => ?_; simp [go_sem, stepK, h8, h9, h10, hlt, slI, hu]; refine hKK _ ?_; clear hKK KK)
    refine PL.done hK3 ?_; clear hK3
    refine PC.regionT 15 mixed (by kernel_rfl) ?_
    simp only [List.take_succ_cons, List.take_zero, List.drop_succ_cons, List.drop_zero]
    have hxx : H' x = ⟨vx, some (.box 85 [sp, .ps idf vf, p2, p3, p4, p5])⟩ := by rw [hoth x hne, hx, rowV_pos hm1]
    repeat (refine QF.k rfl fun KK hKK => ?_; simp [go_sem, stepK, h0, h2, hxx, hrow, huf, hcell, hum]; refine hKK _ ?_; clear hKK KK)
    refine QF.callB (qs := [slI lu, slI b]) rfl rfl (by kernel_rfl) (union_ok lu b (by omega)) (by simp [go_sem]) ?_ ?_ ?_
    · simp [go_sem, hisl.noP, hb.noP, h2]
    · simp [go_sem, hisl.view, hb.view, h2]
    repeat (refine QF.k rfl fun KK hKK => ?_; simp [go_sem, stepK, h0, h2, hxx, hrow, huf, hum]; refine hKK _ ?_; clear hKK KK)
    refine QF.nil ?_
    refine PL.pe rfl (PE.store (id := idf) (off := u) (ver := vf) (k := 1) (ag := false) (cs := fc') (bd := .row 30 1 m0 fc') rfl (by simp [go_sem]) (by simp [go_sem]) (by simp [go_sem, hrow]) (by simp [go_sem]) (by simp [go_sem, slI, okC, leafOk]) (by simp [go_sem, slI]) (by omega) (by simp [hrow]) ?_)
    refine PL.done hK2 ?_; clear hK2
    refine PC.region ?_
    repeat (refine PL.k rfl fun KK hKK => ?_; simp [go_sem, stepK, h0, h2, h8, h9, h10, hA]; refine hKK _ ?_; clear hKK KK)
    refine PL.nil ⟨a.length - (k + 1), by omega, k + 1, by omega, by omega, ?_, ?_, ?_, ?_, ?_, ?_, fc'.set u (slI (riseL (lu ++ b))), ?_, ?_⟩
    · simp [go_sem, h0]
    · simp [go_sem, h2]
    · simp [go_sem, h8, hps]
    · simp [go_sem, h9]
    · simp [go_sem]
    · intro j hj; simp [go_sem, hj, hoth j hj]
    · refine ⟨by simpa using hfm, fun _ => ?_⟩
      simp only [go_sem, if_true]
      simp [go_sem, storeB, slI, setMany_one _ _ _ huf]
    · rw [List.take_succ_eq_append_getElem hlt, List.foldl_append, hu]
      have := hfol.set u (riseL (lu ++ b))
      simp only [List.foldl_cons, List.foldl_nil, updF, Int.toNat_natCast]
      rw [List.getD_eq_getElem?_getD, hlu]
      exact this
  · have hka : k = a.length := by omega
    subst hka
    refine PC.seq fun K2 hK2 => ?_
    refine PC.region ?_
    repeat (refine PL.k rfl fun KK hKK => ?_; simp [go_sem, stepK, h8, h9, h10]; refine hKK _ ?_; clear hKK KK)
    refine PL.done hK2 ?_; clear hK2
    refine PC.seq fun K2 hK2 => ?_
    refine PC.condF (by simp [go_sem]) ?_
    refine PC.exit ?_
    refine ⟨.inl rfl, .tup [], ?_, rfl, hoth, fc', hrow, ?_⟩
    · simp [resP, Try.results93]
    · rwa [List.take_of_length_le (Nat.le_refl _)] at hfol
end Go.Proofs.Ytficeeaaaijgcaa
