/-
  Rising lists of ints, as plain facts: they are known by their members; sorting and compacting makes one; no program here.
-/
import Derived.Lib.SlicesCompact
namespace Go.Proofs.Ytficeeaaaijgcaa
open Go

def sortL (l : List Int) : List Int := l.mergeSort fun x y => decide (x ≤ y)
def compactL (l : List Int) : List Int := Lib.compact l
def Rising (l : List Int) : Prop := l.Pairwise (· < ·)

theorem rise_ext {a b : List Int} (ha : Rising a) (hb : Rising b) (h : ∀ x, x ∈ a ↔ x ∈ b) : a = b := by
  induction a generalizing b with
  | nil =>
    cases b with
    | nil => rfl
    | cons y b => exact absurd ((h y).2 (by simp)) (by simp)
  | cons x a ih =>
    cases b with
    | nil => exact absurd ((h x).1 (by simp)) (by simp)
    | cons y b =>
      obtain ⟨ha1, ha2⟩ := List.pairwise_cons.1 ha
      obtain ⟨hb1, hb2⟩ := List.pairwise_cons.1 hb
      have exy : x = y := by
        have h1 := (h x).1 (by simp)
        have h2 := (h y).2 (by simp)
        rcases List.mem_cons.1 h1 with e | e
        · exact e
        · rcases List.mem_cons.1 h2 with e' | e'
          · exact e'.symm
          · have := hb1 x e; have := ha1 y e'; omega
      subst exy
      congr 1
      refine ih ha2 hb2 fun z => ⟨fun hz => ?_, fun hz => ?_⟩
      · rcases List.mem_cons.1 ((h z).1 (List.mem_cons_of_mem _ hz)) with e | e
        · subst e; exact absurd (ha1 z hz) (by omega)
        · exact e
      · rcases List.mem_cons.1 ((h z).2 (List.mem_cons_of_mem _ hz)) with e | e
        · subst e; exact absurd (hb1 z hz) (by omega)
        · exact e

theorem sortL_sorted (l : List Int) : (sortL l).Pairwise (· ≤ ·) := by
  have h : (l.mergeSort fun x y => decide (x ≤ y)).Pairwise fun a b => decide (a ≤ b) = true := List.pairwise_mergeSort (le := fun x y => decide (x ≤ y)) (by simp; intro a b c; omega) (by simp; intro a b; omega) l
  exact h.imp (by intro a b; simp)
theorem sortL_mem (l : List Int) (x : Int) : x ∈ sortL l ↔ x ∈ l := by simp [sortL]
theorem sortL_length (l : List Int) : (sortL l).length = l.length := List.length_mergeSort l

theorem compactUpTo_rise (d : Array Int) (hd : ∀ i j, i < j → j < d.size → d[i]! ≤ d[j]!) (m : Nat) (hm : m ≤ d.size) :
    Rising (Lib.compactUpTo d m) ∧ (∀ x ∈ Lib.compactUpTo d m, ∃ j, j < m ∧ x = d[j]!) ∧ ∀ j, j < m → d[j]! ∈ Lib.compactUpTo d m := by
  induction m with
  | zero => exact ⟨by simp [Lib.compactUpTo, Rising], by simp [Lib.compactUpTo], by intro j hj; omega⟩
  | succ m ih =>
    obtain ⟨h1, h2, h3⟩ := ih (by omega)
    rw [Lib.compactUpTo_succ]
    by_cases hk : Lib.keeps d m = true
    · rw [if_pos hk]
      refine ⟨?_, ?_, ?_⟩
      · unfold Rising
        rw [List.pairwise_append]
        refine ⟨h1, by simp, ?_⟩
        intro x hx y hy
        obtain ⟨j, hj, rfl⟩ := h2 x hx
        rw [List.mem_singleton] at hy
        subst hy
        have hne : d[m]! ≠ d[m-1]! := by
          simp [Lib.keeps] at hk
          rcases hk with hk | hk
          · omega
          · exact hk
        have h5 := hd j m hj (by omega)
        have h6 := hd (m-1) m (by omega) (by omega)
        by_cases e : j = m - 1
        · subst e; omega
        · have := hd j (m-1) (by omega) (by omega); omega
      · intro x hx
        rcases List.mem_append.1 hx with hx | hx
        · obtain ⟨j, hj, e⟩ := h2 x hx; exact ⟨j, by omega, e⟩
        · rw [List.mem_singleton] at hx; exact ⟨m, by omega, hx⟩
      · intro j hj
        by_cases e : j = m
        · subst e; simp
        · exact List.mem_append_left _ (h3 j (by omega))
    · rw [if_neg hk, List.append_nil]
      refine ⟨h1, fun x hx => ?_, fun j hj => ?_⟩
      · obtain ⟨j, hj, e⟩ := h2 x hx; exact ⟨j, by omega, e⟩
      · by_cases e : j = m
        · subst e
          simp [Lib.keeps] at hk
          rw [hk.2]
          exact h3 (j-1) (by omega)
        · exact h3 j (by omega)

theorem compactL_rise (l : List Int) (hl : l.Pairwise (· ≤ ·)) : Rising (compactL l) ∧ ∀ x, x ∈ compactL l ↔ x ∈ l := by
  have hd : ∀ i j, i < j → j < l.toArray.size → l.toArray[i]! ≤ l.toArray[j]! := by
    intro i j hij hj
    simp only [List.size_toArray] at hj
    have := List.pairwise_iff_getElem.1 hl i j (by omega) hj hij
    simpa [getElem!_pos, hj, show i < l.length by omega] using this
  obtain ⟨h1, h2, h3⟩ := compactUpTo_rise l.toArray hd l.length (by simp)
  refine ⟨h1, fun x => ⟨fun hx => ?_, fun hx => ?_⟩⟩
  · obtain ⟨j, hj, e⟩ := h2 x hx
    rw [e]
    simp [getElem!_pos, hj]
  · obtain ⟨j, hj, rfl⟩ := List.getElem_of_mem hx
    have := h3 j hj
    simpa [getElem!_pos, hj, compactL, Lib.compact] using this
theorem compactL_length (l : List Int) : (compactL l).length ≤ l.length := by
  unfold compactL Lib.compact Lib.compactUpTo
  rw [List.length_map]
  exact Nat.le_trans (List.length_filter_le _ _) (by simp)

/-- the list of a list's numbers, rising -/
def riseL (l : List Int) : List Int := compactL (sortL l)
theorem riseL_rise (l : List Int) : Rising (riseL l) := (compactL_rise _ (sortL_sorted l)).1
theorem riseL_mem (l : List Int) (x : Int) : x ∈ riseL l ↔ x ∈ l := by rw [riseL, (compactL_rise _ (sortL_sorted l)).2, sortL_mem]
theorem riseL_length (l : List Int) : (riseL l).length ≤ l.length := Nat.le_trans (compactL_length _) (Nat.le_of_eq (sortL_length l))
theorem Rising.sorted {l : List Int} (h : Rising l) : l.Pairwise (· ≤ ·) := h.imp (by intro a b; omega)
end Go.Proofs.Ytficeeaaaijgcaa
