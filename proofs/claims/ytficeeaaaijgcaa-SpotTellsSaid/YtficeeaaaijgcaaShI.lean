/-
  The library's functions on slices of ints, in this family's words.
-/
import Derived.Test.YtficeeaaaijgcaaKit
import Derived.Test.YtficeeaaaijgcaaShelf
import Derived.Test.YtficeeaaaijgcaaRiseFn
import Derived.Sort.OwnSortedInts
import Derived.Lib.OwnBridge
namespace Go.Proofs.Ytficeeaaaijgcaa
open Go.RowKit

theorem RdI.cells {w : World} {a : Option Addr} {c n : Nat} {l : List Int} (h : RdI w (.slice a n c) l) : n = l.length ∧ (l = [] ∨ ∃ b o, a = some ⟨b, o, none⟩ ∧ ∀ j, j < l.length → w.cell? ⟨b, o + j, none⟩ = some (.int .i64 (l.getD j 0))) := by
  obtain ⟨a', c', hv, hc⟩ := h
  cases hv
  refine ⟨rfl, ?_⟩
  by_cases h0 : l = []
  · exact Or.inl h0
  · have hp : 0 < l.length := List.length_pos_iff.2 h0
    obtain ⟨b, o, ha, _⟩ := hc 0 hp
    refine Or.inr ⟨b, o, ha, fun j hj => ?_⟩
    obtain ⟨b', o', ha', hcell⟩ := hc j hj
    rw [ha] at ha'
    cases ha'
    rw [hcell, List.getD_eq_getElem?_getD, List.getElem?_eq_getElem hj]
    rfl

theorem clone_any (v : Value) (l : List Int) (w : World) (hv : RdI w v l) (hl : l.length ≤ 10000000) :
    Calls Try.prog 102 #[v] w fun e w' => ∃ v', e = .returned v' ∧ OwI w' w.heap.size v' l ∧ Below w.heap.size w w' := by
  obtain ⟨a, c, rfl⟩ := hv.shape
  obtain ⟨_, h0 | ⟨b, o, rfl, hc⟩⟩ := hv.cells
  · subst h0
    cases a with
    | none => exact (Try.slices_Clone_int_nil 0 c w).mono fun e w' ⟨he, hw⟩ => by subst hw; exact ⟨_, he, Ow_nil _ _, Below.refl _ _⟩
    | some a => exact (Try.slices_Clone_int_zero a c w).mono fun e w' ⟨v', he, hown, _, hb⟩ => ⟨v', he, hown, hb⟩
  · exact (Try.slices_Clone_int b o l.length c l w (Nat.le_refl _) (by omega) hc).mono fun e w' ⟨v', he, hown, _, hb⟩ => ⟨v', he, by rw [List.take_length] at hown; exact hown, hb⟩


theorem below_sorted {w : World} {g n : Nat} {os : Array Obj} (d : Array Int) {B : Nat} (hB : B ≤ g) (hw : B ≤ w.heap.size) : Below B w (Sort.grow (Sort.putRow (Value.int .i64) (Sort.ahead w n) g 0 d) os) :=
  (Below.refl B w).grown (grownBy_sortedI d) hw fun k hk => by cases hk; exact hB

theorem sort_any (v : Value) (l : List Int) (B : Nat) (w : World) (hv : OwI w B v l) (hl : l.length ≤ 10000000) (hB : B ≤ w.heap.size) :
    Calls Try.prog 98 #[v] w fun e w' => e = .returned (.tuple #[]) ∧ OwI w' B v (sortL l) ∧ Below B w w' := by
  have hlen : (sortL l).length = l.length := List.length_mergeSort l
  have hv' := hv
  rcases hv.2 with ⟨rfl, h0⟩ | ⟨g, cap, cur, rfl, hb, hg, hnc, hcm, hcs, htake⟩
  · have e0 : l = [] := List.eq_nil_of_length_eq_zero h0
    subst e0
    exact (Try.slices_Sort_int_none none 0 w).mono fun e w' ⟨he, hw⟩ => by subst hw; exact ⟨he, by rw [show sortL [] = [] from by simp [sortL]]; exact Ow_nil _ _, Below.refl _ _⟩
  · have hlt : g < w.heap.size := (Array.getElem?_eq_some_iff.1 hg).1
    obtain ⟨g', cap', e1, _, _, _, _, _, hH⟩ := Lib.holds_of_ownsRow (enc := Value.int .i64) hv (by simp)
    cases e1
    refine (Try.slices_Sort_int g 0 cap l w hH hlt (by omega)).mono ?_
    rintro e w' ⟨he, n, os, rfl⟩
    have hown := ownsRow_sortedI (n := n) (os := os) (ts := sortL l) hlen hb hg hnc hcm hcs
    refine ⟨he, ?_, below_sorted _ hb hB⟩
    unfold OwI Ow
    rw [hlen]
    exact hown


theorem compact_any (v : Value) (l : List Int) (B : Nat) (w : World) (hv : OwI w B v l) (hl : l.length ≤ 10000000) :
    Calls Try.prog 99 #[v] w fun e w' => ∃ v', e = .returned v' ∧ OwI w' B v' (compactL l) ∧ Below B w w' := by
  have hle : (Lib.compact l).length ≤ l.length := Lib.compact_length_le l
  rcases hv.2 with ⟨rfl, h0⟩ | ⟨g, cap, cur, rfl, hb, hg, hnc, hcm, hcs, htake⟩
  · have e0 : l = [] := List.eq_nil_of_length_eq_zero h0
    subst e0
    exact (Try.slices_Compact_int_empty none 0 w).mono fun e w' ⟨he, hw⟩ => by subst hw; exact ⟨_, he, Ow_nil _ _, Below.refl _ _⟩
  · obtain ⟨g', cap', e1, _, _, _, _, _, hH⟩ := Lib.holds_of_ownsRow (enc := Value.int .i64) hv (by simp)
    cases e1
    refine (Try.slices_Compact_int g 0 cap l w hH (by omega) hnc).mono ?_
    rintro e w' ⟨he, q, rfl⟩
    refine ⟨_, he, ?_, Lib.below_putRow (Below.refl _ _) hb⟩
    have h := Lib.ownsRow_putRow (q := q) (k := (Lib.compact l).length) (ys := Lib.compact l ++ List.replicate (l.length - (Lib.compact l).length) 0) hv (by simp; omega) hle
    rw [List.take_left] at h
    exact h


theorem bsearch_any (v : Value) (l : List Int) (x : Int) (w : World) (hv : RdI w v l) (hl : l.length ≤ 10000000) (hs : l.Pairwise (· ≤ ·)) :
    Calls Try.prog 103 #[v, .int .i64 x] w fun e w' => ∃ k : Int, e = .returned (.tuple #[.int .i64 k, .bool (decide (x ∈ l))]) ∧ ∃ n, w' = w.drewN n := by
  obtain ⟨a, c, rfl⟩ := hv.shape
  obtain ⟨_, h0 | ⟨b, o, rfl, hc⟩⟩ := hv.cells
  · subst h0
    refine (Try.slices_BinarySearch_int_empty a c x w).mono ?_
    rintro e w' ⟨rfl, rfl⟩
    exact ⟨0, by simp, 0, rfl⟩
  · refine (Try.slices_BinarySearch_int b o l.length c l x w (Nat.le_refl _) (by omega) hc (by rw [List.take_length]; exact hs)).mono ?_
    rintro e w' ⟨rfl, q, rfl⟩
    exact ⟨_, by rw [List.take_length, List.contains_eq_mem], q, rfl⟩

end Go.Proofs.Ytficeeaaaijgcaa
