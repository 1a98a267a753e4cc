/-
  The package many: what its functions return, as contracts.
-/
import Derived.Test.YtphkonkahmmfbaaShI
import Derived.Test.YtphkonkahmmfbaaMrFn
namespace Go.Proofs.Ytphkonkahmmfbaa
open Go.RowKit

set_option maxHeartbeats 400000 in
theorem many_Of_any (v : Value) (l : List Int) (w : World) (hv : RdI w v l) (hl : l.length ≤ 10000000) :
    Calls Try.prog 8 #[v] w fun e w' => ∃ v', e = .returned v' ∧ OwI w' w.heap.size v' (compactL (sortL l)) ∧ Below w.heap.size w w' := by
  have hlen : (sortL l).length = l.length := List.length_mergeSort l
  go_enter Try.func8, Try.ntmps8
  go_wp2_with fail
  refine (clone_any _ _ _ hv hl).mono ?_
  rintro e w1 ⟨v1, rfl, hown1, hb1⟩
  go_wp2_with fail
  refine (sort_any _ _ w.heap.size _ hown1 hl hb1.size).mono ?_
  rintro e w2 ⟨rfl, hown2, hb2⟩
  go_wp2_with fail
  refine (compact_any _ _ w.heap.size _ hown2 (by omega)).mono ?_
  rintro e w3 ⟨v3, rfl, hown3, hb3⟩
  go_wp2_with fail
  go_ret
  exact ⟨_, rfl, hown3, (hb1.trans hb2).trans hb3⟩

set_option maxHeartbeats 400000 in
theorem many_Right_any (v : Value) (l : List Int) (w : World) (hv : RdI w v l) (hl : l.length ≤ 4000000) :
    Calls Try.prog 10 #[v] w fun e w' => e = .returned (.bool (rightL l)) ∧ ∃ n, w' = w.drewN n := by
  obtain ⟨a, c, rfl, hc⟩ := hv
  go_enter Try.func10, Try.ntmps10
  go_wp2
  go_loopw [7] (fun i wr => (∃ n, wr = w.drewN n) ∧ ∃ k : Nat, i = .int .i64 k ∧ (∀ (j : Nat) (h : j + 1 < l.length), j < k → l[j] < l[j+1])) (fun i _ => l.length - (intOf i).toNat)
  case atStart => exact ⟨⟨0, rfl⟩, 0, rfl, by intro j h hj; omega⟩
  case round =>
    obtain ⟨⟨q, rfl⟩, m, rfl, hn⟩ := hrel
    have Hn := Lib.hid hn; clear hn
    by_cases hlt : m + 1 < l.length
    · obtain ⟨b, o, rfl, hcell⟩ := hc (m+1) hlt
      obtain ⟨b', o', ha, hcell'⟩ := hc m (by omega)
      cases ha
      clear hc
      have hlt' : (m : Int) < (l.length : Int) - 1 := by omega
      go_wp2
      go_quiet (fail)
      by_cases hd : l[m] < l[m+1]
      · have hm : Hid (∀ (j : Nat) (h : j + 1 < l.length), j < m + 1 → l[j] < l[j+1]) := by
          intro j h hj
          by_cases e : j = m
          · subst e; exact hd
          · exact Hn.out j h (by omega)
        go_wp2
        go_roundw
        case rel => exact ⟨⟨_, rfl⟩, m + 1, by go_num, hm.out⟩
        case measure => simp [intOf]; omega
      · have hf : Hid (rightL l = false) := Lib.hid (by
          rw [Bool.eq_false_iff]; intro h; exact hd ((rightL_iff l).1 h m hlt))
        go_wp2
        go_ret
        exact ⟨ret_bool hf.out.symm, _, rfl⟩
    · have hlt' : ¬ (m : Int) < (l.length : Int) - 1 := by omega
      go_wp2
      go_ret
      have h := Hn.out
      exact ⟨ret_bool ((rightL_iff l).2 (fun j hj => h j hj (by omega))).symm, _, rfl⟩

set_option maxHeartbeats 400000 in
theorem many_Has_any (v : Value) (l : List Int) (n : Int) (w : World) (hv : RdI w v l) (hl : l.length ≤ 10000000) (hs : l.Pairwise (· ≤ ·)) :
    Calls Try.prog 14 #[v, .int .i64 n] w fun e w' => e = .returned (.bool (decide (n ∈ l))) ∧ ∃ n, w' = w.drewN n := by
  have Hs := Lib.hid hs; clear hs
  go_enter Try.func14, Try.ntmps14
  go_wp2_with fail
  refine (bsearch_any _ _ _ _ hv hl Hs.out).mono ?_
  rintro e w1 ⟨k, rfl, q, rfl⟩
  go_wp2_with fail
  go_ret
  exact ⟨rfl, q, rfl⟩

set_option maxHeartbeats 400000 in
theorem many_Same_any (v u : Value) (l m : List Int) (w : World) (hv : RdI w v l) (hu : RdI w u m) (hl : l.length ≤ 10000000) (hm : m.length ≤ 10000000) :
    Calls Try.prog 12 #[v, u] w fun e w' => e = .returned (.bool (decide (l = m))) ∧ ∃ n, w' = w.drewN n := by
  go_enter Try.func12, Try.ntmps12
  go_wp2_with fail
  refine (equal_any _ _ _ _ _ hv hu hl hm).mono ?_
  rintro e w1 ⟨rfl, q, rfl⟩
  go_wp2_with fail
  go_ret
  exact ⟨rfl, q, rfl⟩
end Go.Proofs.Ytphkonkahmmfbaa
