/-
  The reference of chapter 11: what each of its functions returns, as contracts.
-/
import Derived.Test.YtphkonkahmmfbaaKit
import Derived.Test.YtphkonkahmmfbaaMrFn
import Derived.Outline
import Derived.Deep.QuietTactic
import Derived.BigQuiet
namespace Go.Proofs.Ytphkonkahmmfbaa
open Go.RowKit

set_option maxHeartbeats 400000 in
theorem refHas_any (v : Value) (l : List Int) (n : Int) (w : World) (hv : RdI w v l) (hl : l.length ≤ 4000000) :
    Calls Try.prog 15 #[v, .int .i64 n] w fun e w' => e = .returned (.bool (decide (n ∈ l))) ∧ w = w' := by
  obtain ⟨a, c, rfl, hc⟩ := hv
  go_enter Try.func15, Try.ntmps15
  go_wp2
  go_loop [5] (fun i => ∃ k : Nat, k ≤ l.length ∧ i = .int .i64 k ∧ n ∉ l.take k) (fun i => l.length - (intOf i).toNat)
  case atStart => exact ⟨0, by omega, rfl, by simp⟩
  case round =>
    obtain ⟨k, hk, rfl, hn⟩ := hrel
    have Hn := Lib.hid hn; clear hn
    by_cases hlt : k < l.length
    · obtain ⟨b, o, rfl, hcell⟩ := hc k hlt
      clear hc
      by_cases he : l[k] = n
      · have he1 : (l[k] == n) = true := by simp [he]
        have Hm : Hid (n ∈ l) := by rw [← he]; exact List.getElem_mem hlt
        clear he
        go_wp2
        go_ret
        exact ⟨by simp [Hm.out], rfl⟩
      · have he1 : (l[k] == n) = false := by simp [he]
        have Hm : Hid (n ∉ l.take (k+1)) := by
          intro hh; rw [List.take_succ_eq_append_getElem hlt] at hh; rcases List.mem_append.1 hh with hh | hh
          · exact Hn.out hh
          · simp at hh; exact he hh.symm
        clear he
        go_wp2
        go_round
        case rel => exact ⟨k + 1, by omega, by go_num, Hm.out⟩
        case measure => simp [intOf]; omega
    · go_wp2
      go_ret
      have : l.take k = l := List.take_of_length_le (by omega)
      have h := Hn.out
      rw [this] at h
      exact ⟨by simp [h], rfl⟩

set_option maxHeartbeats 400000 in
theorem refRight_any (v : Value) (l : List Int) (w : World) (hv : RdI w v l) (hl : l.length ≤ 4000000) :
    Calls Try.prog 11 #[v] w fun e w' => e = .returned (.bool (rightL l)) ∧ ∃ n, w' = w.drewN n := by
  obtain ⟨a, c, rfl, hc⟩ := hv
  go_enter Try.func11, Try.ntmps11
  go_wp2
  go_loopw [3] (fun i wr => (∃ n, wr = w.drewN n) ∧ ∃ k : Nat, 1 ≤ k ∧ i = .int .i64 k ∧ (∀ (j : Nat) (h : j + 1 < l.length), j + 1 < k → l[j] < l[j+1])) (fun i _ => l.length - (intOf i).toNat)
  case atStart => exact ⟨⟨0, rfl⟩, 1, by omega, rfl, by intro j h hj; omega⟩
  case round =>
    obtain ⟨⟨q, rfl⟩, k, hk, rfl, hn⟩ := hrel
    have Hn := Lib.hid hn; clear hn
    by_cases hlt : k < l.length
    · obtain ⟨b, o, rfl, hcell⟩ := hc k hlt
      obtain ⟨b', o', ha, hcell'⟩ := hc (k-1) (by omega)
      have hbo : b' = b ∧ o' = o := by simpa using ha.symm
      obtain ⟨rfl, rfl⟩ := hbo
      clear hc ha
      obtain ⟨m, rfl⟩ : ∃ m, k = m + 1 := ⟨k - 1, by omega⟩
      simp only [Nat.add_sub_cancel] at hcell'
      go_wp2
      go_quiet (fail)
      by_cases hd : l[m] < l[m+1]
      · have hm : Hid (∀ (j : Nat) (h : j + 1 < l.length), j + 1 < m + 1 + 1 → l[j] < l[j+1]) := by
          intro j h hj
          by_cases e : j = m
          · subst e; exact hd
          · exact Hn.out j h (by omega)
        go_wp2
        go_roundw
        case rel => exact ⟨⟨_, rfl⟩, m + 2, by omega, by go_num, hm.out⟩
        case measure => simp [intOf]; omega
      · have hf : rightL l = false := by
          rw [Bool.eq_false_iff]; intro h; exact hd ((rightL_iff l).1 h m hlt)
        go_wp2
        go_ret
        exact ⟨rfl, _, rfl⟩
    · go_wp2
      go_ret
      have h := Hn.out
      exact ⟨ret_bool ((rightL_iff l).2 (fun j hj => h j hj (by omega))).symm, _, rfl⟩

end Go.Proofs.Ytphkonkahmmfbaa
