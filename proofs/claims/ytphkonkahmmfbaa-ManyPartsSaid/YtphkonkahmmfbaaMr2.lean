import Derived.Test.YtphkonkahmmfbaaMr1
namespace Go.Proofs.Ytphkonkahmmfbaa
open Go.RowKit

set_option maxHeartbeats 400000 in
theorem refSame_any (v u : Value) (l m : List Int) (w : World) (hv : RdI w v l) (hu : RdI w u m) (hl : l.length ≤ 4000000) (hm : m.length ≤ 4000000) :
    Calls Try.prog 7 #[v, u] w fun e w' => e = .returned (.bool (decide (l = m))) ∧ ∃ n, w' = w.drewN n := by
  obtain ⟨a, c, rfl, hc⟩ := hv
  obtain ⟨a2, c2, rfl, hc2⟩ := hu
  by_cases hlen : l.length = m.length
  · have hlen1 : ((l.length : Int) != (m.length : Int)) = false := by simp [hlen]
    have Hlen := Lib.hid hlen; clear hlen
    go_enter Try.func7, Try.ntmps7
    go_wp2
    go_loopw [5] (fun i wr => (∃ n, wr = w.drewN n) ∧ ∃ k : Nat, k ≤ l.length ∧ i = .int .i64 k ∧ l.take k = m.take k) (fun i _ => l.length - (intOf i).toNat)
    case atStart => exact ⟨⟨0, rfl⟩, 0, by omega, rfl, by simp⟩
    case round =>
      obtain ⟨⟨q, rfl⟩, k, hk, rfl, hn⟩ := hrel
      have Hn := Lib.hid hn; clear hn
      by_cases hlt : k < l.length
      · obtain ⟨b, o, rfl, hcell⟩ := hc k hlt
        have hlt2 : k < m.length := by have := Hlen.out; omega
        obtain ⟨b', o', rfl, hcell'⟩ := hc2 k hlt2
        clear hc hc2
        by_cases hd : l[k] = m[k]
        · have hmm : Hid (l.take (k+1) = m.take (k+1)) := Lib.hid (by
            rw [take_succ l k hlt, take_succ m k hlt2, Hn.out, hd])
          have hd1 : (l[k] != m[k]) = false := by simp [hd]
          clear hd
          go_wp2
          go_quiet (fail)
          go_wp2
          go_roundw
          case rel => exact ⟨⟨_, rfl⟩, k + 1, by omega, by go_num, hmm.out⟩
          case measure => simp [intOf]; omega
        · have hf : Hid (l ≠ m) := by
            intro h; subst h; exact hd rfl
          have hd1 : (l[k] != m[k]) = true := by simp [hd]
          clear hd
          go_wp2
          go_quiet (fail)
          go_wp2
          go_ret
          exact ⟨by simp [hf.out], qd _ _ _⟩
      · go_wp2
        go_ret
        refine ⟨?_, _, rfl⟩
        have h := Hn.out
        rw [List.take_of_length_le (by omega), List.take_of_length_le (by have := Hlen.out; omega)] at h
        simp [h]
  · have hlen1 : ((l.length : Int) != (m.length : Int)) = true := by simp; omega
    have Hf : Hid (l ≠ m) := by intro h; exact hlen (by rw [h])
    clear hlen
    go_enter Try.func7, Try.ntmps7
    go_wp2
    go_ret
    exact ⟨by simp [Hf.out], 0, rfl⟩

end Go.Proofs.Ytphkonkahmmfbaa
