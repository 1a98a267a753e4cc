import Derived.Test.YtficeeaaaijgcaaR7b
namespace Go.Proofs.Ytficeeaaaijgcaa
open Go.RowKit
set_option linter.unusedVariables false

set_option maxHeartbeats 400000 in
theorem number_any (v : Value) (l : List Rx) (w : World) (hv : RdX w v l) (hl : l.length ≤ 1000) (j : Nat) (hj : j ≤ l.length) :
    Calls Try.prog 94 #[v, .int .i64 j] w fun e w' => e = .returned (.int .i64 (numL l j)) ∧ w = w' := by
  obtain ⟨a, c, rfl⟩ := hv.shape
  go_enter Try.func94, Try.ntmps94
  go_wp2_with fail
  go_loop [5, 6] (fun n i => ∃ k : Nat, k ≤ j ∧ i = .int .i64 k ∧ n = .int .i64 (numL l k)) (fun _ i => j - (intOf i).toNat)
  case atStart => exact ⟨0, by omega, rfl, rfl⟩
  case round =>
    obtain ⟨k, hk, rfl, rfl⟩ := hrel
    have hle := numL_le l k
    by_cases hlt : k < j
    · obtain ⟨_, b, o, rfl, hcell⟩ := hv.kindAt k (by omega)
      have Hs := Lib.hid (numL_succ l k (by omega))
      by_cases hk1 : l[k].kind = 1
      · have e1 : (l[k].kind == 1) = true := by simp [hk1]
        have Hn : Hid (numL l (k + 1) = numL l k + 1) := Lib.hid (by rw [Hs.out, if_pos hk1])
        clear hk1 Hs
        go_wp2_with fail
        go_round
        case rel => exact ⟨k + 1, by omega, by go_num, by rw [Hn.out]; go_num⟩
        case measure => simp [intOf]; omega
      · have e1 : (l[k].kind == 1) = false := by simp [hk1]
        have Hn : Hid (numL l (k + 1) = numL l k) := Lib.hid (by rw [Hs.out, if_neg hk1]; rfl)
        clear hk1 Hs
        go_wp2_with fail
        go_round
        case rel => exact ⟨k + 1, by omega, by go_num, by rw [Hn.out]⟩
        case measure => simp [intOf]; omega
    · obtain rfl : k = j := by omega
      go_wp2_with fail
      go_ret
      exact ⟨rfl, rfl⟩

def FreeSpec (v : Value) (w : World) (i : Int) (r : Bool) : Prop := Calls Try.prog 62 #[v, .int .i64 i] w fun e w' => e = .returned (.bool r) ∧ w = w'

theorem free_leaf (v : Value) (l : List Rx) (w : World) (hv : RdX w v l) (hl : l.length ≤ 1000) (j : Nat) (hj : j < l.length) (k : Int) (hk : l[j].kind = k) (hk' : k = 1 ∨ k = 2 ∨ k = 5 ∨ k = 7) : FreeSpec v w j (decide (k ≠ 1)) := by
  obtain ⟨a, c, rfl⟩ := hv.shape
  obtain ⟨_, b, o, rfl, hcell⟩ := hv.kindAt j hj
  rw [hk] at hcell
  clear hk
  unfold FreeSpec
  rcases hk' with rfl | rfl | rfl | rfl
  all_goals
    go_enter Try.func62, Try.ntmps62
    go_wp2_with fail
    go_ret
    exact ⟨rfl, rfl⟩

theorem free_plus (v : Value) (l : List Rx) (w : World) (hv : RdX w v l) (hl : l.length ≤ 1000) (j : Nat) (hj : j < l.length) (hk : l[j].kind = 6) (r : Bool) (h1 : FreeSpec v w (j - 1) r) : FreeSpec v w j r := by
  obtain ⟨a, c, rfl⟩ := hv.shape
  obtain ⟨_, b, o, rfl, hcell⟩ := hv.kindAt j hj
  rw [hk] at hcell
  clear hk
  unfold FreeSpec at h1 ⊢
  have H1 := Lib.hid h1; clear h1
  go_enter Try.func62, Try.ntmps62
  go_wp2_with fail
  refine H1.out.mono ?_
  rintro e w1 ⟨rfl, rfl⟩
  go_wp2_with fail
  go_ret
  exact ⟨rfl, rfl⟩

theorem free_two (v : Value) (l : List Rx) (w : World) (hv : RdX w v l) (hl : l.length ≤ 1000) (j : Nat) (hj : j < l.length) (k : Int) (hk : l[j].kind = k) (hk' : k = 3 ∨ k = 4) (m : Nat) (hm : m < l.length) (r1 r2 : Bool) (h1 : FreeSpec v w (j - 1) r1) (hb : BegSpec v w (j - 1) m) (h2 : FreeSpec v w (m - 1) r2) :
    FreeSpec v w j (if k = 3 then r2 && r1 else r2 || r1) := by
  obtain ⟨a, c, rfl⟩ := hv.shape
  obtain ⟨_, b, o, rfl, hcell⟩ := hv.kindAt j hj
  rw [hk] at hcell
  clear hk
  unfold FreeSpec at h1 h2 ⊢
  unfold BegSpec at hb
  have H1 := Lib.hid h1; clear h1
  have H2 := Lib.hid h2; clear h2
  have HB := Lib.hid hb; clear hb
  rcases hk' with rfl | rfl
  all_goals
    cases r1 <;> cases r2
    all_goals
      go_enter Try.func62, Try.ntmps62
      go_wp2_with fail
      refine H1.out.mono ?_
      rintro e w1 ⟨rfl, rfl⟩
      go_wp2_with fail
      refine HB.out.mono ?_
      rintro e w1 ⟨rfl, rfl⟩
      go_wp2_with fail
      refine H2.out.mono ?_
      rintro e w1 ⟨rfl, rfl⟩
      go_wp2_with fail
      go_ret
      exact ⟨rfl, rfl⟩

theorem AtT.root {l : List Rx} {s t : Nat} {e : E} (h : AtT l s e t) : ∃ j, ∃ hj : j < l.length, j + 1 = t ∧ l[j].kind = kindT e :=
  ⟨t - 1, by have := h.bound; omega, by have := h.bound; omega, h.kind _ _ (by have := h.bound; omega)⟩

theorem free_any (l : List Rx) (hl : l.length ≤ 1000) (e : E) : ∀ (s t : Nat), AtT l s e t → ∀ (v : Value) (w : World), RdX w v l → ∀ i : Int, i = (t : Int) - 1 → FreeSpec v w i (freeT e) := by
  induction e with
  | set | empty =>
    intro s t h v w hv i hi
    obtain ⟨j, hj, hjt, hk⟩ := h.root
    obtain rfl : i = (j : Int) := by omega
    exact free_leaf v l w hv hl j hj _ hk (by simp [kindT])
  | star a | opt a =>
    intro s t h v w hv i hi
    obtain ⟨j, hj, hjt, hk⟩ := h.root
    obtain rfl : i = (j : Int) := by omega
    exact free_leaf v l w hv hl j hj _ hk (by simp [kindT])
  | cat a b iha ihb =>
    intro s t h v w hv i hi
    obtain ⟨j, hj, hjt, hk⟩ := h.root
    obtain ⟨m, ha, hb, hsm, hmt⟩ := h.cat
    obtain rfl : i = (j : Int) := by omega
    have := free_two v l w hv hl j hj _ hk (by simp [kindT]) m (by omega) _ _ (ihb m (t - 1) hb v w hv _ (by omega)) (begin_any l hl b m (t - 1) hb v w hv _ (by omega)) (iha s m ha v w hv _ (by omega))
    simpa [kindT, freeT] using this
  | alt a b iha ihb =>
    intro s t h v w hv i hi
    obtain ⟨j, hj, hjt, hk⟩ := h.root
    obtain ⟨m, ha, hb, hsm, hmt⟩ := h.alt
    obtain rfl : i = (j : Int) := by omega
    have := free_two v l w hv hl j hj _ hk (by simp [kindT]) m (by omega) _ _ (ihb m (t - 1) hb v w hv _ (by omega)) (begin_any l hl b m (t - 1) hb v w hv _ (by omega)) (iha s m ha v w hv _ (by omega))
    simpa [kindT, freeT] using this
  | plus a iha =>
    intro s t h v w hv i hi
    obtain ⟨j, hj, hjt, hk⟩ := h.root
    obtain rfl : i = (j : Int) := by omega
    exact free_plus v l w hv hl j hj (by rw [hk]; rfl) _ (iha s (t - 1) h.plus v w hv _ (by omega))
end Go.Proofs.Ytficeeaaaijgcaa
