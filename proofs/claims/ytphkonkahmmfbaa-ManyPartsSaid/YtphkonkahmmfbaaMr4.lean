import Derived.Test.YtphkonkahmmfbaaMr3
namespace Go.Proofs.Ytphkonkahmmfbaa
open Go.RowKit

set_option maxHeartbeats 400000 in
theorem refOf_any (v : Value) (l : List Int) (w : World) (hv : RdI w v l) (hl : l.length ≤ 1000000) :
    Calls Try.prog 9 #[v] w fun e w' => ∃ v', e = .returned v' ∧ RdI w' v' (ofL l) ∧ Below w.heap.size w w' := by
  have hlo := hv.lo
  obtain ⟨a, c, rfl⟩ := hv.shape
  clear hv
  have hE := (OwI_empty w).rd
  have hB : Below w.heap.size w (w.alloc (.cells #[] 3)) := (Below.refl _ _).alloc (Nat.le_refl _) _
  go_enter Try.func9, Try.ntmps9
  go_wp2
  go_loopw [3, 4] (fun v i wr => ∃ k : Nat, k ≤ l.length ∧ i = .int .i64 k ∧ RdI wr v ((l.take k).foldl putL []) ∧ Below w.heap.size w wr) (fun _ i _ => l.length - (intOf i).toNat)
  case atStart => exact ⟨0, by omega, rfl, hE, hB⟩
  case round =>
    clear hE hB
    obtain ⟨k, hk, rfl, hrd, hb⟩ := hrel
    by_cases hlt : k < l.length
    · obtain ⟨a', c', hva, hcc⟩ := hlo.rd hb
      obtain ⟨b', o', hab, hcell⟩ := hcc k hlt
      cases hva
      cases hab
      have Hts := Lib.hid (foldl_take_succ putL [] l k hlt)
      have hll : ((l.take k).foldl putL []).length ≤ 4000000 := by
        have := foldl_putL_length (l.take k) []; rw [List.length_take] at this; simp only [List.length_nil] at this; omega
      clear hcc
      go_wp2_with (go_at_call 25; refine (refPut_any _ _ _ _ hrd hll).mono ?_; rintro e w1 ⟨v1, rfl, hrd1, hb1⟩; (have Hb := Lib.hid (hb.trans (hb1.mono hb.size))); clear hrd hcell hb hb1)
      go_roundw
      case rel => exact ⟨k + 1, by omega, by go_num, by rw [Hts.out]; exact hrd1, Hb.out⟩
      case measure => simp [intOf]; omega
    · go_wp2
      go_ret
      have e : l.take k = l := List.take_of_length_le (by omega)
      rw [e] at hrd
      exact ⟨_, rfl, hrd, hb⟩

set_option maxHeartbeats 400000 in
theorem refUnion_any (v u : Value) (l m : List Int) (w : World) (hv : RdI w v l) (hu : RdI w u m) (hl : l.length ≤ 1000000) (hm : m.length ≤ 1000000) :
    Calls Try.prog 17 #[v, u] w fun e w' => ∃ v', e = .returned v' ∧ RdI w' v' (unionL l m) ∧ Below w.heap.size w w' := by
  have hlo := hu.lo
  obtain ⟨a, c, rfl⟩ := hu.shape
  clear hu
  go_enter Try.func17, Try.ntmps17
  go_wp2_with (go_at_call 9; refine (refOf_any _ _ _ hv hl).mono ?_; rintro e w1 ⟨v1, rfl, hrd1, hb1⟩)
  go_loopw [5, 6] (fun v i wr => ∃ k : Nat, k ≤ m.length ∧ i = .int .i64 k ∧ RdI wr v ((m.take k).foldl putL (ofL l)) ∧ Below w.heap.size w wr) (fun _ i _ => m.length - (intOf i).toNat)
  case atStart => exact ⟨0, by omega, rfl, hrd1, hb1⟩
  case round =>
    clear hrd1 hb1
    obtain ⟨k, hk, rfl, hrd, hb⟩ := hrel
    by_cases hlt : k < m.length
    · obtain ⟨a', c', hva, hcc⟩ := hlo.rd hb
      obtain ⟨b', o', hab, hcell⟩ := hcc k hlt
      cases hva
      cases hab
      have Hts := Lib.hid (foldl_take_succ putL (ofL l) m k hlt)
      have hll : ((m.take k).foldl putL (ofL l)).length ≤ 4000000 := by
        have := foldl_putL_length (m.take k) (ofL l); have h2 := foldl_putL_length l []; rw [List.length_take] at this; simp only [ofL, List.length_nil] at this h2 ⊢; omega
      clear hcc
      go_wp2_with (go_at_call 25; refine (refPut_any _ _ _ _ hrd hll).mono ?_; rintro e w1 ⟨v1, rfl, hrd1, hb1⟩; (have Hb := Lib.hid (hb.trans (hb1.mono hb.size))); clear hrd hcell hb hb1)
      go_roundw
      case rel => exact ⟨k + 1, by omega, by go_num, by rw [Hts.out]; exact hrd1, Hb.out⟩
      case measure => simp [intOf]; omega
    · go_wp2
      go_ret
      have e : m.take k = m := List.take_of_length_le (by omega)
      rw [e] at hrd
      exact ⟨_, rfl, hrd, hb⟩

set_option maxHeartbeats 400000 in
theorem refKept_any (v u : Value) (l m : List Int) (inn : Bool) (w : World) (hv : RdI w v l) (hu : RdI w u m) (hl : l.length ≤ 1000000) (hm : m.length ≤ 1000000) :
    Calls Try.prog 19 #[v, u, .bool inn] w fun e w' => ∃ v', e = .returned v' ∧ RdI w' v' (keptL l m inn) ∧ Below w.heap.size w w' := by
  have hlo := hv.lo
  have hlou := hu.lo
  obtain ⟨a, c, rfl⟩ := hv.shape
  clear hv hu
  have hE := OwI_empty w
  have hB : Below w.heap.size w (w.alloc (.cells #[] 3)) := (Below.refl _ _).alloc (Nat.le_refl _) _
  go_enter Try.func19, Try.ntmps19
  go_wp2
  go_loopw [7, 8] (fun v i wr => ∃ k : Nat, k ≤ l.length ∧ i = .int .i64 k ∧ OwI wr w.heap.size v (keptL (l.take k) m inn) ∧ Below w.heap.size w wr) (fun _ i _ => l.length - (intOf i).toNat)
  case atStart => exact ⟨0, by omega, rfl, hE, hB⟩
  case round =>
    clear hE hB
    obtain ⟨k, hk, rfl, hown, hb⟩ := hrel
    have hsz := hb.size
    by_cases hlt : k < l.length
    · obtain ⟨a', c', hva, hcc⟩ := hlo.rd hb
      obtain ⟨b', o', hab, hcell⟩ := hcc k hlt
      cases hva
      cases hab
      have hrdu := hlou.rd hb
      have Hts := Lib.hid (filter_take_succ (fun x => decide (x ∈ m) == inn) l k hlt)
      have hll : (keptL (l.take k) m inn).length ≤ 10000000 := by
        have := List.length_filter_le (fun x => decide (x ∈ m) == inn) (l.take k); rw [List.length_take] at this; simp only [keptL]; omega
      clear hcc
      by_cases hin : (decide (l[k] ∈ m) == inn) = true
      all_goals
        have hin' := hin
        first
        | rw [hin] at Hts
        | (rw [Bool.not_eq_true] at hin' hin; rw [hin] at Hts)
        clear hin'
        go_wp2_with (first
          | (go_at_call 15; refine (refHas_any _ m _ _ hrdu (by omega)).mono ?_; rintro e w' ⟨rfl, rfl⟩)
          | (at_builtin; refine wpList_append_I rfl _ _ rfl w.heap.size _ _ rfl hown _ rfl hll hsz ?_; intro v' w1 hown1 hb1; (have Hb := Lib.hid (hb.trans hb1)); clear hown hcell hb hb1))
        go_roundw
        case measure => simp [intOf]; omega
      case rel => exact ⟨k + 1, by omega, by go_num, by unfold keptL; rw [Hts.out]; exact hown1, Hb.out⟩
      case rel => exact ⟨k + 1, by omega, by go_num, by unfold keptL; rw [Hts.out]; simpa [keptL] using hown, hb⟩
    · go_wp2
      go_ret
      have e : l.take k = l := List.take_of_length_le (by omega)
      rw [e] at hown
      exact ⟨_, rfl, hown.rd, hb⟩
end Go.Proofs.Ytphkonkahmmfbaa
