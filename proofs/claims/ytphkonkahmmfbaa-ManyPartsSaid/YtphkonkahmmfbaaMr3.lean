import Derived.Test.YtphkonkahmmfbaaMr1
namespace Go.Proofs.Ytphkonkahmmfbaa
open Go.RowKit

set_option maxHeartbeats 1000000 in
theorem refPut_any (v : Value) (l : List Int) (n : Int) (w : World) (hv : RdI w v l) (hl : l.length ≤ 4000000) :
    Calls Try.prog 25 #[v, .int .i64 n] w fun e w' => ∃ v', e = .returned v' ∧ RdI w' v' (putL l n) ∧ Below w.heap.size w w' := by
  have hlo := hv.lo
  by_cases hin : n ∈ l
  · have hp : putL l n = l := by unfold putL; rw [if_pos hin]
    rw [hp]
    have Hv := Lib.hid hv; clear hv hlo hp
    have hin1 : decide (n ∈ l) = true := by simp [hin]
    go_enter Try.func25, Try.ntmps25
    go_wp2_with (go_at_call 15; refine (refHas_any _ l n _ Hv.out hl).mono ?_; rintro e w' ⟨rfl, rfl⟩)
    go_ret
    exact ⟨_, rfl, Hv.out, Below.refl _ _⟩
  · have hp : putL l n = l.take (putAt l n) ++ n :: l.drop (putAt l n) := by unfold putL; rw [if_neg hin]
    have Hp := Lib.hid hp; clear hp
    have Hv := Lib.hid hv; clear hv
    have hin1 : decide (n ∈ l) = false := by simp [hin]
    have hple := putAt_le l n
    have Hlt := Lib.hid (putAt_lt l n)
    have Hge := Lib.hid (putAt_ge l n)
    obtain ⟨t, Ht⟩ : ∃ t, Hid (putAt l n = t) := ⟨_, Lib.hid rfl⟩
    have e := Ht.out
    rw [e] at Hp Hlt Hge hple
    clear e
    clear hin
    go_enter Try.func25, Try.ntmps25
    have hlo' := hlo
    obtain ⟨a, c, rfl, hc⟩ := hlo
    go_wp2_with (go_at_call 15; refine (refHas_any _ l n _ Hv.out hl).mono ?_; rintro e w' ⟨rfl, rfl⟩)
    have hE := OwI_empty w
    have hB : Below w.heap.size w (w.alloc (.cells #[] 3)) := (Below.refl _ _).alloc (Nat.le_refl _) _
    go_loopw [5, 6] (fun v i wr => ∃ k : Nat, k ≤ t ∧ i = .int .i64 k ∧ OwI wr w.heap.size v (l.take k) ∧ Below w.heap.size w wr) (fun _ i _ => l.length - (intOf i).toNat)
    case atStart => exact ⟨0, by omega, rfl, hE, hB⟩
    case round =>
      clear hE hB
      obtain ⟨k, hk, rfl, hown, hb⟩ := hrel
      have hsz := hb.size
      by_cases hkt : k < t
      · have hltn : l[k]'(by omega) < n := Hlt.out k (by omega) (by omega)
        obtain ⟨b, o, rfl, hbl, hcell0⟩ := hc k (by omega)
        have hcell : wr.cell? ⟨b, o + k, none⟩ = some (.int .i64 (l[k]'(by omega))) := by rw [hb.cell hbl]; exact hcell0
        have Hts := Lib.hid (take_succ l k (by omega))
        clear hc hcell0
        go_wp2_with (at_builtin; refine wpList_append_I rfl _ _ rfl w.heap.size _ _ rfl hown _ rfl (by simp; omega) hsz ?_; intro v' w1 hown1 hb1; (have Hb := Lib.hid (hb.trans hb1)); clear hown hcell hb hb1)
        go_roundw
        case rel => exact ⟨k + 1, by omega, by go_num, by rw [Hts.out]; exact hown1, Hb.out⟩
        case measure => simp [intOf]; omega
      · obtain rfl : k = t := by omega
        have hlk : (l.take k).length = k := by rw [List.length_take]; omega
        have Hlk := Lib.hid hlk; clear hlk
        have hlen : k < l.length ∨ ¬ k < l.length := by omega
        rcases hlen with hlen | hlen
        all_goals
          first
          | (have hge : n ≤ l[k] := Hge.out (by omega)
             obtain ⟨b, o, rfl, hbl, hcell0⟩ := hc k (by omega)
             have hcell : wr.cell? ⟨b, o + k, none⟩ = some (.int .i64 (l[k]'(by omega))) := by rw [hb.cell hbl]; exact hcell0
             clear hcell0)
          | skip
          obtain ⟨a5, c5, hv5⟩ := hown.shape
          rw [Hlk.out] at hv5
          subst hv5
          clear hc
          go_wp2_with (at_builtin; refine wpList_append_I rfl _ _ rfl w.heap.size _ _ rfl hown _ rfl (by rw [Hlk.out]; omega) hsz ?_; intro v' w1 hown1 hb1; (have Hb := hb.trans hb1); clear hown hb hb1)
          go_loopw [5, 8] (fun v i wr => ∃ m : Nat, k ≤ m ∧ m ≤ l.length ∧ i = .int .i64 m ∧ OwI wr w.heap.size v (l.take k ++ [n] ++ (l.drop k).take (m - k)) ∧ Below w.heap.size w wr) (fun _ i _ => l.length - (intOf i).toNat)
          case atStart => exact ⟨k, by omega, by omega, rfl, by rw [Nat.sub_self, List.take_zero, List.append_nil]; exact hown1, Hb⟩
          case round =>
            clear hown1 Hb
            obtain ⟨m, hkm, hm, rfl, hown, hb⟩ := hrel
            have hsz := hb.size
            by_cases hlt : m < l.length
            · first
              | (exfalso; omega)
              | (obtain ⟨a', c', hva, hcc⟩ := hlo'.rd hb
                 obtain ⟨b', o', hab, hcell⟩ := hcc m hlt
                 cases hva
                 cases hab
                 have Hts := Lib.hid (drop_take_succ l k m hlt hkm)
                 have hll : (l.take k ++ [n] ++ (l.drop k).take (m - k)).length ≤ 10000000 := by
                   simp only [List.length_append, List.length_take, List.length_drop, List.length_singleton]; omega
                 clear hcc
                 go_wp2_with (at_builtin; refine wpList_append_I rfl _ _ rfl w.heap.size _ _ rfl hown _ rfl hll hsz ?_; intro v' w1 hown1 hb1; (have Hb := Lib.hid (hb.trans hb1)); clear hown hcell hb hb1)
                 go_roundw
                 case rel => exact ⟨m + 1, by omega, by omega, by go_num, by rw [Hts.out, ← List.append_assoc]; exact hown1, Hb.out⟩
                 case measure => simp [intOf]; omega)
            · go_wp2
              go_ret
              have e : l.take k ++ [n] ++ (l.drop k).take (m - k) = putL l n := by
                rw [Hp.out, List.take_of_length_le (l := l.drop k) (by rw [List.length_drop]; omega)]; simp
              rw [e] at hown
              exact ⟨_, rfl, hown.rd, hb⟩
end Go.Proofs.Ytphkonkahmmfbaa
