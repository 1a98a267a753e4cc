import Derived.Test.YtphkonkahmmfbaaMl3
import Derived.Deep.RegionWith
namespace Go.Proofs.Ytphkonkahmmfbaa
open Go.RowKit

def comL (l m : List Int) : List Int := mergeL false true false (riseL l) (riseL m)
def lesL (l m : List Int) : List Int := mergeL true false false (riseL l) (riseL m)
def allL (l m : List Int) : List Int := mergeL true true true (riseL l) (riseL m)
theorem parts_lm {l m : List Int} : mergeL true true true (comL l m) (lesL l m) = riseL l := parts_eq _ _ (riseL_rise l) (riseL_rise m)
theorem all_ml {l m : List Int} : mergeL true true true (riseL m) (riseL l) = allL l m := (union_comm _ _ (riseL_rise l) (riseL_rise m)).symm
theorem com_ml {l m : List Int} : mergeL false true false (riseL m) (riseL l) = comL l m := (common_comm _ _ (riseL_rise l) (riseL_rise m)).symm
theorem all_rise (l m : List Int) : Rising (allL l m) := (mergeL_spec _ _ _ _ _ (riseL_rise l) (riseL_rise m)).1
theorem com_rise (l m : List Int) : Rising (comL l m) := (mergeL_spec _ _ _ _ _ (riseL_rise l) (riseL_rise m)).1
theorem les_rise (l m : List Int) : Rising (lesL l m) := (mergeL_spec _ _ _ _ _ (riseL_rise l) (riseL_rise m)).1
theorem all_right {l m : List Int} : rightL (allL l m) = true := (rightL_rise _).2 (all_rise l m)
theorem within_all {l m : List Int} : decide ((mergeL true false false (riseL l) (allL l m)).length = 0) = true :=
  decide_eq_true (within_zero _ _ (riseL_rise l) (all_rise l m) fun x hx => (union_mem _ _ (riseL_rise l) (riseL_rise m) x).2 (Or.inl hx))
theorem within_com {l m : List Int} : decide ((mergeL true false false (comL l m) (riseL m)).length = 0) = true :=
  decide_eq_true (within_zero _ _ (com_rise l m) (riseL_rise m) fun x hx => ((common_mem _ _ (riseL_rise l) (riseL_rise m) x).1 hx).2)
theorem len_lm (l m : List Int) : (((allL l m).length : Int) == ((riseL l).length : Int) + ((riseL m).length : Int) - ((comL l m).length : Int)) = true := by
  have := union_len (riseL l) (riseL m)
  rw [beq_iff_eq]
  unfold allL comL
  omega
theorem mem_all (l m : List Int) (x : Int) (h : x ∈ l) : decide (x ∈ allL l m) = true := decide_eq_true ((union_mem _ _ (riseL_rise l) (riseL_rise m) x).2 (Or.inl ((riseL_mem l x).2 h)))
theorem mem_com (l m : List Int) (x : Int) (h : x ∈ l) : decide (x ∈ comL l m) = decide (x ∈ m) := by
  rw [Bool.eq_iff_iff, decide_eq_true_iff, decide_eq_true_iff, comL, common_mem _ _ (riseL_rise l) (riseL_rise m), riseL_mem, riseL_mem]; simp [h]
theorem mem_les (l m : List Int) (x : Int) (h : x ∈ l) : decide (x ∈ lesL l m) = !decide (x ∈ m) := by
  rw [Bool.eq_iff_iff, decide_eq_true_iff, lesL, less_mem _ _ (riseL_rise l) (riseL_rise m), riseL_mem, riseL_mem]; simp [h]

set_option maxHeartbeats 4000000 in
set_option maxRecDepth 100000 in
theorem manyParts_any (v u : Value) (l m : List Int) (w : World) (hv : RdI w v l) (hu : RdI w u m) :
    Calls Try.prog 5 #[v, u] w fun e w' => e = .returned (.bool true) ∧ Below w.heap.size w w' := by
  obtain ⟨a1, c1, rfl⟩ := hv.shape
  obtain ⟨a2, c2, rfl⟩ := hu.shape
  by_cases h1 : l.length ≤ 200
  · by_cases h2 : m.length ≤ 200
    · have h1' : ¬ (200 : Int) < l.length := by omega
      have h2' : ¬ (200 : Int) < m.length := by omega
      have hA := riseL_length l
      have hM := riseL_length m
      have hC : (comL l m).length ≤ 400 := by have := mergeL_le false true false (riseL l) (riseL m); unfold comL; omega
      have hL : (lesL l m).length ≤ 400 := by have := mergeL_le true false false (riseL l) (riseL m); unfold lesL; omega
      have hU : (allL l m).length ≤ 400 := by have := mergeL_le true true true (riseL l) (riseL m); unfold allL; omega
      go_enter Try.func5, Try.ntmps5
      go_wp2_with fail
      refine (many_Of_any _ l _ hv (by omega)).mono ?_
      rintro e w1 ⟨v1, rfl, hown, hb⟩
      have r1 : RdI w1 v1 (riseL l) := hown.rd
      have c1 := hown.cap
      clear hown
      have hB : Below w.heap.size w w1 := hb
      replace hv := hv.below hb
      replace hu := hu.below hb
      clear hb
      go_wp2_with fail
      refine (many_Of_any _ m _ hu (by omega)).mono ?_
      rintro e w2 ⟨v2, rfl, hown, hb⟩
      have r2 : RdI w2 v2 (riseL m) := hown.rd
      have c2 := hown.cap
      clear hown
      replace hB : Below w.heap.size w w2 := hB.trans (hb.mono hB.size)
      replace hv := hv.below hb
      replace hu := hu.below hb
      replace r1 := r1.below hb
      clear hb
      go_wp2_with fail
      refine (many_Common_any _ _ (riseL l) (riseL m) _ r1 r2 c1 c2 (by omega)).mono ?_
      rintro e w3 ⟨v3, rfl, hown, hb⟩
      have r3 : RdI w3 v3 (comL l m) := hown.rd
      have c3 := hown.cap
      clear hown
      replace hB : Below w.heap.size w w3 := hB.trans (hb.mono hB.size)
      replace hv := hv.below hb
      replace hu := hu.below hb
      replace r1 := r1.below hb
      replace r2 := r2.below hb
      clear hb
      go_wp2_with fail
      refine (many_Less_any _ _ (riseL l) (riseL m) _ r1 r2 c1 c2 (by omega)).mono ?_
      rintro e w4 ⟨v4, rfl, hown, hb⟩
      have r4 : RdI w4 v4 (lesL l m) := hown.rd
      have c4 := hown.cap
      clear hown
      replace hB : Below w.heap.size w w4 := hB.trans (hb.mono hB.size)
      replace hv := hv.below hb
      replace hu := hu.below hb
      replace r1 := r1.below hb
      replace r2 := r2.below hb
      replace r3 := r3.below hb
      clear hb
      go_wp2_with fail
      refine (many_Union_any _ _ (riseL l) (riseL m) _ r1 r2 c1 c2 (by omega)).mono ?_
      rintro e w5 ⟨v5, rfl, hown, hb⟩
      have r5 : RdI w5 v5 (allL l m) := hown.rd
      have c5 := hown.cap
      clear hown
      replace hB : Below w.heap.size w w5 := hB.trans (hb.mono hB.size)
      replace hv := hv.below hb
      replace hu := hu.below hb
      replace r1 := r1.below hb
      replace r2 := r2.below hb
      replace r3 := r3.below hb
      replace r4 := r4.below hb
      clear hb
      obtain ⟨aa1, cc1, rfl⟩ := r1.shape
      obtain ⟨aa2, cc2, rfl⟩ := r2.shape
      obtain ⟨aa3, cc3, rfl⟩ := r3.shape
      obtain ⟨aa5, cc5, rfl⟩ := r5.shape
      go_wp2_with fail
      go_loopw [10] (fun i wr => Below w5.heap.size w5 wr ∧ ∃ k : Nat, k ≤ l.length ∧ i = .int .i64 k) (fun i _ => l.length - (intOf i).toNat)
      case atStart => exact ⟨Below.refl _ _, 0, by omega, rfl⟩
      case round =>
        obtain ⟨hb, k, hk, rfl⟩ := hrel
        replace hv := hv.below hb
        replace r1 := r1.below hb
        replace r2 := r2.below hb
        replace r3 := r3.below hb
        replace r4 := r4.below hb
        replace r5 := r5.below hb
        by_cases hlt : k < l.length
        · obtain ⟨b, o, rfl, hcell⟩ := hv.at k hlt
          have hin : l[k] ∈ l := List.getElem_mem hlt
          have HA : ∀ q, Calls Try.prog 14 #[.slice aa5 (allL l m).length cc5, .int .i64 l[k]] (wr.drewN q) fun e w' => e = .returned (.bool true) ∧ ∃ n, w' = (wr.drewN q).drewN n := fun q => by
            have := many_Has_any _ (allL l m) l[k] (wr.drewN q) (r5.drewN q) (by omega) (all_rise l m).sorted
            rw [mem_all l m _ hin] at this
            exact this
          have HC : ∀ q, Calls Try.prog 14 #[.slice aa3 (comL l m).length cc3, .int .i64 l[k]] (wr.drewN q) fun e w' => e = .returned (.bool (decide (l[k] ∈ m))) ∧ ∃ n, w' = (wr.drewN q).drewN n := fun q => by
            have := many_Has_any _ (comL l m) l[k] (wr.drewN q) (r3.drewN q) (by omega) (com_rise l m).sorted
            rw [mem_com l m _ hin] at this
            exact this
          have HL : ∀ q, Calls Try.prog 14 #[v4, .int .i64 l[k]] (wr.drewN q) fun e w' => e = .returned (.bool (!decide (l[k] ∈ m))) ∧ ∃ n, w' = (wr.drewN q).drewN n := fun q => by
            have := many_Has_any _ (lesL l m) l[k] (wr.drewN q) (r4.drewN q) (by omega) (les_rise l m).sorted
            rw [mem_les l m _ hin] at this
            exact this
          have HA' := Lib.hid HA; clear HA
          have HC' := Lib.hid HC; clear HC
          have HL' := Lib.hid HL; clear HL
          generalize hd : decide (l[k] ∈ m) = c at HC' HL'
          clear hd hin
          cases c
          all_goals
            go_wp2_with fail
            go_quiet (first
              | (go_at_call_of 14 (Value.slice aa5 (allL l m).length cc5); exact Calls.quiet_of (HA'.out _))
              | (go_at_call_of 14 (Value.slice aa3 (comL l m).length cc3); exact Calls.quiet_of (HC'.out _))
              | (go_at_call_of 14 v4; exact Calls.quiet_of (HL'.out _)))
            go_wp2_with fail
            go_roundw
            case rel => exact ⟨below_drewN hb _, k + 1, by omega, by go_num⟩
            case measure => simp [intOf]; omega
        · have hB0 : Below w.heap.size w wr := hB.trans (hb.mono hB.size)
          clear hB hb hv hu
          have Hlen := len_lm l m
          go_wp2_with fail
          refine (many_Union_any _ _ (comL l m) (lesL l m) _ r3 r4 c3 c4 (by omega)).mono ?_
          rintro e w1 ⟨vv, rfl, hown, hb⟩
          have rn := hown.rd
          clear hown
          rw [parts_lm] at rn
          have hB : Below wr.heap.size wr w1 := hb
          replace r1 := r1.below hb
          replace r2 := r2.below hb
          replace r3 := r3.below hb
          replace r4 := r4.below hb
          replace r5 := r5.below hb
          clear hb
          go_wp2_with fail
          refine (asBelow (many_Same_any _ _ _ _ _ rn r1 (by omega) (by omega))).mono ?_
          rintro e w2 ⟨he, hb⟩
          rw [decide_eq_true rfl] at he
          subst he
          replace hB : Below wr.heap.size wr w2 := hB.trans (hb.mono hB.size)
          replace r1 := r1.below hb
          replace r2 := r2.below hb
          replace r3 := r3.below hb
          replace r4 := r4.below hb
          replace r5 := r5.below hb
          clear hb rn
          go_wp2_with fail
          refine (many_Union_any _ _ (riseL m) (riseL l) _ r2 r1 c2 c1 (by omega)).mono ?_
          rintro e w3 ⟨vv, rfl, hown, hb⟩
          have rn := hown.rd
          clear hown
          rw [all_ml] at rn
          replace hB : Below wr.heap.size wr w3 := hB.trans (hb.mono hB.size)
          replace r1 := r1.below hb
          replace r2 := r2.below hb
          replace r3 := r3.below hb
          replace r4 := r4.below hb
          replace r5 := r5.below hb
          clear hb
          go_wp2_with fail
          refine (asBelow (many_Same_any _ _ _ _ _ r5 rn (by omega) (by omega))).mono ?_
          rintro e w4 ⟨he, hb⟩
          rw [decide_eq_true rfl] at he
          subst he
          replace hB : Below wr.heap.size wr w4 := hB.trans (hb.mono hB.size)
          replace r1 := r1.below hb
          replace r2 := r2.below hb
          replace r3 := r3.below hb
          replace r4 := r4.below hb
          replace r5 := r5.below hb
          clear hb rn
          go_wp2_with fail
          refine (many_Common_any _ _ (riseL m) (riseL l) _ r2 r1 c2 c1 (by omega)).mono ?_
          rintro e w5 ⟨vv, rfl, hown, hb⟩
          have rn := hown.rd
          clear hown
          rw [com_ml] at rn
          replace hB : Below wr.heap.size wr w5 := hB.trans (hb.mono hB.size)
          replace r1 := r1.below hb
          replace r2 := r2.below hb
          replace r3 := r3.below hb
          replace r4 := r4.below hb
          replace r5 := r5.below hb
          clear hb
          go_wp2_with fail
          refine (asBelow (many_Same_any _ _ _ _ _ r3 rn (by omega) (by omega))).mono ?_
          rintro e w6 ⟨he, hb⟩
          rw [decide_eq_true rfl] at he
          subst he
          replace hB : Below wr.heap.size wr w6 := hB.trans (hb.mono hB.size)
          replace r1 := r1.below hb
          replace r2 := r2.below hb
          replace r3 := r3.below hb
          replace r4 := r4.below hb
          replace r5 := r5.below hb
          clear hb rn
          go_wp2_with fail
          refine (asBelow (many_Right_any _ _ _ r5 (by omega))).mono ?_
          rintro e w7 ⟨he, hb⟩
          rw [all_right] at he
          subst he
          replace hB : Below wr.heap.size wr w7 := hB.trans (hb.mono hB.size)
          replace r1 := r1.below hb
          replace r2 := r2.below hb
          replace r3 := r3.below hb
          replace r4 := r4.below hb
          replace r5 := r5.below hb
          clear hb
          go_wp2_with fail
          refine (many_Within_any _ _ (riseL l) (allL l m) _ r1 r5 c1 c5 (by omega)).mono ?_
          rintro e w8 ⟨he, hb⟩
          rw [within_all] at he
          subst he
          replace hB : Below wr.heap.size wr w8 := hB.trans (hb.mono hB.size)
          replace r1 := r1.below hb
          replace r2 := r2.below hb
          replace r3 := r3.below hb
          replace r4 := r4.below hb
          replace r5 := r5.below hb
          clear hb
          go_wp2_with fail
          refine (many_Within_any _ _ (comL l m) (riseL m) _ r3 r2 c3 c2 (by omega)).mono ?_
          rintro e w9 ⟨he, hb⟩
          rw [within_com] at he
          subst he
          replace hB : Below wr.heap.size wr w9 := hB.trans (hb.mono hB.size)
          replace r1 := r1.below hb
          replace r2 := r2.below hb
          replace r3 := r3.below hb
          replace r4 := r4.below hb
          replace r5 := r5.below hb
          clear hb
          go_wp2_with fail
          refine (knows_any _).mono ?_
          rintro e w10 ⟨rfl, hb⟩
          replace hB : Below wr.heap.size wr w10 := hB.trans (hb.mono hB.size)
          replace r1 := r1.below hb
          replace r2 := r2.below hb
          replace r3 := r3.below hb
          replace r4 := r4.below hb
          replace r5 := r5.below hb
          clear hb
          go_wp2_with fail
          go_ret
          exact ⟨rfl, hB0.trans (hB.mono hB0.size)⟩
    · have h1' : ¬ (200 : Int) < l.length := by omega
      have h2' : (200 : Int) < m.length := by omega
      go_enter Try.func5, Try.ntmps5
      go_wp2_with (go_at_call 6; refine (knows_any _).mono ?_; rintro e w1 ⟨rfl, hb1⟩)
      go_ret
      exact ⟨rfl, hb1⟩
  · have h1' : (200 : Int) < l.length := by omega
    go_enter Try.func5, Try.ntmps5
    go_wp2_with (go_at_call 6; refine (knows_any _).mono ?_; rintro e w1 ⟨rfl, hb1⟩)
    go_ret
    exact ⟨rfl, hb1⟩
end Go.Proofs.Ytphkonkahmmfbaa
