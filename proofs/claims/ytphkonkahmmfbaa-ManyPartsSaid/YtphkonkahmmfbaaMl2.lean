import Derived.Test.YtphkonkahmmfbaaMl1
namespace Go.Proofs.Ytphkonkahmmfbaa
open Go.RowKit

def InI (l : List Int) : Prop := ∀ x ∈ l, -9223372036854775808 ≤ x ∧ x ≤ 9223372036854775807

set_option maxHeartbeats 1000000 in
theorem manyOf_any (v u : Value) (l m : List Int) (w : World) (hv : RdI w v l) (hu : RdI w u m) (hli : InI l) (hmi : InI m) :
    Calls Try.prog 3 #[v, u] w fun e w' => e = .returned (.bool true) ∧ Below w.heap.size w w' := by
  have hv' := hv
  have hu' := hu
  obtain ⟨a1, c1, rfl, _⟩ := hv'
  obtain ⟨a2, c2, rfl, _⟩ := hu'
  have hki := keyS_inj l m hli hmi
  have Hki : Hid (((keyS l).toList == (keyS m).toList) = decide (l = m)) := Lib.hid (by
    rw [Bool.eq_iff_iff, beq_iff_eq, decide_eq_true_iff, ← hki, ByteArray.toList_eq, ByteArray.toList_eq]
    exact ⟨fun h => WideShapes.bytes_inj h, fun h => by rw [h]⟩)
  clear hki hli hmi
  by_cases h1 : l.length ≤ 200
  · by_cases h2 : m.length ≤ 200
    · have h1' : ¬ (200 : Int) < l.length := by omega
      have h2' : ¬ (200 : Int) < m.length := by omega
      go_enter Try.func3, Try.ntmps3
      go_wp2_with fail
      refine (many_Of_any _ l _ hv (by omega)).mono ?_
      rintro e w1 ⟨v1, rfl, hown1, hB1⟩
      have hr1 : RdI w1 v1 (ofL l) := by rw [← ofL_eq]; exact hown1.rd
      clear hown1
      go_wp2_with fail
      refine (refOf_any _ l _ (hv.below hB1) (by omega)).mono ?_
      rintro e w2 ⟨v2, rfl, hr2, hb2⟩
      have hr1' : RdI w2 v1 (ofL l) := hr1.below hb2
      have hB2 : Below w.heap.size w w2 := hB1.trans (hb2.mono hB1.size)
      clear hr1 hb2 hB1
      have hol : (ofL l).length ≤ 4000000 := by have := foldl_putL_length l []; simp only [ofL, List.length_nil] at this ⊢; omega
      go_wp2_with fail
      refine (asBelow (refSame_any _ _ _ _ _ hr1' hr2 hol hol)).mono ?_
      rintro e w3 ⟨he, hb3⟩
      rw [decide_eq_true rfl] at he
      subst he
      have hB3 : Below w.heap.size w w3 := hB2.trans (hb3.mono hB2.size)
      clear hr1' hr2 hb3 hB2
      go_wp2_with fail
      refine (asBelow (many_Right_any _ l _ (hv.below hB3) (by omega))).mono ?_
      rintro e w4 ⟨rfl, hb4⟩
      have hB4 : Below w.heap.size w w4 := hB3.trans (hb4.mono hB3.size)
      clear hB3 hb4
      go_wp2_with fail
      refine (asBelow (refRight_any _ l _ (hv.below hB4) (by omega))).mono ?_
      rintro e w5 ⟨rfl, hb5⟩
      have hB5 : Below w.heap.size w w5 := hB4.trans (hb5.mono hB4.size)
      clear hB4 hb5
      go_wp2_with fail
      refine (asBelow (many_Same_any _ _ l m _ (hv.below hB5) (hu.below hB5) (by omega) (by omega))).mono ?_
      rintro e w6 ⟨rfl, hb6⟩
      have hB6 : Below w.heap.size w w6 := hB5.trans (hb6.mono hB5.size)
      clear hB5 hb6
      go_wp2_with fail
      refine (asBelow (refSame_any _ _ l m _ (hv.below hB6) (hu.below hB6) (by omega) (by omega))).mono ?_
      rintro e w7 ⟨rfl, hb7⟩
      have hB7 : Below w.heap.size w w7 := hB6.trans (hb7.mono hB6.size)
      clear hB6 hb7
      go_wp2_with fail
      refine (many_Key_any _ l _ (hv.below hB7) (by omega)).mono ?_
      rintro e w8 ⟨rfl, hb8⟩
      have hB8 : Below w.heap.size w w8 := hB7.trans (hb8.mono hB7.size)
      clear hB7 hb8
      go_wp2_with fail
      refine (many_Key_any _ m _ (hu.below hB8) (by omega)).mono ?_
      rintro e w9 ⟨rfl, hb9⟩
      have hB9 : Below w.heap.size w w9 := hB8.trans (hb9.mono hB8.size)
      clear hB8 hb9
      have Hk := Hki.out
      go_wp2_with fail
      refine (asBelow (refSame_any _ _ l m _ (hv.below hB9) (hu.below hB9) (by omega) (by omega))).mono ?_
      rintro e w10 ⟨rfl, hb10⟩
      have hB10 : Below w.heap.size w w10 := hB9.trans (hb10.mono hB9.size)
      clear hB9 hb10
      go_wp2_with fail
      refine (asBelow (many_Same_any _ _ l l _ (hv.below hB10) (hv.below hB10) (by omega) (by omega))).mono ?_
      rintro e w11 ⟨he, hb11⟩
      rw [decide_eq_true rfl] at he
      subst he
      have hB11 : Below w.heap.size w w11 := hB10.trans (hb11.mono hB10.size)
      clear hB10 hb11
      go_wp2_with fail
      refine (knows_any _).mono ?_
      rintro e w12 ⟨rfl, hb12⟩
      have hB12 : Below w.heap.size w w12 := hB11.trans (hb12.mono hB11.size)
      clear hB11 hb12
      go_wp2_with fail
      go_ret
      exact ⟨rfl, hB12⟩
    · have h1' : ¬ (200 : Int) < l.length := by omega
      have h2' : (200 : Int) < m.length := by omega
      clear Hki
      go_enter Try.func3, Try.ntmps3
      go_wp2_with (go_at_call 6; refine (knows_any _).mono ?_; rintro e w1 ⟨rfl, hb1⟩)
      go_ret
      exact ⟨rfl, hb1⟩
  · have h1' : (200 : Int) < l.length := by omega
    clear Hki
    go_enter Try.func3, Try.ntmps3
    go_wp2_with (go_at_call 6; refine (knows_any _).mono ?_; rintro e w1 ⟨rfl, hb1⟩)
    go_ret
    exact ⟨rfl, hb1⟩
end Go.Proofs.Ytphkonkahmmfbaa
