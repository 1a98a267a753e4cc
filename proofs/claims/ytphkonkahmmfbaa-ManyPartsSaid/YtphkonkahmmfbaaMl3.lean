import Derived.Test.YtphkonkahmmfbaaMl2
namespace Go.Proofs.Ytphkonkahmmfbaa
open Go.RowKit

theorem asBelow' {P : Program} {f : FuncId} {args : Array Value} {w : World} {A : Ending → Prop} (h : Calls P f args w fun e w' => A e ∧ w = w') : Calls P f args w fun e w' => A e ∧ Below w.heap.size w w' :=
  h.mono fun e w' ⟨he, hn⟩ => ⟨he, by rw [← hn]; exact Below.refl _ _⟩

set_option maxHeartbeats 2000000 in
theorem manySets_any (v u : Value) (l m : List Int) (n : Int) (w : World) (hv : RdI w v l) (hu : RdI w u m) (hcv : CapOK v) (hcu : CapOK u) :
    Calls Try.prog 4 #[v, u, .int .i64 n] w fun e w' => e = .returned (.bool true) ∧ Below w.heap.size w w' := by
  obtain ⟨a1, c1, rfl⟩ := hv.shape
  obtain ⟨a2, c2, rfl⟩ := hu.shape
  by_cases h1 : l.length ≤ 200
  · by_cases h2 : m.length ≤ 200
    · have h1' : ¬ (200 : Int) < l.length := by omega
      have h2' : ¬ (200 : Int) < m.length := by omega
      by_cases hl : rightL l = true
      · by_cases hm : rightL m = true
        · have hlr := (rightL_rise l).1 hl
          have hmr := (rightL_rise m).1 hm
          have hul : (unionL l m).length ≤ 4000000 := by rw [← union_eq l m hlr hmr]; have := mergeL_le true true true l m; omega
          have hkl : ∀ i, (keptL l m i).length ≤ 4000000 := fun i => by have := List.length_filter_le (fun x => decide (x ∈ m) == i) l; unfold keptL; omega
          have Hl := Lib.hid hl; clear hl
          have Hm := Lib.hid hm; clear hm
          go_enter Try.func4, Try.ntmps4
          go_wp2_with fail
          refine (asBelow (refRight_any _ l _ hv (by omega))).mono ?_
          rintro e wa ⟨he, hb⟩
          rw [Hl.out] at he
          subst he
          have hBa : Below w.heap.size w wa := hb
          replace hv := hv.below hb
          replace hu := hu.below hb
          clear hb
          go_wp2_with fail
          refine (asBelow (refRight_any _ m _ hu (by omega))).mono ?_
          rintro e wb ⟨he, hb⟩
          rw [Hm.out] at he
          subst he
          have hBb : Below w.heap.size w wb := hBa.trans (hb.mono hBa.size)
          replace hv := hv.below hb
          replace hu := hu.below hb
          clear hb hBa
          go_wp2_with fail
          refine (asBelow (many_Has_any _ l n _ hv (by omega) hlr.sorted)).mono ?_
          rintro e w1 ⟨rfl, hb⟩
          have hB : Below wb.heap.size wb w1 := hb
          replace hv := hv.below hb
          replace hu := hu.below hb
          clear hb
          go_wp2_with fail
          refine (asBelow' (refHas_any _ l n _ hv (by omega))).mono ?_
          rintro e w2 ⟨rfl, hb⟩
          replace hB : Below wb.heap.size wb w2 := hB.trans (hb.mono hB.size)
          replace hv := hv.below hb
          replace hu := hu.below hb
          clear hb
          go_wp2_with fail
          refine (many_Union_any _ _ l m _ hv hu hcv hcu (by omega)).mono ?_
          rintro e w3 ⟨v1, rfl, hown, hb⟩
          have r1 := hown.rd
          clear hown
          rw [union_eq l m hlr hmr] at r1
          replace hB : Below wb.heap.size wb w3 := hB.trans (hb.mono hB.size)
          replace hv := hv.below hb
          replace hu := hu.below hb
          clear hb
          go_wp2_with fail
          refine (refUnion_any _ _ l m _ hv hu (by omega) (by omega)).mono ?_
          rintro e w4 ⟨v2, rfl, r2, hb⟩
          replace hB : Below wb.heap.size wb w4 := hB.trans (hb.mono hB.size)
          replace hv := hv.below hb
          replace hu := hu.below hb
          replace r1 := r1.below hb
          clear hb
          go_wp2_with fail
          refine (asBelow (refSame_any _ _ _ _ _ r1 r2 hul hul)).mono ?_
          rintro e w5 ⟨he, hb⟩
          rw [decide_eq_true rfl] at he
          subst he
          replace hB : Below wb.heap.size wb w5 := hB.trans (hb.mono hB.size)
          replace hv := hv.below hb
          replace hu := hu.below hb
          clear hb r1 r2
          go_wp2_with fail
          refine (many_Common_any _ _ l m _ hv hu hcv hcu (by omega)).mono ?_
          rintro e w6 ⟨v3, rfl, hown, hb⟩
          have r1 := hown.rd
          clear hown
          rw [common_eq l m hlr hmr] at r1
          replace hB : Below wb.heap.size wb w6 := hB.trans (hb.mono hB.size)
          replace hv := hv.below hb
          replace hu := hu.below hb
          clear hb
          go_wp2_with fail
          refine (refKept_any _ _ l m true _ hv hu (by omega) (by omega)).mono ?_
          rintro e w7 ⟨v4, rfl, r2, hb⟩
          replace hB : Below wb.heap.size wb w7 := hB.trans (hb.mono hB.size)
          replace hv := hv.below hb
          replace hu := hu.below hb
          replace r1 := r1.below hb
          clear hb
          go_wp2_with fail
          refine (asBelow (refSame_any _ _ _ _ _ r1 r2 (hkl true) (hkl true))).mono ?_
          rintro e w8 ⟨he, hb⟩
          rw [decide_eq_true rfl] at he
          subst he
          replace hB : Below wb.heap.size wb w8 := hB.trans (hb.mono hB.size)
          replace hv := hv.below hb
          replace hu := hu.below hb
          clear hb r1 r2
          go_wp2_with fail
          refine (many_Less_any _ _ l m _ hv hu hcv hcu (by omega)).mono ?_
          rintro e w9 ⟨v5, rfl, hown, hb⟩
          have r1 := hown.rd
          clear hown
          rw [less_eq l m hlr hmr] at r1
          replace hB : Below wb.heap.size wb w9 := hB.trans (hb.mono hB.size)
          replace hv := hv.below hb
          replace hu := hu.below hb
          clear hb
          go_wp2_with fail
          refine (refKept_any _ _ l m false _ hv hu (by omega) (by omega)).mono ?_
          rintro e w10 ⟨v6, rfl, r2, hb⟩
          replace hB : Below wb.heap.size wb w10 := hB.trans (hb.mono hB.size)
          replace hv := hv.below hb
          replace hu := hu.below hb
          replace r1 := r1.below hb
          clear hb
          go_wp2_with fail
          refine (asBelow (refSame_any _ _ _ _ _ r1 r2 (hkl false) (hkl false))).mono ?_
          rintro e w11 ⟨he, hb⟩
          rw [decide_eq_true rfl] at he
          subst he
          replace hB : Below wb.heap.size wb w11 := hB.trans (hb.mono hB.size)
          replace hv := hv.below hb
          replace hu := hu.below hb
          clear hb r1 r2
          go_wp2_with fail
          refine (many_Within_any _ _ l m _ hv hu hcv hcu (by omega)).mono ?_
          rintro e w12 ⟨he, hb⟩
          rw [less_eq l m hlr hmr] at he
          subst he
          replace hB : Below wb.heap.size wb w12 := hB.trans (hb.mono hB.size)
          replace hv := hv.below hb
          replace hu := hu.below hb
          clear hb
          go_wp2_with fail
          refine (refKept_any _ _ l m false _ hv hu (by omega) (by omega)).mono ?_
          rintro e w13 ⟨v7, rfl, r2, hb⟩
          obtain ⟨a7, c7, rfl⟩ := r2.shape
          have Hz : ((((keptL l m false).length : Nat) : Int) == 0) = decide ((keptL l m false).length = 0) := by rw [Bool.eq_iff_iff, beq_iff_eq, decide_eq_true_iff]; omega
          replace hB : Below wb.heap.size wb w13 := hB.trans (hb.mono hB.size)
          replace hv := hv.below hb
          replace hu := hu.below hb
          clear hb r2
          go_wp2_with fail
          refine (knows_any _).mono ?_
          rintro e w14 ⟨rfl, hb⟩
          replace hB : Below wb.heap.size wb w14 := hB.trans (hb.mono hB.size)
          replace hv := hv.below hb
          replace hu := hu.below hb
          clear hb
          go_wp2_with fail
          go_ret
          exact ⟨rfl, hBb.trans (hB.mono hBb.size)⟩
        · have Hl := Lib.hid hl; clear hl
          have Hm := Lib.hid (Bool.not_eq_true _ ▸ hm); clear hm
          go_enter Try.func4, Try.ntmps4
          go_wp2_with fail
          refine (asBelow (refRight_any _ l _ hv (by omega))).mono ?_
          rintro e wa ⟨he, hb⟩
          rw [Hl.out] at he
          subst he
          have hBa : Below w.heap.size w wa := hb
          replace hu := hu.below hb
          clear hb
          go_wp2_with fail
          refine (asBelow (refRight_any _ m _ hu (by omega))).mono ?_
          rintro e wb ⟨he, hb⟩
          rw [Hm.out] at he
          subst he
          have hBb : Below w.heap.size w wb := hBa.trans (hb.mono hBa.size)
          clear hb hBa
          go_wp2_with fail
          refine (knows_any _).mono ?_
          rintro e wc ⟨rfl, hb⟩
          go_wp2_with fail
          go_ret
          exact ⟨rfl, hBb.trans (hb.mono hBb.size)⟩
      · have Hl := Lib.hid (Bool.not_eq_true _ ▸ hl); clear hl
        go_enter Try.func4, Try.ntmps4
        go_wp2_with fail
        refine (asBelow (refRight_any _ l _ hv (by omega))).mono ?_
        rintro e wa ⟨he, hb⟩
        rw [Hl.out] at he
        subst he
        have hBa : Below w.heap.size w wa := hb
        clear hb
        go_wp2_with fail
        refine (knows_any _).mono ?_
        rintro e wc ⟨rfl, hb⟩
        go_wp2_with fail
        go_ret
        exact ⟨rfl, hBa.trans (hb.mono hBa.size)⟩
    · have h1' : ¬ (200 : Int) < l.length := by omega
      have h2' : (200 : Int) < m.length := by omega
      go_enter Try.func4, Try.ntmps4
      go_wp2_with (go_at_call 6; refine (knows_any _).mono ?_; rintro e w1 ⟨rfl, hb1⟩)
      go_ret
      exact ⟨rfl, hb1⟩
  · have h1' : (200 : Int) < l.length := by omega
    go_enter Try.func4, Try.ntmps4
    go_wp2_with (go_at_call 6; refine (knows_any _).mono ?_; rintro e w1 ⟨rfl, hb1⟩)
    go_ret
    exact ⟨rfl, hb1⟩
end Go.Proofs.Ytphkonkahmmfbaa
