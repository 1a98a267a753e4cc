import Derived.Test.YtphkonkahmmfbaaMm4
import Derived.Test.YtphkonkahmmfbaaKeyFn
namespace Go.Proofs.Ytphkonkahmmfbaa
open Go.RowKit

set_option maxHeartbeats 400000 in
theorem many_Within_any (v u : Value) (l m : List Int) (w : World) (hv : RdI w v l) (hu : RdI w u m) (hcv : CapOK v) (hcu : CapOK u) (hl : l.length + m.length ≤ 4000000) :
    Calls Try.prog 21 #[v, u] w fun e w' => e = .returned (.bool (decide ((mergeL true false false l m).length = 0))) ∧ Below w.heap.size w w' := by
  go_enter Try.func21, Try.ntmps21
  go_wp2_with fail
  refine (many_Less_any v u l m _ hv hu hcv hcu hl).mono ?_
  rintro e w1 ⟨v1, rfl, hown1, hb1⟩
  obtain ⟨a, c, rfl⟩ := hown1.shape
  go_wp2_with fail
  go_ret
  exact ⟨ret_bool (by rw [Bool.eq_iff_iff]; simp), hb1⟩

theorem eU8 : ElemTy Try.prog 35 5 (.int .u8 0) 1 := elemTy (by kernel_rfl) (by kernel_rfl) rfl (by decide)
abbrev OwB := Ow (Value.int .u8) 5

theorem run_loadCells_ow {w : World} {B : Nat} {v : Value} {l : List Int} (h : OwB w B v l) (T : TypeId) (hT : Try.prog.underlying T = some .string) :
    (convert 35 T v).run Try.prog w = .ok (.string (l.foldl (fun r n => r.push (UInt8.ofNat n.toNat)) ByteArray.empty)) w := by
  have he : Try.prog.underlying 5 = some (.int .u8) := by kernel_rfl
  rcases h.2 with ⟨rfl, h0⟩ | ⟨g, cap, cur, rfl, hb, hg, hnc, hcm, hcs, htake⟩
  · have : l = [] := List.eq_nil_of_length_eq_zero h0
    subst this
    rw [run_convert_bytes_string w _ T _ none 0 0 eU8.under he hT]
    simp [Conv.bytesToString]
  · rw [run_convert_bytes_string w _ T _ _ _ cap eU8.under he hT]
    refine run_bytesToString w _ _ cap l ?_
    have hc := run_loadCells_list (P := Try.prog) (w := w) ⟨g, 0, none⟩ (l.map (Value.int .u8)) (World.ownsRow.cells h rfl)
    rw [List.length_map] at hc
    exact hc

set_option maxHeartbeats 2000000 in
theorem many_Key_any (v : Value) (l : List Int) (w : World) (hv : RdI w v l) (hl : l.length ≤ 1000000) :
    Calls Try.prog 13 #[v] w fun e w' => e = .returned (.string (keyS l)) ∧ Below w.heap.size w w' := by
  have hlo := hv.lo
  obtain ⟨a, c, rfl⟩ := hv.shape
  clear hv
  go_enter Try.func13, Try.ntmps13
  go_wp2
  go_loopw [3, 9] (fun v i wr => ∃ k : Nat, k ≤ l.length ∧ i = .int .i64 k ∧ OwB wr w.heap.size v (keyL (l.take k)) ∧ Below w.heap.size w wr) (fun _ i _ => l.length - (intOf i).toNat)
  case atStart => exact ⟨0, by omega, rfl, Ow_nil _ _, Below.refl _ _⟩
  case round =>
    obtain ⟨k, hk, rfl, hown, hb⟩ := hrel
    by_cases hlt : k < l.length
    · obtain ⟨b', o', rfl, hcell⟩ := (hlo.rd hb).at k hlt
      obtain ⟨wo, rfl⟩ : ∃ wo : World, wo = wr := ⟨_, rfl⟩
      have hkl : (keyL (l.take k)).length ≤ 8000000 := by rw [keyL_len, List.length_take]; omega
      have hH : Hid (key8 l[k] = key8 l[k]) := Lib.hid rfl
      go_wp2
      go_loopw [3, 6] (fun v i wr => ∃ j : Nat, j ≤ 8 ∧ i = .int .i64 (shAt j) ∧ OwB wr w.heap.size v (keyL (l.take k) ++ (key8 l[k]).take j) ∧ Below w.heap.size w wr) (fun _ i _ => (intOf i + 8).toNat)
      case atStart => exact ⟨0, by omega, rfl, by rw [List.take_zero, List.append_nil]; exact hown, hb⟩
      case round =>
        clear hown hb hcell
        obtain ⟨j, hj, hi, hown, hb⟩ := hrel
        have hsz := hb.size
        have hjl : (keyL (l.take k) ++ (key8 l[k]).take j).length ≤ 10000000 := by
          rw [List.length_append, List.length_take]; omega
        have hcases : j = 0 ∨ j = 1 ∨ j = 2 ∨ j = 3 ∨ j = 4 ∨ j = 5 ∨ j = 6 ∨ j = 7 ∨ j = 8 := by omega
        rcases hcases with rfl | rfl | rfl | rfl | rfl | rfl | rfl | rfl | rfl
        all_goals
          simp only [shAt] at hi
          subst hi
        · go_wp2_with (at_builtin; refine wpList_append_E eU8 rfl _ _ rfl w.heap.size _ _ rfl hown _ rfl rfl hjl hsz ?_; intro v' w1 hown1 hb1; (have Hb := Lib.hid (hb.trans hb1)); clear hown hb hb1)
          go_roundw
          case rel => exact ⟨1, by omega, rfl, by rw [show (key8 l[k]).take 1 = (key8 l[k]).take 0 ++ [_] from rfl, ← List.append_assoc]; exact hown1, Hb.out⟩
          case measure => simp [intOf]
        · go_wp2_with (at_builtin; refine wpList_append_E eU8 rfl _ _ rfl w.heap.size _ _ rfl hown _ rfl rfl hjl hsz ?_; intro v' w1 hown1 hb1; (have Hb := Lib.hid (hb.trans hb1)); clear hown hb hb1)
          go_roundw
          case rel => exact ⟨2, by omega, rfl, by rw [show (key8 l[k]).take 2 = (key8 l[k]).take 1 ++ [_] from rfl, ← List.append_assoc]; exact hown1, Hb.out⟩
          case measure => simp [intOf]
        · go_wp2_with (at_builtin; refine wpList_append_E eU8 rfl _ _ rfl w.heap.size _ _ rfl hown _ rfl rfl hjl hsz ?_; intro v' w1 hown1 hb1; (have Hb := Lib.hid (hb.trans hb1)); clear hown hb hb1)
          go_roundw
          case rel => exact ⟨3, by omega, rfl, by rw [show (key8 l[k]).take 3 = (key8 l[k]).take 2 ++ [_] from rfl, ← List.append_assoc]; exact hown1, Hb.out⟩
          case measure => simp [intOf]
        · go_wp2_with (at_builtin; refine wpList_append_E eU8 rfl _ _ rfl w.heap.size _ _ rfl hown _ rfl rfl hjl hsz ?_; intro v' w1 hown1 hb1; (have Hb := Lib.hid (hb.trans hb1)); clear hown hb hb1)
          go_roundw
          case rel => exact ⟨4, by omega, rfl, by rw [show (key8 l[k]).take 4 = (key8 l[k]).take 3 ++ [_] from rfl, ← List.append_assoc]; exact hown1, Hb.out⟩
          case measure => simp [intOf]
        · go_wp2_with (at_builtin; refine wpList_append_E eU8 rfl _ _ rfl w.heap.size _ _ rfl hown _ rfl rfl hjl hsz ?_; intro v' w1 hown1 hb1; (have Hb := Lib.hid (hb.trans hb1)); clear hown hb hb1)
          go_roundw
          case rel => exact ⟨5, by omega, rfl, by rw [show (key8 l[k]).take 5 = (key8 l[k]).take 4 ++ [_] from rfl, ← List.append_assoc]; exact hown1, Hb.out⟩
          case measure => simp [intOf]
        · go_wp2_with (at_builtin; refine wpList_append_E eU8 rfl _ _ rfl w.heap.size _ _ rfl hown _ rfl rfl hjl hsz ?_; intro v' w1 hown1 hb1; (have Hb := Lib.hid (hb.trans hb1)); clear hown hb hb1)
          go_roundw
          case rel => exact ⟨6, by omega, rfl, by rw [show (key8 l[k]).take 6 = (key8 l[k]).take 5 ++ [_] from rfl, ← List.append_assoc]; exact hown1, Hb.out⟩
          case measure => simp [intOf]
        · go_wp2_with (at_builtin; refine wpList_append_E eU8 rfl _ _ rfl w.heap.size _ _ rfl hown _ rfl rfl hjl hsz ?_; intro v' w1 hown1 hb1; (have Hb := Lib.hid (hb.trans hb1)); clear hown hb hb1)
          go_roundw
          case rel => exact ⟨7, by omega, rfl, by rw [show (key8 l[k]).take 7 = (key8 l[k]).take 6 ++ [_] from rfl, ← List.append_assoc]; exact hown1, Hb.out⟩
          case measure => simp [intOf]
        · go_wp2_with (at_builtin; refine wpList_append_E eU8 rfl _ _ rfl w.heap.size _ _ rfl hown _ rfl rfl hjl hsz ?_; intro v' w1 hown1 hb1; (have Hb := Lib.hid (hb.trans hb1)); clear hown hb hb1)
          go_roundw
          case rel => exact ⟨8, by omega, rfl, by rw [show (key8 l[k]).take 8 = (key8 l[k]).take 7 ++ [_] from rfl, ← List.append_assoc]; exact hown1, Hb.out⟩
          case measure => simp [intOf]
        · have e8 : keyL (l.take k) ++ (key8 l[k]).take 8 = keyL (l.take (k + 1)) := by
            exact keyL_snoc l k hlt
          rw [e8] at hown
          go_wp2
          go_roundw
          case rel => exact ⟨k + 1, by omega, by go_num, hown, hb⟩
          case measure => simp [intOf]; omega
    · have hcv := run_loadCells_ow hown 9 (by kernel_rfl)
      have e : l.take k = l := List.take_of_length_le (by omega)
      rw [e] at hcv
      obtain ⟨S, hS⟩ : ∃ S, S = keyS l := ⟨_, rfl⟩
      unfold keyS at hS
      rw [← hS] at hcv
      have HS := Lib.hid hS; clear hS
      clear hown
      go_wp2
      go_ret
      exact ⟨by rw [HS.out]; rfl, hb⟩
end Go.Proofs.Ytphkonkahmmfbaa
