import Derived.Test.YtficeeaaaijgcaaR10d
import Derived.Test.YtficeeaaaijgcaaSets
namespace Go.Proofs.Ytficeeaaaijgcaa
open Go.RowKit
set_option linter.unusedVariables false

def isSet (x : Rx) : Bool := x.kind == 1
def setsL (l : List Rx) : List Rx := if checkL l = 0 then l.filter isSet else []
theorem setsL_of {l : List Rx} {e : E} (h : WfX l e) : setsL l = setsT e := by
  unfold setsL
  rw [if_pos h.check, h.2]
  exact setsT_filter e
theorem filter_snoc {α : Type} (p : α → Bool) (l : List α) (k : Nat) (h : k < l.length) : (l.take (k+1)).filter p = (l.take k).filter p ++ (if p l[k] then [l[k]] else []) := by
  rw [List.take_succ_eq_append_getElem h, List.filter_append]; congr 1
  cases hp : p l[k] <;> simp [hp]

set_option maxHeartbeats 1000000 in
theorem ref10_Sets_any (v : Value) (l : List Rx) (w : World) (hv : RdX w v l) :
    Calls Try.prog 14 #[v] w fun e' w' => ∃ v', e' = .returned v' ∧ OwSet w' w.heap.size v' (setsL l) ∧ Below w.heap.size w w' := by
  have hv0 := hv
  obtain ⟨ad, c, rfl⟩ := hv.shape
  have hE := OwSet_empty w
  have hB : Below w.heap.size w (w.alloc (.cells #[] 28)) := (Below.refl _ _).alloc (Nat.le_refl _) _
  by_cases hck : checkL l = 0
  · have es : setsL l = l.filter isSet := by unfold setsL; rw [if_pos hck]
    rw [es]
    clear es
    have hlen : l.length ≤ 512 := by unfold checkL at hck; split at hck <;> omega
    have Hck := Lib.hid hck; clear hck
    go_enter Try.func14, Try.ntmps14
    go_wp2_with fail
    refine (ref7_Check_any _ l _ (hv.below hB)).mono ?_
    rintro e1 w1 ⟨he1, rfl⟩
    rw [Hck.out] at he1
    subst he1
    go_wp2_with fail
    go_loopw [3, 4] (fun v i wr => ∃ k : Nat, k ≤ l.length ∧ i = .int .i64 k ∧ OwSet wr w.heap.size v ((l.take k).filter isSet) ∧ Below w.heap.size w wr) (fun _ i _ => l.length - (intOf i).toNat)
    case atStart => exact ⟨0, by omega, rfl, hE, hB⟩
    case round =>
      clear hE hB
      obtain ⟨k, hk, rfl, hown, hb⟩ := hrel
      have hsz := hb.size
      by_cases hlt : k < l.length
      · obtain ⟨a', c', hva, hcc⟩ := hv0.below hb
        obtain ⟨b, o, hab, h0, h1, h2, h3, h4⟩ := hcc k hlt
        cases hva
        cases hab
        have hll : ((l.take k).filter isSet).length ≤ 1000000 := by have := List.length_filter_le isSet (l.take k); rw [List.length_take] at this; omega
        have Hs := Lib.hid (filter_snoc isSet l k hlt)
        clear hcc hv hv0
        by_cases hk1 : l[k].kind = 1
        · have e1 : (l[k].kind == 1) = true := by simp [hk1]
          have Hn : Hid ((l.take (k+1)).filter isSet = (l.take k).filter isSet ++ [l[k]]) := Lib.hid (by rw [Hs.out, if_pos (show isSet l[k] = true from e1)])
          clear hk1 Hs
          go_wp2_with (at_builtin; refine wpList_append_set rfl _ _ rfl w.heap.size _ _ rfl hown l[k] rfl hll hsz ?_; intro v' w1 hown1 hb1; (have Hb := Lib.hid (hb.trans hb1)); (have Hown := Lib.hid hown1); clear hown hown1 h0 h1 h2 h3 h4 hb hb1)
          go_roundw
          case rel => exact ⟨k + 1, by omega, by go_num, by rw [Hn.out]; exact Hown.out, Hb.out⟩
          case measure => simp [intOf]; omega
        · have e1 : (l[k].kind == 1) = false := by simp [hk1]
          have Hn : Hid ((l.take (k+1)).filter isSet = (l.take k).filter isSet) := Lib.hid (by rw [Hs.out, if_neg (by rw [show isSet l[k] = false from e1]; simp), List.append_nil])
          clear hk1 Hs
          go_wp2_with fail
          go_roundw
          case rel => exact ⟨k + 1, by omega, by go_num, by rw [Hn.out]; exact hown, hb⟩
          case measure => simp [intOf]; omega
      · have e : l.take k = l := List.take_of_length_le (by omega)
        rw [e] at hown
        go_wp2_with fail
        go_ret
        exact ⟨_, rfl, hown, hb⟩
  · have es : setsL l = [] := by unfold setsL; rw [if_neg hck]
    rw [es]
    clear es
    have hne : (checkL l != 0) = true := by simpa using hck
    clear hck
    go_enter Try.func14, Try.ntmps14
    go_wp2_with fail
    refine (ref7_Check_any _ l _ (hv.below hB)).mono ?_
    rintro e1 w1 ⟨rfl, rfl⟩
    go_wp2_with fail
    go_ret
    exact ⟨_, rfl, hE, hB⟩

def folL (e : E) (i : Int) (n : Nat) : List Int := ((List.range n).map fun (b : Nat) => (b : Int)).filter fun b => folB e 0 i b
theorem folL_succ (e : E) (i : Int) (k : Nat) : folL e i (k + 1) = folL e i k ++ (if folB e 0 i k then [(k : Int)] else []) := by
  unfold folL
  rw [List.range_succ, List.map_append, List.filter_append]
  congr 1
  cases h : folB e 0 i k <;> simp [h]
theorem folL_len (e : E) (i : Int) (n : Nat) : (folL e i n).length ≤ n := by
  unfold folL
  exact Nat.le_trans (List.length_filter_le _ _) (by simp)
/-- what Follow returns of an expression -/
def folR (e : E) (i : Int) : List Int := if 0 ≤ i ∧ i < nset e then folL e i (nset e) else []

set_option maxHeartbeats 1000000 in
theorem ref10_Follow_any (v : Value) (l : List Rx) (e : E) (i : Int) (w : World) (hv : RdX w v l) (he : WfX l e) :
    Calls Try.prog 21 #[v, .int .i64 i] w fun e' w' => ∃ v', e' = .returned v' ∧ OwI w' w.heap.size v' (folR e i) ∧ Below w.heap.size w w' := by
  obtain ⟨ad, c, rfl⟩ := hv.shape
  have hE := OwI_empty w
  have hB : Below w.heap.size w (w.alloc (.cells #[] 3)) := (Below.refl _ _).alloc (Nat.le_refl _) _
  have hlen := he.1
  have hns : (setsL l).length = nset e := by rw [setsL_of he, setsT_len]
  have hnn : nset e ≤ l.length := he.at.nset_le
  have Hns := Lib.hid hns; clear hns
  go_enter Try.func21, Try.ntmps21
  go_wp2_with fail
  refine (ref10_Sets_any _ l _ (hv.below hB)).mono ?_
  rintro e1 w1 ⟨v1, rfl, hown1, hb1⟩
  obtain ⟨asl, cs, hvs⟩ := hown1.shape
  rw [Hns.out] at hvs
  subst hvs
  have hE1 : OwI w1 w.heap.size (.slice (some ⟨w.heap.size, 0, none⟩) 0 0) [] := hE.below hb1 (Nat.le_refl _)
  have hB1 : Below w.heap.size w w1 := hB.trans (hb1.mono hB.size)
  clear hown1 hE hB hb1
  go_wp2_with fail
  by_cases hi : 0 ≤ i ∧ i < nset e
  · have ef : folR e i = folL e i (nset e) := by unfold folR; rw [if_pos hi]
    have Hef := Lib.hid ef; clear ef
    obtain ⟨hi1, hi2⟩ := hi
    go_loopw [5, 7] (fun v j wr => ∃ k : Nat, k ≤ nset e ∧ j = .int .i64 k ∧ OwI wr w.heap.size v (folL e i k) ∧ Below w.heap.size w wr) (fun _ j _ => nset e - (intOf j).toNat)
    case atStart => exact ⟨0, by omega, rfl, hE1, hB1⟩
    case round =>
      clear hE1 hB1
      obtain ⟨k, hk, rfl, hown, hb⟩ := hrel
      have hsz := hb.size
      by_cases hlt : k < nset e
      · have hll : (folL e i k).length ≤ 10000000 := by have := folL_len e i k; omega
        have Hs := Lib.hid (folL_succ e i k)
        go_wp2_with fail
        refine (follows_any _ l e i k _ (hv.below hb) he).mono ?_
        rintro e2 w2 ⟨he2, hb2⟩
        have hown2 := hown.below hb2 (Nat.le_refl _)
        have hB2 := hb.trans (hb2.mono hb.size)
        have hsz2 := hB2.size
        clear hown hb hb2
        cases hf : folB e 0 i k
        · rw [hf] at he2
          subst he2
          have Hn : Hid (folL e i (k + 1) = folL e i k) := Lib.hid (by rw [Hs.out, hf]; simp)
          clear hf Hs
          go_wp2_with fail
          go_roundw
          case rel => exact ⟨k + 1, by omega, by go_num, by rw [Hn.out]; exact hown2, hB2⟩
          case measure => simp [intOf]; omega
        · rw [hf] at he2
          subst he2
          have Hn : Hid (folL e i (k + 1) = folL e i k ++ [(k : Int)]) := Lib.hid (by rw [Hs.out, hf]; simp)
          clear hf Hs
          go_wp2_with (at_builtin; refine wpList_append_I rfl _ _ rfl w.heap.size _ _ rfl hown2 _ rfl hll hsz2 ?_; intro v' w3 hown3 hb3; (have Hb := Lib.hid (hB2.trans hb3)); (have Hown := Lib.hid hown3); clear hown2 hown3 hB2 hb3)
          go_roundw
          case rel => exact ⟨k + 1, by omega, by go_num, by rw [Hn.out]; exact Hown.out, Hb.out⟩
          case measure => simp [intOf]; omega
      · obtain rfl : k = nset e := by omega
        go_wp2_with fail
        go_ret
        exact ⟨_, rfl, by rw [Hef.out]; exact hown, hb⟩
  · have ef : folR e i = [] := by unfold folR; rw [if_neg hi]
    have Hef := Lib.hid ef; clear ef
    go_loop [5, 7] (fun v j => v = .slice (some ⟨w.heap.size, 0, none⟩) 0 0 ∧ ∃ k : Nat, k ≤ nset e ∧ j = .int .i64 k) (fun _ j => nset e - (intOf j).toNat)
    case atStart => exact ⟨rfl, 0, by omega, rfl⟩
    case round =>
      obtain ⟨rfl, k, hk, rfl⟩ := hrel
      by_cases hlt : k < nset e
      · rcases Int.lt_or_le i 0 with h0 | h0
        · clear hi
          go_wp2_with fail
          go_round
          case rel => exact ⟨rfl, k + 1, by omega, by go_num⟩
          case measure => simp [intOf]; omega
        · have hi2 : ¬ i < (nset e : Int) := fun h => hi ⟨h0, h⟩
          clear hi
          go_wp2_with fail
          go_round
          case rel => exact ⟨rfl, k + 1, by omega, by go_num⟩
          case measure => simp [intOf]; omega
      · clear hi
        go_wp2_with fail
        go_ret
        exact ⟨_, rfl, by rw [Hef.out]; exact hE1, hB1⟩
end Go.Proofs.Ytficeeaaaijgcaa
