import Derived.Test.YtficeeaaaijgcaaR10a
import Derived.Deep.RegionWith
namespace Go.Proofs.Ytficeeaaaijgcaa
open Go.RowKit
set_option linter.unusedVariables false

def EndsSpec (v : Value) (w : World) (i : Int) (last : Bool) (r : List Int) : Prop :=
  Calls Try.prog 60 #[v, .int .i64 i, .bool last] w fun e w' => ∃ v', e = .returned v' ∧ OwI w' w.heap.size v' r ∧ Below w.heap.size w w'

theorem OwI_one (w : World) (n : Int) : OwI (w.alloc (.cells #[.int .i64 n] 3)) w.heap.size (.slice (some ⟨w.heap.size, 0, none⟩) 1 1) [n] :=
  World.ownsRow_lit w #[.int .i64 n] 1 (Nat.le_refl _) (by simp [maxLen]) rfl

set_option maxHeartbeats 400000 in
theorem ends_set (v : Value) (l : List Rx) (w : World) (hv : RdX w v l) (hl : l.length ≤ 1000) (j : Nat) (hj : j < l.length) (hk : l[j].kind = 1) (last : Bool) : EndsSpec v w j last [(numL l j : Int)] := by
  obtain ⟨a, c, rfl⟩ := hv.shape
  obtain ⟨_, b, o, rfl, hcell⟩ := hv.kindAt j hj
  rw [hk] at hcell
  clear hk
  unfold EndsSpec
  go_enter Try.func60, Try.ntmps60
  go_wp2_with fail
  refine (number_any _ l _ hv hl j (by omega)).mono ?_
  rintro e w1 ⟨rfl, rfl⟩
  go_wp2_with fail
  go_ret
  exact ⟨_, rfl, OwI_one _ _, (Below.refl _ _).alloc (Nat.le_refl _) _⟩

set_option maxHeartbeats 400000 in
theorem ends_empty (v : Value) (l : List Rx) (w : World) (hv : RdX w v l) (hl : l.length ≤ 1000) (j : Nat) (hj : j < l.length) (hk : l[j].kind = 2) (last : Bool) : EndsSpec v w j last [] := by
  obtain ⟨a, c, rfl⟩ := hv.shape
  obtain ⟨_, b, o, rfl, hcell⟩ := hv.kindAt j hj
  rw [hk] at hcell
  clear hk
  unfold EndsSpec
  go_enter Try.func60, Try.ntmps60
  go_wp2_with fail
  go_ret
  exact ⟨_, rfl, OwI_empty _, (Below.refl _ _).alloc (Nat.le_refl _) _⟩

set_option maxHeartbeats 400000 in
theorem ends_one (v : Value) (l : List Rx) (w : World) (hv : RdX w v l) (hl : l.length ≤ 1000) (j : Nat) (hj : j < l.length) (k : Int) (hk : l[j].kind = k) (hk' : k = 5 ∨ k = 6 ∨ k = 7) (last : Bool) (r : List Int) (h1 : EndsSpec v w (j - 1) last r) : EndsSpec v w j last r := by
  obtain ⟨a, c, rfl⟩ := hv.shape
  obtain ⟨_, b, o, rfl, hcell⟩ := hv.kindAt j hj
  rw [hk] at hcell
  clear hk
  unfold EndsSpec at h1 ⊢
  have H1 := Lib.hid h1; clear h1
  rcases hk' with rfl | rfl | rfl
  all_goals
    go_enter Try.func60, Try.ntmps60
    go_wp2_with fail
    refine H1.out.mono ?_
    rintro e w1 ⟨v1, rfl, hown, hb⟩
    go_wp2_with fail
    go_ret
    exact ⟨_, rfl, hown, hb⟩

/-- what 'ends' makes of two parts -/
def endsTwo (k : Int) (last f1 f2 : Bool) (ra rb : List Int) : List Int :=
  if k = 3 ∧ last = true ∧ f1 = false then rb else if k = 3 ∧ last = false ∧ f2 = false then ra else ra ++ rb

set_option maxHeartbeats 1000000 in
theorem ends_two (v : Value) (l : List Rx) (w : World) (hv : RdX w v l) (hl : l.length ≤ 1000) (j : Nat) (hj : j < l.length) (k : Int) (hk : l[j].kind = k) (hk' : k = 3 ∨ k = 4) (last : Bool) (m : Nat) (hm : m < l.length) (f1 f2 : Bool) (ra rb : List Int)
    (hs : ra.length + rb.length ≤ 10000000)
    (h1 : ∀ w, RdX w v l → EndsSpec v w (j - 1) last rb) (hb : ∀ w, RdX w v l → BegSpec v w (j - 1) m) (h2 : ∀ w, RdX w v l → EndsSpec v w (m - 1) last ra)
    (h3 : ∀ w, RdX w v l → FreeSpec v w (j - 1) f1) (h4 : ∀ w, RdX w v l → FreeSpec v w (m - 1) f2) : EndsSpec v w j last (endsTwo k last f1 f2 ra rb) := by
  obtain ⟨a, c, rfl⟩ := hv.shape
  obtain ⟨_, b, o, rfl, hcell⟩ := hv.kindAt j hj
  rw [hk] at hcell
  clear hk
  unfold EndsSpec at h1 h2 ⊢
  unfold BegSpec at hb
  unfold FreeSpec at h3 h4
  have H1 := Lib.hid h1; clear h1
  have H2 := Lib.hid h2; clear h2
  have H3 := Lib.hid h3; clear h3
  have H4 := Lib.hid h4; clear h4
  have HB := Lib.hid hb; clear hb
  rcases hk' with rfl | rfl <;> cases last <;> cases f1 <;> cases f2
  all_goals
    go_enter Try.func60, Try.ntmps60
    go_wp2_with fail
    refine (H1.out _ hv).mono ?_
    rintro e w1 ⟨v1, rfl, hown1, hb1⟩
    have hv1 := hv.below hb1
    clear hv
    go_wp2_with fail
    refine (HB.out _ hv1).mono ?_
    rintro e w1 ⟨rfl, rfl⟩
    go_wp2_with fail
    refine (H2.out _ hv1).mono ?_
    rintro e w2 ⟨v2, rfl, hown2, hb2⟩
    have hv2 := hv1.below hb2
    have hrd := hown1.rd.below hb2
    have hB : Below w.heap.size w w2 := hb1.trans (hb2.mono hb1.size)
    have hown1' := hown1.below hb2 (Nat.le_refl _)
    have hown2' := hown2.mono hb1.size
    clear hown1 hown2 hb1 hb2 hv1
    go_wp2_with (at_builtin; refine wpList_append_R eInt rfl _ _ rfl w.heap.size _ _ _ _ rfl hown2' rfl hrd (fun _ => rfl) hs hB.size ?_; intro v' w3 hown3 hb3; (have hB3 := Lib.hid (hB.trans hb3)); (have Hown := Lib.hid hown3); clear hown3 hb3)
    try first
      | ((with_reducible refine (H4.out _ hv2).mono ?_); (rintro e w3 ⟨rfl, rfl⟩); (go_wp2_with (at_builtin; refine wpList_append_R eInt rfl _ _ rfl w.heap.size _ _ _ _ rfl hown2' rfl hrd (fun _ => rfl) hs hB.size ?_; intro v' w3 hown3 hb3; (have hB3 := Lib.hid (hB.trans hb3)); (have Hown := Lib.hid hown3); clear hown3 hb3)))
      | ((with_reducible refine (H3.out _ hv2).mono ?_); (rintro e w3 ⟨rfl, rfl⟩); (go_wp2_with (at_builtin; refine wpList_append_R eInt rfl _ _ rfl w.heap.size _ _ _ _ rfl hown2' rfl hrd (fun _ => rfl) hs hB.size ?_; intro v' w3 hown3 hb3; (have hB3 := Lib.hid (hB.trans hb3)); (have Hown := Lib.hid hown3); clear hown3 hb3)))
    go_ret
    first
    | exact ⟨_, rfl, hown1', hB⟩
    | exact ⟨_, rfl, hown2', hB⟩
    | exact ⟨_, rfl, Hown.out, hB3.out⟩
end Go.Proofs.Ytficeeaaaijgcaa
