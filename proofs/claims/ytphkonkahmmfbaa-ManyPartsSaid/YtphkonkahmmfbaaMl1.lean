import Derived.Test.YtphkonkahmmfbaaMm5
import Derived.Test.YtphkonkahmmfbaaMr2
import Derived.Test.YtphkonkahmmfbaaMr4
import Derived.Test.YtphkonkahmmfbaaMlFn
namespace Go.Proofs.Ytphkonkahmmfbaa
open Go.RowKit

theorem RdI_new (w : World) (l : List Int) (cs : Array Value) (T : TypeId) (h : cs = (l.map (Value.int .i64)).toArray) (n : Nat) (hn : n = l.length) (g : Nat) (hg : g = w.heap.size) : RdI (w.alloc (.cells cs T)) (.slice (some ⟨g, 0, none⟩) n n) l := by
  subst h hn hg
  refine ⟨_, _, rfl, fun j hj => ⟨_, _, rfl, ?_⟩⟩
  rw [World.cell?_alloc_at _ _ _ _ rfl]
  simp [hj]

theorem below_new (w : World) (o : Obj) : Below w.heap.size w (w.alloc o) := (Below.refl _ _).alloc (Nat.le_refl _) o

theorem cap_lit (a : Option Addr) (n : Nat) : CapOK (.slice a n n) := Nat.le_refl n

set_option maxHeartbeats 400000 in
theorem knows_any (w : World) : Calls Try.prog 6 #[] w fun e w' => e = .returned (.bool true) ∧ Below w.heap.size w w' := by
  go_enter Try.func6, Try.ntmps6
  go_wp2_with fail
  refine (many_Of_any _ [3, 1, 3] _ (RdI_new w [3, 1, 3] #[.int .i64 3, .int .i64 1, .int .i64 3] 3 rfl 3 rfl _ rfl) (by simp)).mono ?_
  rintro e w1 ⟨v1, rfl, hown1, hb1⟩
  have hB1 : Below w.heap.size w w1 := (below_new w _).trans (hb1.mono (by simp))
  have hr1 : RdI w1 v1 [1, 3] := by rw [← knows_of]; exact hown1.rd
  clear hown1 hb1
  go_wp2_with fail
  refine (refSame_any _ _ [1, 3] [1, 3] _ (hr1.below (below_new _ _)) (RdI_new w1 [1, 3] #[.int .i64 1, .int .i64 3] 3 rfl 2 rfl _ (by simp)) (by simp) (by simp)).mono ?_
  rintro e w2 ⟨rfl, q, rfl⟩
  have hB2 : Below w.heap.size w ((w1.alloc (.cells #[.int .i64 1, .int .i64 3] 3)).drewN q) := below_drewN (hB1.alloc hB1.size _) q
  generalize (w1.alloc (.cells #[.int .i64 1, .int .i64 3] 3)).drewN q = w2 at hB2 ⊢
  clear hr1 hB1
  go_wp2_with fail
  refine (many_Less_any _ _ [1, 2, 3] [2, 5] _ ((RdI_new w2 [1, 2, 3] #[.int .i64 1, .int .i64 2, .int .i64 3] 3 rfl 3 rfl _ rfl).below (below_new _ _)) (RdI_new _ [2, 5] #[.int .i64 2, .int .i64 5] 3 rfl 2 rfl _ (by simp)) (cap_lit _ _) (cap_lit _ _) (by simp)).mono ?_
  rintro e w3 ⟨v3, rfl, hown3, hb3⟩
  have hB3 : Below w.heap.size w w3 := ((hB2.alloc hB2.size _).alloc (by have := hB2.size; simp; omega) _).trans (hb3.mono (by have := hB2.size; simp; omega))
  have hr3 : RdI w3 v3 [1, 3] := by rw [← knows_less]; exact hown3.rd
  clear hown3 hb3 hB2
  go_wp2_with fail
  refine (refSame_any _ _ [1, 3] [1, 3] _ (hr3.below (below_new _ _)) (RdI_new w3 [1, 3] #[.int .i64 1, .int .i64 3] 3 rfl 2 rfl _ (by simp)) (by simp) (by simp)).mono ?_
  rintro e w4 ⟨rfl, q, rfl⟩
  have hB4 : Below w.heap.size w ((w3.alloc (.cells #[.int .i64 1, .int .i64 3] 3)).drewN q) := below_drewN (hB3.alloc hB3.size _) q
  go_wp2_with fail
  go_ret
  exact ⟨rfl, hB4⟩
end Go.Proofs.Ytphkonkahmmfbaa
