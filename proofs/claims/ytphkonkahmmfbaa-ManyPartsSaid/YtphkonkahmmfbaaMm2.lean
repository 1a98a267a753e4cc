/-
  The package many: the merge of two rising lists, and the closures that it is handed.
-/
import Derived.Test.YtphkonkahmmfbaaMm1
import Derived.OneCell
import Derived.StillTailTactics
namespace Go.Proofs.Ytphkonkahmmfbaa
open Go.RowKit

/-- the captured variable in block Bo holds v, which owns acc from block Br on -/
def AccAt (w : World) (Bo Br : Nat) (v : Value) (acc : List Int) : Prop :=
  Bo < Br ∧ Br ≤ w.heap.size ∧ w.heap[Bo]? = some (.cells #[v] 22 (0, 0)) ∧ OwI w Br v acc

set_option maxHeartbeats 400000 in
theorem put1_any (Bo Br : Nat) (v : Value) (acc : List Int) (n : Int) (w : World) (ha : AccAt w Bo Br v acc) (hl : acc.length ≤ 10000000) :
    Calls Try.prog 28 #[.int .i64 n, .pointer (some ⟨Bo, 0, none⟩)] w fun e w' => e = .returned (.tuple #[]) ∧ (∃ v', AccAt w' Bo Br v' (acc ++ [n])) ∧ BelowBut Br Bo w w' := by
  obtain ⟨h1, h2, h3, h4⟩ := ha
  have hcell := cell_of_one h3
  have hfree := free_of_one h3
  go_enter Try.func28, Try.ntmps28
  go_wp2_with (at_builtin; refine wpList_append_I rfl _ _ rfl Br _ _ rfl h4 _ rfl hl h2 ?_; intro v' w1 hown1 hb1; obtain ⟨a1, c1, rfl⟩ := hown1.shape; (have h31 := (hb1.block Bo h1).trans h3); (have hcell1 := cell_of_one h31); (have hfree1 := free_of_one h31); clear hcell hfree h4)
  go_end0
  exact ⟨rfl, ⟨_, h1, by have := hb1.size; simp [World.setCell]; omega, one_setCell h31, by have hz := ownsRow_setCell_below hown1 (a := ⟨Bo, 0, none⟩) h1 (.slice a1 (acc.length + 1) c1); simpa [OwI, Ow] using hz⟩, (BelowBut.of_below hb1).setCell _⟩

set_option maxHeartbeats 400000 in
theorem put2_any (Bo Br : Nat) (v : Value) (acc : List Int) (n : Int) (w : World) (ha : AccAt w Bo Br v acc) (hl : acc.length ≤ 10000000) :
    Calls Try.prog 30 #[.int .i64 n, .pointer (some ⟨Bo, 0, none⟩)] w fun e w' => e = .returned (.tuple #[]) ∧ (∃ v', AccAt w' Bo Br v' (acc ++ [n])) ∧ BelowBut Br Bo w w' := by
  obtain ⟨h1, h2, h3, h4⟩ := ha
  have hcell := cell_of_one h3
  have hfree := free_of_one h3
  go_enter Try.func30, Try.ntmps30
  go_wp2_with (at_builtin; refine wpList_append_I rfl _ _ rfl Br _ _ rfl h4 _ rfl hl h2 ?_; intro v' w1 hown1 hb1; obtain ⟨a1, c1, rfl⟩ := hown1.shape; (have h31 := (hb1.block Bo h1).trans h3); (have hcell1 := cell_of_one h31); (have hfree1 := free_of_one h31); clear hcell hfree h4)
  go_end0
  exact ⟨rfl, ⟨_, h1, by have := hb1.size; simp [World.setCell]; omega, one_setCell h31, by have hz := ownsRow_setCell_below hown1 (a := ⟨Bo, 0, none⟩) h1 (.slice a1 (acc.length + 1) c1); simpa [OwI, Ow] using hz⟩, (BelowBut.of_below hb1).setCell _⟩

set_option maxHeartbeats 400000 in
theorem put3_any (Bo Br : Nat) (v : Value) (acc : List Int) (n : Int) (w : World) (ha : AccAt w Bo Br v acc) (hl : acc.length ≤ 10000000) :
    Calls Try.prog 31 #[.int .i64 n, .pointer (some ⟨Bo, 0, none⟩)] w fun e w' => e = .returned (.tuple #[]) ∧ (∃ v', AccAt w' Bo Br v' (acc ++ [n])) ∧ BelowBut Br Bo w w' := by
  obtain ⟨h1, h2, h3, h4⟩ := ha
  have hcell := cell_of_one h3
  have hfree := free_of_one h3
  go_enter Try.func31, Try.ntmps31
  go_wp2_with (at_builtin; refine wpList_append_I rfl _ _ rfl Br _ _ rfl h4 _ rfl hl h2 ?_; intro v' w1 hown1 hb1; obtain ⟨a1, c1, rfl⟩ := hown1.shape; (have h31 := (hb1.block Bo h1).trans h3); (have hcell1 := cell_of_one h31); (have hfree1 := free_of_one h31); clear hcell hfree h4)
  go_end0
  exact ⟨rfl, ⟨_, h1, by have := hb1.size; simp [World.setCell]; omega, one_setCell h31, by have hz := ownsRow_setCell_below hown1 (a := ⟨Bo, 0, none⟩) h1 (.slice a1 (acc.length + 1) c1); simpa [OwI, Ow] using hz⟩, (BelowBut.of_below hb1).setCell _⟩

/-- what 'to(f, x)' does, f a closure that appends to the captured variable, or nil -/
def ToSpec (Bo Br : Nat) (f : Value) (on : Bool) : Prop :=
  ∀ (v : Value) (acc : List Int) (n : Int) (w : World), AccAt w Bo Br v acc → acc.length ≤ 10000000 →
    Calls Try.prog 36 #[f, .int .i64 n] w fun e w' => e = .returned (.tuple #[]) ∧ (∃ v', AccAt w' Bo Br v' (acc ++ if on then [n] else [])) ∧ BelowBut Br Bo w w'

theorem to_nil (Bo Br : Nat) : ToSpec Bo Br .nilFunc false := by
  intro v acc n w ha hl
  have hb : ∀ w : World, (binOp .neq 39 .nilFunc .nilFunc).run Try.prog w = .ok (.bool false) w := fun _ => by kernel_rfl
  go_enter Try.func36, Try.ntmps36
  go_wp2_with fail
  go_end0
  exact ⟨rfl, ⟨v, by simpa using ha⟩, BelowBut.refl _ _ _⟩

theorem to_put1 (Bo Br : Nat) : ToSpec Bo Br (.func (.func 28) #[] #[.pointer (some ⟨Bo, 0, none⟩)]) true := by
  intro v acc n w ha hl
  have hb : ∀ w : World, (binOp .neq 39 (.func (.func 28) #[] #[.pointer (some ⟨Bo, 0, none⟩)]) .nilFunc).run Try.prog w = .ok (.bool true) w := fun _ => by kernel_rfl
  go_enter Try.func36, Try.ntmps36
  go_wp2_with fail
  refine (put1_any Bo Br v acc n w ha hl).mono ?_
  rintro e w1 ⟨rfl, ha1, hb1⟩
  go_wp2_with fail
  go_end0
  exact ⟨rfl, by simpa using ha1, hb1⟩
theorem to_put2 (Bo Br : Nat) : ToSpec Bo Br (.func (.func 30) #[] #[.pointer (some ⟨Bo, 0, none⟩)]) true := by
  intro v acc n w ha hl
  have hb : ∀ w : World, (binOp .neq 39 (.func (.func 30) #[] #[.pointer (some ⟨Bo, 0, none⟩)]) .nilFunc).run Try.prog w = .ok (.bool true) w := fun _ => by kernel_rfl
  go_enter Try.func36, Try.ntmps36
  go_wp2_with fail
  refine (put2_any Bo Br v acc n w ha hl).mono ?_
  rintro e w1 ⟨rfl, ha1, hb1⟩
  go_wp2_with fail
  go_end0
  exact ⟨rfl, by simpa using ha1, hb1⟩
theorem to_put3 (Bo Br : Nat) : ToSpec Bo Br (.func (.func 31) #[] #[.pointer (some ⟨Bo, 0, none⟩)]) true := by
  intro v acc n w ha hl
  have hb : ∀ w : World, (binOp .neq 39 (.func (.func 31) #[] #[.pointer (some ⟨Bo, 0, none⟩)]) .nilFunc).run Try.prog w = .ok (.bool true) w := fun _ => by kernel_rfl
  go_enter Try.func36, Try.ntmps36
  go_wp2_with fail
  refine (put3_any Bo Br v acc n w ha hl).mono ?_
  rintro e w1 ⟨rfl, ha1, hb1⟩
  go_wp2_with fail
  go_end0
  exact ⟨rfl, by simpa using ha1, hb1⟩
end Go.Proofs.Ytphkonkahmmfbaa
