/-
  Equality of sets of bytes (four words), as a law of the walk.
-/
import Derived.Test.YtficeeaaaijgcaaKit
import Derived.Test.YtficeeaaaijgcaaRxFn
namespace Go.Proofs.Ytficeeaaaijgcaa
open Go.RowKit
theorem uSet : Try.prog.underlying 28 = some (.array 4 26) := by kernel_rfl
theorem uU64 : Try.prog.underlying 26 = some (.int .u64) := by kernel_rfl
theorem zU64 (w : World) : (sizeOf 26).run Try.prog w = .ok 1 w := by kernel_rfl
theorem pU64 (cs : Array Value) (i : Nat) (v : Value) (h : cs[i]? = some v) (w : World) : (part 26 cs i).run Try.prog w = .ok v w := by
  simp [part, h]
set_option linter.unusedSimpArgs false in
theorem run_eqSet (w : World) (d : Nat) (a0 a1 a2 a3 b0 b1 b2 b3 : Int) :
    (Op.equalIn (d + 2) 28 (.agg #[.int .u64 a0, .int .u64 a1, .int .u64 a2, .int .u64 a3]) (.agg #[.int .u64 b0, .int .u64 b1, .int .u64 b2, .int .u64 b3])).run Try.prog w = .ok (a0 == b0 && (a1 == b1 && (a2 == b2 && a3 == b3))) w := by
  rw [Op.equalIn]
  simp only [Sem.run_bind, run_underlying uSet, Result.andThen_ok, zU64]
  rw [Std.Legacy.Range.forIn_eq_forIn_range']
  have e : List.range' ([:4] : Std.Legacy.Range).start ([:4] : Std.Legacy.Range).size ([:4] : Std.Legacy.Range).step = [0, 1, 2, 3] := rfl
  rw [e]
  have q : ∀ (x y : Int), (Op.equalIn (d + 1) 26 (.int .u64 x) (.int .u64 y)).run Try.prog w = .ok (x == y) w := fun x y => run_equalIn_int w d 26 .u64 .u64 x y uU64
  have A : ∀ i (x : Int), (#[Value.int .u64 a0, .int .u64 a1, .int .u64 a2, .int .u64 a3] : Array Value)[i]? = some (.int .u64 x) → (part 26 #[Value.int .u64 a0, .int .u64 a1, .int .u64 a2, .int .u64 a3] i).run Try.prog w = .ok (.int .u64 x) w := fun i x h => pU64 _ i _ h w
  have B : ∀ i (x : Int), (#[Value.int .u64 b0, .int .u64 b1, .int .u64 b2, .int .u64 b3] : Array Value)[i]? = some (.int .u64 x) → (part 26 #[Value.int .u64 b0, .int .u64 b1, .int .u64 b2, .int .u64 b3] i).run Try.prog w = .ok (.int .u64 x) w := fun i x h => pU64 _ i _ h w
  have A0 := A (0*1) a0 rfl
  have A1 := A (1*1) a1 rfl
  have A2 := A (2*1) a2 rfl
  have A3 := A (3*1) a3 rfl
  have B0 := B (0*1) b0 rfl
  have B1 := B (1*1) b1 rfl
  have B2 := B (2*1) b2 rfl
  have B3 := B (3*1) b3 rfl
  clear A B
  cases h0 : a0 == b0 <;> cases h1 : a1 == b1 <;> cases h2 : a2 == b2 <;> cases h3 : a3 == b3 <;>
    simp only [List.forIn_cons, List.forIn_nil, Sem.run_bind, Sem.run_pure, A0, A1, A2, A3, B0, B1, B2, B3, Result.andThen_ok, q, h0, h1, h2, h3, Bool.not_true, Bool.not_false, if_true, if_false, Bool.false_eq_true, Bool.and_true, Bool.and_false, Bool.true_and, Bool.false_and]
@[go_sem] theorem run_eqSet' (w : World) (a0 a1 a2 a3 b0 b1 b2 b3 : Int) :
    (Op.equalIn 10000 28 (.agg #[.int .u64 a0, .int .u64 a1, .int .u64 a2, .int .u64 a3]) (.agg #[.int .u64 b0, .int .u64 b1, .int .u64 b2, .int .u64 b3])).run Try.prog w = .ok (setEq a0 a1 a2 a3 b0 b1 b2 b3) w :=
  run_eqSet w 9998 a0 a1 a2 a3 b0 b1 b2 b3
end Go.Proofs.Ytficeeaaaijgcaa
