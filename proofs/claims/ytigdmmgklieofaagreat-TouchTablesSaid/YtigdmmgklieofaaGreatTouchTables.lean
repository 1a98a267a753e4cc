/-
  TouchTables: its row.
-/
import Derived.Test.YtigdmmgklieofaaGreatRows
import Derived.Test.YtigdmmgklieofaaGreatProg
import Derived.Test.YtigdmmgklieofaaGreatQ6TouchTables
import Derived.Test.YtigdmmgklieofaaGreatTouchTablesJ
namespace Go.Proofs.YtigdmmgklieofaaGreat.touchTables
open Go Go.ChangeShapes Go.WideShapes Go.ChangeAt Go.RowKit Go.Proofs.YtigdmmgklieofaaGreat L T
set_option linter.unusedVariables false
set_option linter.unusedSimpArgs false

section
variable {H : Type} {ec : TypeId × Value → H} {w : World} {base : Nat} {spare : Nat → Bool} {held : Bool}
theorem cl_9 : Tryz.prog.cellsOf 9 = 1 := by kernel_rfl
theorem op_9 : OpenT ec Tryz.prog w base spare held 9 .str := op_str Tryz.underlying9
abbrev OkS_9 : Ty.D .str → Prop := OkD .str
set_option maxRecDepth 20000 in
theorem os_9 : OpensS ec Tryz.prog w base spare held 9 (enc .str) OkS_9 := os_of op_9
theorem cl_162 : Tryz.prog.cellsOf 162 = 1 := by kernel_rfl
theorem op_162 : OpenT ec Tryz.prog w base spare held 162 (.int .i64) := op_int Tryz.underlying162
abbrev OkS_162 : Ty.D (.int .i64) → Prop := OkD (.int .i64)
set_option maxRecDepth 20000 in
theorem os_162 : OpensS ec Tryz.prog w base spare held 162 (enc (.int .i64)) OkS_162 := os_of op_162
theorem cl_123 : Tryz.prog.cellsOf 123 = 1 := by kernel_rfl
theorem op_123 : OpenT ec Tryz.prog w base spare held 123 (.int .u64) := op_int Tryz.underlying123
abbrev OkS_123 : Ty.D (.int .u64) → Prop := OkD (.int .u64)
set_option maxRecDepth 20000 in
theorem os_123 : OpensS ec Tryz.prog w base spare held 123 (enc (.int .u64)) OkS_123 := os_of op_123
theorem cl_125 : Tryz.prog.cellsOf 125 = 4 := by kernel_rfl
theorem op_125 : OpenT ec Tryz.prog w base spare held 125 (.arr 4 (.int .u64)) := op_arr Tryz.underlying125 cl_123 cl_125 (fun _ => rfl) op_123
abbrev OkS_125 : Ty.D (.arr 4 (.int .u64)) → Prop := OkD (.arr 4 (.int .u64))
set_option maxRecDepth 20000 in
theorem os_125 : OpensS ec Tryz.prog w base spare held 125 (enc (.arr 4 (.int .u64))) OkS_125 := os_of op_125
theorem cl_164 : Tryz.prog.cellsOf 164 = 5 := by kernel_rfl
def OkS_164 (x : Ty.D jn) : Prop := OkS_162 x.1 ∧ OkS_125 x.2.1 ∧ True
set_option maxRecDepth 20000 in
theorem os_164 : OpensS ec Tryz.prog w base spare held 164 (enc jn) OkS_164 := fun fuel cs x h hw => by
  obtain ⟨xs, n, _, hxe, hcl, hxl, hf⟩ := DataW.trod_struct Tryz.underlying164 h
  rw [cl_164] at hcl
  have hx : xs.length = 2 := hxl
  have g0 : DataW.trod ec Tryz.prog w base spare held n 162 ((cs.drop 0).take (Tryz.prog.cellsOf 162)) = xs[0]? := hf 0 _ rfl
  have e0 : xs[0]? = some (xs[0]'(by omega)) := List.getElem?_eq_getElem (by omega)
  have q0 := fit_part (i := 0) Tryz.underlying164 (congrArg Prod.fst hxe) hw rfl e0
  rw [cl_162, e0] at g0
  obtain ⟨a0, r0, c0⟩ := os_162 _ _ _ g0 q0
  rw [enc_cells] at r0
  have g1 : DataW.trod ec Tryz.prog w base spare held n 125 ((cs.drop 1).take (Tryz.prog.cellsOf 125)) = xs[1]? := hf 1 _ rfl
  have e1 : xs[1]? = some (xs[1]'(by omega)) := List.getElem?_eq_getElem (by omega)
  have q1 := fit_part (i := 1) Tryz.underlying164 (congrArg Prod.fst hxe) hw rfl e1
  rw [cl_125, e1] at g1
  obtain ⟨a1, r1, c1⟩ := os_125 _ _ _ g1 q1
  rw [enc_cells] at r1
  rw [List.drop_zero] at r0
  refine ⟨(a0, a1, ()), ?_, ⟨c0, c1, trivial⟩⟩
  rw [enc_cells]
  exact (rl_cut 1 r0 (rl_cut 4 r1 (rl_dd (m := 1) (n := 4) (k := 5) rfl (rl_end (by simp [hcl])))))
theorem cl_58 : Tryz.prog.cellsOf 58 = 1 := by kernel_rfl
theorem by_164 : Tryz.prog.bytesOf 164 = 40 := by kernel_rfl
def OkS_58 (l : Ty.D (.sl jn)) : Prop := l.length ≤ maxLen ∧ l.length * Tryz.prog.bytesOf 164 ≤ reachBytes ∧ ∀ a ∈ l, OkS_164 a
set_option maxRecDepth 20000 in
theorem os_58 : OpensS ec Tryz.prog w base spare held 58 (enc (.sl jn)) OkS_58 := os_sl Tryz.underlying58 cl_164 (by decide) os_164
theorem cl_59 : Tryz.prog.cellsOf 59 = 1 := by kernel_rfl
theorem op_59 : OpenT ec Tryz.prog w base spare held 59 (.int .i64) := op_int Tryz.underlying59
abbrev OkS_59 : Ty.D (.int .i64) → Prop := OkD (.int .i64)
set_option maxRecDepth 20000 in
theorem os_59 : OpensS ec Tryz.prog w base spare held 59 (enc (.int .i64)) OkS_59 := os_of op_59
theorem cl_61 : Tryz.prog.cellsOf 61 = 3 := by kernel_rfl
def OkS_61 (x : Ty.D qx) : Prop := OkS_9 x.1 ∧ OkS_58 x.2.1 ∧ OkS_59 x.2.2.1 ∧ True
set_option maxRecDepth 20000 in
theorem os_61 : OpensS ec Tryz.prog w base spare held 61 (enc qx) OkS_61 := fun fuel cs x h hw => by
  obtain ⟨xs, n, _, hxe, hcl, hxl, hf⟩ := DataW.trod_struct Tryz.underlying61 h
  rw [cl_61] at hcl
  have hx : xs.length = 3 := hxl
  have g0 : DataW.trod ec Tryz.prog w base spare held n 9 ((cs.drop 0).take (Tryz.prog.cellsOf 9)) = xs[0]? := hf 0 _ rfl
  have e0 : xs[0]? = some (xs[0]'(by omega)) := List.getElem?_eq_getElem (by omega)
  have q0 := fit_part (i := 0) Tryz.underlying61 (congrArg Prod.fst hxe) hw rfl e0
  rw [cl_9, e0] at g0
  obtain ⟨a0, r0, c0⟩ := os_9 _ _ _ g0 q0
  rw [enc_cells] at r0
  have g1 : DataW.trod ec Tryz.prog w base spare held n 58 ((cs.drop 1).take (Tryz.prog.cellsOf 58)) = xs[1]? := hf 1 _ rfl
  have e1 : xs[1]? = some (xs[1]'(by omega)) := List.getElem?_eq_getElem (by omega)
  have q1 := fit_part (i := 1) Tryz.underlying61 (congrArg Prod.fst hxe) hw rfl e1
  rw [cl_58, e1] at g1
  obtain ⟨a1, r1, c1⟩ := os_58 _ _ _ g1 q1
  rw [enc_cells] at r1
  have g2 : DataW.trod ec Tryz.prog w base spare held n 59 ((cs.drop 2).take (Tryz.prog.cellsOf 59)) = xs[2]? := hf 2 _ rfl
  have e2 : xs[2]? = some (xs[2]'(by omega)) := List.getElem?_eq_getElem (by omega)
  have q2 := fit_part (i := 2) Tryz.underlying61 (congrArg Prod.fst hxe) hw rfl e2
  rw [cl_59, e2] at g2
  obtain ⟨a2, r2, c2⟩ := os_59 _ _ _ g2 q2
  rw [enc_cells] at r2
  rw [List.drop_zero] at r0
  refine ⟨(a0, a1, a2, ()), ?_, ⟨c0, c1, c2, trivial⟩⟩
  rw [enc_cells]
  exact (rl_cut 1 r0 (rl_cut 1 r1 (rl_dd (m := 1) (n := 1) (k := 2) rfl (rl_cut 1 r2 (rl_dd (m := 2) (n := 1) (k := 3) rfl (rl_end (by simp [hcl])))))))
theorem cl_22 : Tryz.prog.cellsOf 22 = 1 := by kernel_rfl
theorem by_61 : Tryz.prog.bytesOf 61 = 48 := by kernel_rfl
def OkS_22 (l : Ty.D (.sl qx)) : Prop := l.length ≤ maxLen ∧ l.length * Tryz.prog.bytesOf 61 ≤ reachBytes ∧ ∀ a ∈ l, OkS_61 a
set_option maxRecDepth 20000 in
theorem os_22 : OpensS ec Tryz.prog w base spare held 22 (enc (.sl qx)) OkS_22 := os_sl Tryz.underlying22 cl_61 (by decide) os_61
theorem cl_23 : Tryz.prog.cellsOf 23 = 1 := by kernel_rfl
theorem by_9 : Tryz.prog.bytesOf 9 = 16 := by kernel_rfl
def OkS_23 (l : Ty.D (.sl .str)) : Prop := l.length ≤ maxLen ∧ l.length * Tryz.prog.bytesOf 9 ≤ reachBytes ∧ ∀ a ∈ l, OkS_9 a
set_option maxRecDepth 20000 in
theorem os_23 : OpensS ec Tryz.prog w base spare held 23 (enc (.sl .str)) OkS_23 := os_sl Tryz.underlying23 cl_9 (by decide) os_9
theorem cl_3 : Tryz.prog.cellsOf 3 = 1 := by kernel_rfl
theorem op_3 : OpenT ec Tryz.prog w base spare held 3 (.int .i64) := op_int Tryz.underlying3
abbrev OkS_3 : Ty.D (.int .i64) → Prop := OkD (.int .i64)
set_option maxRecDepth 20000 in
theorem os_3 : OpensS ec Tryz.prog w base spare held 3 (enc (.int .i64)) OkS_3 := os_of op_3
theorem cl_4 : Tryz.prog.cellsOf 4 = 1 := by kernel_rfl
theorem op_4 : OpenT ec Tryz.prog w base spare held 4 .bool := op_bool Tryz.underlying4
abbrev OkS_4 : Ty.D .bool → Prop := OkD .bool
set_option maxRecDepth 20000 in
theorem os_4 : OpensS ec Tryz.prog w base spare held 4 (enc .bool) OkS_4 := os_of op_4
theorem cl_63 : Tryz.prog.cellsOf 63 = 1 := by kernel_rfl
theorem op_63 : OpenT ec Tryz.prog w base spare held 63 (.int .i64) := op_int Tryz.underlying63
abbrev OkS_63 : Ty.D (.int .i64) → Prop := OkD (.int .i64)
set_option maxRecDepth 20000 in
theorem os_63 : OpensS ec Tryz.prog w base spare held 63 (enc (.int .i64)) OkS_63 := os_of op_63
theorem cl_65 : Tryz.prog.cellsOf 65 = 4 := by kernel_rfl
def OkS_65 (x : Ty.D jr) : Prop := OkS_4 x.1 ∧ OkS_3 x.2.1 ∧ OkS_63 x.2.2.1 ∧ OkS_3 x.2.2.2.1 ∧ True
set_option maxRecDepth 20000 in
theorem os_65 : OpensS ec Tryz.prog w base spare held 65 (enc jr) OkS_65 := fun fuel cs x h hw => by
  obtain ⟨xs, n, _, hxe, hcl, hxl, hf⟩ := DataW.trod_struct Tryz.underlying65 h
  rw [cl_65] at hcl
  have hx : xs.length = 4 := hxl
  have g0 : DataW.trod ec Tryz.prog w base spare held n 4 ((cs.drop 0).take (Tryz.prog.cellsOf 4)) = xs[0]? := hf 0 _ rfl
  have e0 : xs[0]? = some (xs[0]'(by omega)) := List.getElem?_eq_getElem (by omega)
  have q0 := fit_part (i := 0) Tryz.underlying65 (congrArg Prod.fst hxe) hw rfl e0
  rw [cl_4, e0] at g0
  obtain ⟨a0, r0, c0⟩ := os_4 _ _ _ g0 q0
  rw [enc_cells] at r0
  have g1 : DataW.trod ec Tryz.prog w base spare held n 3 ((cs.drop 1).take (Tryz.prog.cellsOf 3)) = xs[1]? := hf 1 _ rfl
  have e1 : xs[1]? = some (xs[1]'(by omega)) := List.getElem?_eq_getElem (by omega)
  have q1 := fit_part (i := 1) Tryz.underlying65 (congrArg Prod.fst hxe) hw rfl e1
  rw [cl_3, e1] at g1
  obtain ⟨a1, r1, c1⟩ := os_3 _ _ _ g1 q1
  rw [enc_cells] at r1
  have g2 : DataW.trod ec Tryz.prog w base spare held n 63 ((cs.drop 2).take (Tryz.prog.cellsOf 63)) = xs[2]? := hf 2 _ rfl
  have e2 : xs[2]? = some (xs[2]'(by omega)) := List.getElem?_eq_getElem (by omega)
  have q2 := fit_part (i := 2) Tryz.underlying65 (congrArg Prod.fst hxe) hw rfl e2
  rw [cl_63, e2] at g2
  obtain ⟨a2, r2, c2⟩ := os_63 _ _ _ g2 q2
  rw [enc_cells] at r2
  have g3 : DataW.trod ec Tryz.prog w base spare held n 3 ((cs.drop 3).take (Tryz.prog.cellsOf 3)) = xs[3]? := hf 3 _ rfl
  have e3 : xs[3]? = some (xs[3]'(by omega)) := List.getElem?_eq_getElem (by omega)
  have q3 := fit_part (i := 3) Tryz.underlying65 (congrArg Prod.fst hxe) hw rfl e3
  rw [cl_3, e3] at g3
  obtain ⟨a3, r3, c3⟩ := os_3 _ _ _ g3 q3
  rw [enc_cells] at r3
  rw [List.drop_zero] at r0
  refine ⟨(a0, a1, a2, a3, ()), ?_, ⟨c0, c1, c2, c3, trivial⟩⟩
  rw [enc_cells]
  exact (rl_cut 1 r0 (rl_cut 1 r1 (rl_dd (m := 1) (n := 1) (k := 2) rfl (rl_cut 1 r2 (rl_dd (m := 2) (n := 1) (k := 3) rfl (rl_cut 1 r3 (rl_dd (m := 3) (n := 1) (k := 4) rfl (rl_end (by simp [hcl])))))))))
theorem cl_66 : Tryz.prog.cellsOf 66 = 1 := by kernel_rfl
theorem by_65 : Tryz.prog.bytesOf 65 = 32 := by kernel_rfl
def OkS_66 (l : Ty.D (.sl jr)) : Prop := l.length ≤ maxLen ∧ l.length * Tryz.prog.bytesOf 65 ≤ reachBytes ∧ ∀ a ∈ l, OkS_65 a
set_option maxRecDepth 20000 in
theorem os_66 : OpensS ec Tryz.prog w base spare held 66 (enc (.sl jr)) OkS_66 := os_sl Tryz.underlying66 cl_65 (by decide) os_65
theorem cl_68 : Tryz.prog.cellsOf 68 = 2 := by kernel_rfl
def OkS_68 (x : Ty.D ql) : Prop := OkS_3 x.1 ∧ OkS_66 x.2.1 ∧ True
set_option maxRecDepth 20000 in
theorem os_68 : OpensS ec Tryz.prog w base spare held 68 (enc ql) OkS_68 := fun fuel cs x h hw => by
  obtain ⟨xs, n, _, hxe, hcl, hxl, hf⟩ := DataW.trod_struct Tryz.underlying68 h
  rw [cl_68] at hcl
  have hx : xs.length = 2 := hxl
  have g0 : DataW.trod ec Tryz.prog w base spare held n 3 ((cs.drop 0).take (Tryz.prog.cellsOf 3)) = xs[0]? := hf 0 _ rfl
  have e0 : xs[0]? = some (xs[0]'(by omega)) := List.getElem?_eq_getElem (by omega)
  have q0 := fit_part (i := 0) Tryz.underlying68 (congrArg Prod.fst hxe) hw rfl e0
  rw [cl_3, e0] at g0
  obtain ⟨a0, r0, c0⟩ := os_3 _ _ _ g0 q0
  rw [enc_cells] at r0
  have g1 : DataW.trod ec Tryz.prog w base spare held n 66 ((cs.drop 1).take (Tryz.prog.cellsOf 66)) = xs[1]? := hf 1 _ rfl
  have e1 : xs[1]? = some (xs[1]'(by omega)) := List.getElem?_eq_getElem (by omega)
  have q1 := fit_part (i := 1) Tryz.underlying68 (congrArg Prod.fst hxe) hw rfl e1
  rw [cl_66, e1] at g1
  obtain ⟨a1, r1, c1⟩ := os_66 _ _ _ g1 q1
  rw [enc_cells] at r1
  rw [List.drop_zero] at r0
  refine ⟨(a0, a1, ()), ?_, ⟨c0, c1, trivial⟩⟩
  rw [enc_cells]
  exact (rl_cut 1 r0 (rl_cut 1 r1 (rl_dd (m := 1) (n := 1) (k := 2) rfl (rl_end (by simp [hcl])))))
theorem cl_24 : Tryz.prog.cellsOf 24 = 1 := by kernel_rfl
theorem by_68 : Tryz.prog.bytesOf 68 = 32 := by kernel_rfl
def OkS_24 (l : Ty.D (.sl ql)) : Prop := l.length ≤ maxLen ∧ l.length * Tryz.prog.bytesOf 68 ≤ reachBytes ∧ ∀ a ∈ l, OkS_68 a
set_option maxRecDepth 20000 in
theorem os_24 : OpensS ec Tryz.prog w base spare held 24 (enc (.sl ql)) OkS_24 := os_sl Tryz.underlying24 cl_68 (by decide) os_68
theorem cl_26 : Tryz.prog.cellsOf 26 = 8 := by kernel_rfl
def OkS_26 (x : Ty.D jg) : Prop := OkS_22 x.1 ∧ OkS_23 x.2.1 ∧ OkS_24 x.2.2.1 ∧ OkS_3 x.2.2.2.1 ∧ OkS_3 x.2.2.2.2.1 ∧ OkS_3 x.2.2.2.2.2.1 ∧ OkS_3 x.2.2.2.2.2.2.1 ∧ OkS_3 x.2.2.2.2.2.2.2.1 ∧ True
set_option maxRecDepth 20000 in
theorem os_26 : OpensS ec Tryz.prog w base spare held 26 (enc jg) OkS_26 := fun fuel cs x h hw => by
  obtain ⟨xs, n, _, hxe, hcl, hxl, hf⟩ := DataW.trod_struct Tryz.underlying26 h
  rw [cl_26] at hcl
  have hx : xs.length = 8 := hxl
  have g0 : DataW.trod ec Tryz.prog w base spare held n 22 ((cs.drop 0).take (Tryz.prog.cellsOf 22)) = xs[0]? := hf 0 _ rfl
  have e0 : xs[0]? = some (xs[0]'(by omega)) := List.getElem?_eq_getElem (by omega)
  have q0 := fit_part (i := 0) Tryz.underlying26 (congrArg Prod.fst hxe) hw rfl e0
  rw [cl_22, e0] at g0
  obtain ⟨a0, r0, c0⟩ := os_22 _ _ _ g0 q0
  rw [enc_cells] at r0
  have g1 : DataW.trod ec Tryz.prog w base spare held n 23 ((cs.drop 1).take (Tryz.prog.cellsOf 23)) = xs[1]? := hf 1 _ rfl
  have e1 : xs[1]? = some (xs[1]'(by omega)) := List.getElem?_eq_getElem (by omega)
  have q1 := fit_part (i := 1) Tryz.underlying26 (congrArg Prod.fst hxe) hw rfl e1
  rw [cl_23, e1] at g1
  obtain ⟨a1, r1, c1⟩ := os_23 _ _ _ g1 q1
  rw [enc_cells] at r1
  have g2 : DataW.trod ec Tryz.prog w base spare held n 24 ((cs.drop 2).take (Tryz.prog.cellsOf 24)) = xs[2]? := hf 2 _ rfl
  have e2 : xs[2]? = some (xs[2]'(by omega)) := List.getElem?_eq_getElem (by omega)
  have q2 := fit_part (i := 2) Tryz.underlying26 (congrArg Prod.fst hxe) hw rfl e2
  rw [cl_24, e2] at g2
  obtain ⟨a2, r2, c2⟩ := os_24 _ _ _ g2 q2
  rw [enc_cells] at r2
  have g3 : DataW.trod ec Tryz.prog w base spare held n 3 ((cs.drop 3).take (Tryz.prog.cellsOf 3)) = xs[3]? := hf 3 _ rfl
  have e3 : xs[3]? = some (xs[3]'(by omega)) := List.getElem?_eq_getElem (by omega)
  have q3 := fit_part (i := 3) Tryz.underlying26 (congrArg Prod.fst hxe) hw rfl e3
  rw [cl_3, e3] at g3
  obtain ⟨a3, r3, c3⟩ := os_3 _ _ _ g3 q3
  rw [enc_cells] at r3
  have g4 : DataW.trod ec Tryz.prog w base spare held n 3 ((cs.drop 4).take (Tryz.prog.cellsOf 3)) = xs[4]? := hf 4 _ rfl
  have e4 : xs[4]? = some (xs[4]'(by omega)) := List.getElem?_eq_getElem (by omega)
  have q4 := fit_part (i := 4) Tryz.underlying26 (congrArg Prod.fst hxe) hw rfl e4
  rw [cl_3, e4] at g4
  obtain ⟨a4, r4, c4⟩ := os_3 _ _ _ g4 q4
  rw [enc_cells] at r4
  have g5 : DataW.trod ec Tryz.prog w base spare held n 3 ((cs.drop 5).take (Tryz.prog.cellsOf 3)) = xs[5]? := hf 5 _ rfl
  have e5 : xs[5]? = some (xs[5]'(by omega)) := List.getElem?_eq_getElem (by omega)
  have q5 := fit_part (i := 5) Tryz.underlying26 (congrArg Prod.fst hxe) hw rfl e5
  rw [cl_3, e5] at g5
  obtain ⟨a5, r5, c5⟩ := os_3 _ _ _ g5 q5
  rw [enc_cells] at r5
  have g6 : DataW.trod ec Tryz.prog w base spare held n 3 ((cs.drop 6).take (Tryz.prog.cellsOf 3)) = xs[6]? := hf 6 _ rfl
  have e6 : xs[6]? = some (xs[6]'(by omega)) := List.getElem?_eq_getElem (by omega)
  have q6 := fit_part (i := 6) Tryz.underlying26 (congrArg Prod.fst hxe) hw rfl e6
  rw [cl_3, e6] at g6
  obtain ⟨a6, r6, c6⟩ := os_3 _ _ _ g6 q6
  rw [enc_cells] at r6
  have g7 : DataW.trod ec Tryz.prog w base spare held n 3 ((cs.drop 7).take (Tryz.prog.cellsOf 3)) = xs[7]? := hf 7 _ rfl
  have e7 : xs[7]? = some (xs[7]'(by omega)) := List.getElem?_eq_getElem (by omega)
  have q7 := fit_part (i := 7) Tryz.underlying26 (congrArg Prod.fst hxe) hw rfl e7
  rw [cl_3, e7] at g7
  obtain ⟨a7, r7, c7⟩ := os_3 _ _ _ g7 q7
  rw [enc_cells] at r7
  rw [List.drop_zero] at r0
  refine ⟨(a0, a1, a2, a3, a4, a5, a6, a7, ()), ?_, ⟨c0, c1, c2, c3, c4, c5, c6, c7, trivial⟩⟩
  rw [enc_cells]
  exact (rl_cut 1 r0 (rl_cut 1 r1 (rl_dd (m := 1) (n := 1) (k := 2) rfl (rl_cut 1 r2 (rl_dd (m := 2) (n := 1) (k := 3) rfl (rl_cut 1 r3 (rl_dd (m := 3) (n := 1) (k := 4) rfl (rl_cut 1 r4 (rl_dd (m := 4) (n := 1) (k := 5) rfl (rl_cut 1 r5 (rl_dd (m := 5) (n := 1) (k := 6) rfl (rl_cut 1 r6 (rl_dd (m := 6) (n := 1) (k := 7) rfl (rl_cut 1 r7 (rl_dd (m := 7) (n := 1) (k := 8) rfl (rl_end (by simp [hcl])))))))))))))))))
end
theorem own : ownKnob Tryz.prog.godebug = none := by kernel_rfl
theorem laidOut : laidOutB Tryz.prog = true := by kernel_rfl
theorem readable : (Tryz.f5.params.toList.all fun t => Tryz.prog.readableRec t && decide (t < Tryz.prog.types.size)) = true := by kernel_rfl

set_option maxRecDepth 100000 in
theorem lifted (os : Os) (started : os.Started) (H : Type) (enc : TypeId × Value → H) :
    ReturnsInHanded {} Tryz.checked os 5 .any (Rows.touchTablesSpec.pre6 enc Tryz.prog Tryz.f5 Rows.touchTablesRow.domain false) (Rows.touchTablesSpec.post enc Tryz.prog Tryz.f5 false true false false) := by
  refine returnsInHanded_of_change_sized (C := Tryz.checked) own started (by kernel_rfl) Tryz.func5
    (ChangeSpec.witness6 (enc := enc) (C := Tryz.checked) false ⟨#[], #[.agg #[.slice none 0 0, .slice none 0 0, .slice none 0 0, .int .i64 0, .int .i64 0, .int .i64 0, .int .i64 0, .int .i64 0]], []⟩ 8 (by kernel_rfl) (by kernel_rfl) (by kernel_rfl) (by kernel_rfl)) ?_
  intro W base args ds gs before hval0 hW _ hWt _
  have hval : ∀ (j : Nat) t v, Tryz.f5.params[j]? = some t → args[j]? = some v → Value.okWide Tryz.prog W .any base t v := hval0
  have hW' := hW
  obtain ⟨p, q, hA0, hV, rfl, _, _⟩ := hW
  have hA : DataW.TrodAll enc Tryz.prog W 0 (fun _ => true) true Tryz.f5.params.toList args.toList ds p := hA0
  rw [Tryz.params5] at hA hval hWt
  obtain ⟨v0, vs0, d0, ds0, p0, q0, hargs0, rfl, rfl, h0, r0⟩ := trodAll_cons hA
  obtain ⟨rfl, rfl, rfl⟩ := trodAll_nil r0
  obtain rfl : args = #[v0] := by cases args; simp_all
  obtain ⟨x0, rfl, _⟩ := okWide_struct Tryz.underlying26 (hval 0 26 v0 rfl rfl)
  obtain ⟨fu0, hf0⟩ := h0
  obtain ⟨a0, hr0, c0⟩ := os_26 _ _ _ hf0 fun n hn => of_decide_eq_true (List.all_eq_true.1 hWt n (DataW.weights_mem_each (j := 0) rfl rfl n hn))
  obtain ⟨b, ⟨nn, hn⟩, rfl⟩ := (TouchTables_tot a0 ⟨Nat.le_trans c0.1.1 (by decide), Nat.le_trans c0.2.1.1 (by decide), Nat.le_trans c0.2.2.1.1 (by decide)⟩ ⟨fun x hx => Nat.le_trans (c0.1.2.2 x hx).1 (by decide), fun x hx => Nat.le_trans (c0.2.1.2.2 x hx) (by decide), fun x hx => Nat.le_trans (c0.2.2.1.2.2 x hx).2.1.1 (by decide)⟩ (fun t ht x hx => setOk_of2 ((c0.1.2.2 t ht).2.1.2.2 x hx).2.1) fun x hx => big47 (c0.2.2.1.2.2 x hx).2.1.2.1 (by kernel_rfl))
  have hn := hn nn (Nat.le_refl _)
  refine (row_pure (P_law37_TouchTables_ok nn) (t := (a0)) hn (rl_cons (rl_agg hr0) rl_nil)).mono fun e W' ⟨he, hb⟩ => ?_
  exact ⟨_, he, law_post laidOut readable rfl rfl Tryz.underlying4 hW' rfl hb⟩

theorem holds : Rows.TouchTablesSaid :=
  OpenClaim.holds_of_wide 5 Tryz.f5 rfl rfl rfl rfl rfl rfl rfl ⟨rfl, rfl, rfl, rfl, rfl⟩ rfl rfl rfl rfl rfl (by kernel_rfl) Tryz.func5 jf
    (of_decide_eq_true (by kernel_rfl)) (by unfold Func.isWrapper; first | (rw [if_pos (by decide +kernel)]; kernel_rfl) | (rw [if_neg (by decide +kernel)]; exact ⟨rfl, rfl⟩))
    (fun os started H enc _ => lifted os started H enc)

#print axioms holds
end Go.Proofs.YtigdmmgklieofaaGreat.touchTables
