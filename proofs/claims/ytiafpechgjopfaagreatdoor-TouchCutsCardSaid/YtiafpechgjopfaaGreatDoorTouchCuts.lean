/-
  TouchCuts: its row and its card.
-/
import Derived.Test.YtiafpechgjopfaaGreatDoorRows
import Derived.Test.YtiafpechgjopfaaGreatDoorCards
import Derived.Test.YtiafpechgjopfaaGreatDoorTie
import Derived.Test.YtiafpechgjopfaaGreatDoorProg
import Derived.Test.YtiafpechgjopfaaGreatDoorQ6TouchCuts
import Derived.Test.YtiafpechgjopfaaGreatDoorTouchCutsJ
namespace Go.Proofs.YtiafpechgjopfaaGreatDoor.touchCuts
open Go Go.ChangeShapes Go.WideShapes Go.ChangeAt Go.RowKit Go.WideMaps Go.WideElems Go.Proofs.YtiafpechgjopfaaGreatDoor L T
set_option linter.unusedVariables false
set_option linter.unusedSimpArgs false

section
variable {H : Type} {ec : TypeId × Value → H} {w : World} {base : Nat} {spare : Nat → Bool} {held : Bool}
theorem cl_9 : Tryz.prog.cellsOf 9 = 1 := by kernel_rfl
theorem op_9 : OpenT ec Tryz.prog w base spare held 9 .str := op_str Tryz.underlying9
abbrev OkS_9 : Ty.D .str → Prop := OkD .str
set_option maxRecDepth 20000 in
theorem os_9 : OpensS ec Tryz.prog w base spare held 9 (enc .str) OkS_9 := os_of op_9
theorem cl_137 : Tryz.prog.cellsOf 137 = 1 := by kernel_rfl
theorem op_137 : OpenT ec Tryz.prog w base spare held 137 (.int .i64) := op_int Tryz.underlying137
abbrev OkS_137 : Ty.D (.int .i64) → Prop := OkD (.int .i64)
set_option maxRecDepth 20000 in
theorem os_137 : OpensS ec Tryz.prog w base spare held 137 (enc (.int .i64)) OkS_137 := os_of op_137
theorem cl_138 : Tryz.prog.cellsOf 138 = 1 := by kernel_rfl
theorem op_138 : OpenT ec Tryz.prog w base spare held 138 (.int .u64) := op_int Tryz.underlying138
abbrev OkS_138 : Ty.D (.int .u64) → Prop := OkD (.int .u64)
set_option maxRecDepth 20000 in
theorem os_138 : OpensS ec Tryz.prog w base spare held 138 (enc (.int .u64)) OkS_138 := os_of op_138
theorem cl_140 : Tryz.prog.cellsOf 140 = 4 := by kernel_rfl
theorem op_140 : OpenT ec Tryz.prog w base spare held 140 (.arr 4 (.int .u64)) := op_arr Tryz.underlying140 cl_138 cl_140 (fun _ => rfl) op_138
abbrev OkS_140 : Ty.D (.arr 4 (.int .u64)) → Prop := OkD (.arr 4 (.int .u64))
set_option maxRecDepth 20000 in
theorem os_140 : OpensS ec Tryz.prog w base spare held 140 (enc (.arr 4 (.int .u64))) OkS_140 := os_of op_140
theorem cl_142 : Tryz.prog.cellsOf 142 = 5 := by kernel_rfl
def OkS_142 (x : Ty.D jn) : Prop := OkS_137 x.1 ∧ OkS_140 x.2.1 ∧ True
set_option maxRecDepth 20000 in
theorem os_142 : OpensS ec Tryz.prog w base spare held 142 (enc jn) OkS_142 := fun fuel cs x h hw => by
  obtain ⟨xs, n, _, hxe, hcl, hxl, hf⟩ := DataW.trod_struct Tryz.underlying142 h
  rw [cl_142] at hcl
  have hx : xs.length = 2 := hxl
  have g0 : DataW.trod ec Tryz.prog w base spare held n 137 ((cs.drop 0).take (Tryz.prog.cellsOf 137)) = xs[0]? := hf 0 _ rfl
  have e0 : xs[0]? = some (xs[0]'(by omega)) := List.getElem?_eq_getElem (by omega)
  have q0 := fit_part (i := 0) Tryz.underlying142 (congrArg Prod.fst hxe) hw rfl e0
  rw [cl_137, e0] at g0
  obtain ⟨a0, r0, c0⟩ := os_137 _ _ _ g0 q0
  rw [enc_cells] at r0
  have g1 : DataW.trod ec Tryz.prog w base spare held n 140 ((cs.drop 1).take (Tryz.prog.cellsOf 140)) = xs[1]? := hf 1 _ rfl
  have e1 : xs[1]? = some (xs[1]'(by omega)) := List.getElem?_eq_getElem (by omega)
  have q1 := fit_part (i := 1) Tryz.underlying142 (congrArg Prod.fst hxe) hw rfl e1
  rw [cl_140, e1] at g1
  obtain ⟨a1, r1, c1⟩ := os_140 _ _ _ g1 q1
  rw [enc_cells] at r1
  rw [List.drop_zero] at r0
  refine ⟨(a0, a1, ()), ?_, ⟨c0, c1, trivial⟩⟩
  rw [enc_cells]
  exact (rl_cut 1 r0 (rl_cut 4 r1 (rl_dd (m := 1) (n := 4) (k := 5) rfl (rl_end (by simp [hcl])))))
theorem cl_97 : Tryz.prog.cellsOf 97 = 1 := by kernel_rfl
theorem by_142 : Tryz.prog.bytesOf 142 = 40 := by kernel_rfl
def OkS_97 (l : Ty.D (.sl jn)) : Prop := l.length ≤ maxLen ∧ l.length * Tryz.prog.bytesOf 142 ≤ reachBytes ∧ ∀ a ∈ l, OkS_142 a
set_option maxRecDepth 20000 in
theorem os_97 : OpensS ec Tryz.prog w base spare held 97 (enc (.sl jn)) OkS_97 := os_sl Tryz.underlying97 cl_142 (by decide) os_142
theorem cl_98 : Tryz.prog.cellsOf 98 = 1 := by kernel_rfl
theorem op_98 : OpenT ec Tryz.prog w base spare held 98 (.int .i64) := op_int Tryz.underlying98
abbrev OkS_98 : Ty.D (.int .i64) → Prop := OkD (.int .i64)
set_option maxRecDepth 20000 in
theorem os_98 : OpensS ec Tryz.prog w base spare held 98 (enc (.int .i64)) OkS_98 := os_of op_98
theorem cl_100 : Tryz.prog.cellsOf 100 = 3 := by kernel_rfl
def OkS_100 (x : Ty.D qx) : Prop := OkS_9 x.1 ∧ OkS_97 x.2.1 ∧ OkS_98 x.2.2.1 ∧ True
set_option maxRecDepth 20000 in
theorem os_100 : OpensS ec Tryz.prog w base spare held 100 (enc qx) OkS_100 := fun fuel cs x h hw => by
  obtain ⟨xs, n, _, hxe, hcl, hxl, hf⟩ := DataW.trod_struct Tryz.underlying100 h
  rw [cl_100] at hcl
  have hx : xs.length = 3 := hxl
  have g0 : DataW.trod ec Tryz.prog w base spare held n 9 ((cs.drop 0).take (Tryz.prog.cellsOf 9)) = xs[0]? := hf 0 _ rfl
  have e0 : xs[0]? = some (xs[0]'(by omega)) := List.getElem?_eq_getElem (by omega)
  have q0 := fit_part (i := 0) Tryz.underlying100 (congrArg Prod.fst hxe) hw rfl e0
  rw [cl_9, e0] at g0
  obtain ⟨a0, r0, c0⟩ := os_9 _ _ _ g0 q0
  rw [enc_cells] at r0
  have g1 : DataW.trod ec Tryz.prog w base spare held n 97 ((cs.drop 1).take (Tryz.prog.cellsOf 97)) = xs[1]? := hf 1 _ rfl
  have e1 : xs[1]? = some (xs[1]'(by omega)) := List.getElem?_eq_getElem (by omega)
  have q1 := fit_part (i := 1) Tryz.underlying100 (congrArg Prod.fst hxe) hw rfl e1
  rw [cl_97, e1] at g1
  obtain ⟨a1, r1, c1⟩ := os_97 _ _ _ g1 q1
  rw [enc_cells] at r1
  have g2 : DataW.trod ec Tryz.prog w base spare held n 98 ((cs.drop 2).take (Tryz.prog.cellsOf 98)) = xs[2]? := hf 2 _ rfl
  have e2 : xs[2]? = some (xs[2]'(by omega)) := List.getElem?_eq_getElem (by omega)
  have q2 := fit_part (i := 2) Tryz.underlying100 (congrArg Prod.fst hxe) hw rfl e2
  rw [cl_98, e2] at g2
  obtain ⟨a2, r2, c2⟩ := os_98 _ _ _ g2 q2
  rw [enc_cells] at r2
  rw [List.drop_zero] at r0
  refine ⟨(a0, a1, a2, ()), ?_, ⟨c0, c1, c2, trivial⟩⟩
  rw [enc_cells]
  exact (rl_cut 1 r0 (rl_cut 1 r1 (rl_dd (m := 1) (n := 1) (k := 2) rfl (rl_cut 1 r2 (rl_dd (m := 2) (n := 1) (k := 3) rfl (rl_end (by simp [hcl])))))))
theorem cl_41 : Tryz.prog.cellsOf 41 = 1 := by kernel_rfl
theorem by_100 : Tryz.prog.bytesOf 100 = 48 := by kernel_rfl
def OkS_41 (l : Ty.D (.sl qx)) : Prop := l.length ≤ maxLen ∧ l.length * Tryz.prog.bytesOf 100 ≤ reachBytes ∧ ∀ a ∈ l, OkS_100 a
set_option maxRecDepth 20000 in
theorem os_41 : OpensS ec Tryz.prog w base spare held 41 (enc (.sl qx)) OkS_41 := os_sl Tryz.underlying41 cl_100 (by decide) os_100
theorem cl_42 : Tryz.prog.cellsOf 42 = 1 := by kernel_rfl
theorem by_9 : Tryz.prog.bytesOf 9 = 16 := by kernel_rfl
def OkS_42 (l : Ty.D (.sl .str)) : Prop := l.length ≤ maxLen ∧ l.length * Tryz.prog.bytesOf 9 ≤ reachBytes ∧ ∀ a ∈ l, OkS_9 a
set_option maxRecDepth 20000 in
theorem os_42 : OpensS ec Tryz.prog w base spare held 42 (enc (.sl .str)) OkS_42 := os_sl Tryz.underlying42 cl_9 (by decide) os_9
theorem cl_3 : Tryz.prog.cellsOf 3 = 1 := by kernel_rfl
theorem op_3 : OpenT ec Tryz.prog w base spare held 3 (.int .i64) := op_int Tryz.underlying3
abbrev OkS_3 : Ty.D (.int .i64) → Prop := OkD (.int .i64)
set_option maxRecDepth 20000 in
theorem os_3 : OpensS ec Tryz.prog w base spare held 3 (enc (.int .i64)) OkS_3 := os_of op_3
theorem cl_4 : Tryz.prog.cellsOf 4 = 1 := by kernel_rfl
theorem op_4 : OpenT ec Tryz.prog w base spare held 4 .bool := op_bool Tryz.underlying4
abbrev OkS_4 : Ty.D .bool → Prop := OkD .bool
set_option maxRecDepth 20000 in
theorem os_4 : OpensS ec Tryz.prog w base spare held 4 (enc .bool) OkS_4 := os_of op_4
theorem cl_108 : Tryz.prog.cellsOf 108 = 1 := by kernel_rfl
theorem op_108 : OpenT ec Tryz.prog w base spare held 108 (.int .i64) := op_int Tryz.underlying108
abbrev OkS_108 : Ty.D (.int .i64) → Prop := OkD (.int .i64)
set_option maxRecDepth 20000 in
theorem os_108 : OpensS ec Tryz.prog w base spare held 108 (enc (.int .i64)) OkS_108 := os_of op_108
theorem cl_110 : Tryz.prog.cellsOf 110 = 4 := by kernel_rfl
def OkS_110 (x : Ty.D jr) : Prop := OkS_4 x.1 ∧ OkS_3 x.2.1 ∧ OkS_108 x.2.2.1 ∧ OkS_3 x.2.2.2.1 ∧ True
set_option maxRecDepth 20000 in
theorem os_110 : OpensS ec Tryz.prog w base spare held 110 (enc jr) OkS_110 := fun fuel cs x h hw => by
  obtain ⟨xs, n, _, hxe, hcl, hxl, hf⟩ := DataW.trod_struct Tryz.underlying110 h
  rw [cl_110] at hcl
  have hx : xs.length = 4 := hxl
  have g0 : DataW.trod ec Tryz.prog w base spare held n 4 ((cs.drop 0).take (Tryz.prog.cellsOf 4)) = xs[0]? := hf 0 _ rfl
  have e0 : xs[0]? = some (xs[0]'(by omega)) := List.getElem?_eq_getElem (by omega)
  have q0 := fit_part (i := 0) Tryz.underlying110 (congrArg Prod.fst hxe) hw rfl e0
  rw [cl_4, e0] at g0
  obtain ⟨a0, r0, c0⟩ := os_4 _ _ _ g0 q0
  rw [enc_cells] at r0
  have g1 : DataW.trod ec Tryz.prog w base spare held n 3 ((cs.drop 1).take (Tryz.prog.cellsOf 3)) = xs[1]? := hf 1 _ rfl
  have e1 : xs[1]? = some (xs[1]'(by omega)) := List.getElem?_eq_getElem (by omega)
  have q1 := fit_part (i := 1) Tryz.underlying110 (congrArg Prod.fst hxe) hw rfl e1
  rw [cl_3, e1] at g1
  obtain ⟨a1, r1, c1⟩ := os_3 _ _ _ g1 q1
  rw [enc_cells] at r1
  have g2 : DataW.trod ec Tryz.prog w base spare held n 108 ((cs.drop 2).take (Tryz.prog.cellsOf 108)) = xs[2]? := hf 2 _ rfl
  have e2 : xs[2]? = some (xs[2]'(by omega)) := List.getElem?_eq_getElem (by omega)
  have q2 := fit_part (i := 2) Tryz.underlying110 (congrArg Prod.fst hxe) hw rfl e2
  rw [cl_108, e2] at g2
  obtain ⟨a2, r2, c2⟩ := os_108 _ _ _ g2 q2
  rw [enc_cells] at r2
  have g3 : DataW.trod ec Tryz.prog w base spare held n 3 ((cs.drop 3).take (Tryz.prog.cellsOf 3)) = xs[3]? := hf 3 _ rfl
  have e3 : xs[3]? = some (xs[3]'(by omega)) := List.getElem?_eq_getElem (by omega)
  have q3 := fit_part (i := 3) Tryz.underlying110 (congrArg Prod.fst hxe) hw rfl e3
  rw [cl_3, e3] at g3
  obtain ⟨a3, r3, c3⟩ := os_3 _ _ _ g3 q3
  rw [enc_cells] at r3
  rw [List.drop_zero] at r0
  refine ⟨(a0, a1, a2, a3, ()), ?_, ⟨c0, c1, c2, c3, trivial⟩⟩
  rw [enc_cells]
  exact (rl_cut 1 r0 (rl_cut 1 r1 (rl_dd (m := 1) (n := 1) (k := 2) rfl (rl_cut 1 r2 (rl_dd (m := 2) (n := 1) (k := 3) rfl (rl_cut 1 r3 (rl_dd (m := 3) (n := 1) (k := 4) rfl (rl_end (by simp [hcl])))))))))
theorem cl_102 : Tryz.prog.cellsOf 102 = 1 := by kernel_rfl
theorem by_110 : Tryz.prog.bytesOf 110 = 32 := by kernel_rfl
def OkS_102 (l : Ty.D (.sl jr)) : Prop := l.length ≤ maxLen ∧ l.length * Tryz.prog.bytesOf 110 ≤ reachBytes ∧ ∀ a ∈ l, OkS_110 a
set_option maxRecDepth 20000 in
theorem os_102 : OpensS ec Tryz.prog w base spare held 102 (enc (.sl jr)) OkS_102 := os_sl Tryz.underlying102 cl_110 (by decide) os_110
theorem cl_104 : Tryz.prog.cellsOf 104 = 2 := by kernel_rfl
def OkS_104 (x : Ty.D qk) : Prop := OkS_3 x.1 ∧ OkS_102 x.2.1 ∧ True
set_option maxRecDepth 20000 in
theorem os_104 : OpensS ec Tryz.prog w base spare held 104 (enc qk) OkS_104 := fun fuel cs x h hw => by
  obtain ⟨xs, n, _, hxe, hcl, hxl, hf⟩ := DataW.trod_struct Tryz.underlying104 h
  rw [cl_104] at hcl
  have hx : xs.length = 2 := hxl
  have g0 : DataW.trod ec Tryz.prog w base spare held n 3 ((cs.drop 0).take (Tryz.prog.cellsOf 3)) = xs[0]? := hf 0 _ rfl
  have e0 : xs[0]? = some (xs[0]'(by omega)) := List.getElem?_eq_getElem (by omega)
  have q0 := fit_part (i := 0) Tryz.underlying104 (congrArg Prod.fst hxe) hw rfl e0
  rw [cl_3, e0] at g0
  obtain ⟨a0, r0, c0⟩ := os_3 _ _ _ g0 q0
  rw [enc_cells] at r0
  have g1 : DataW.trod ec Tryz.prog w base spare held n 102 ((cs.drop 1).take (Tryz.prog.cellsOf 102)) = xs[1]? := hf 1 _ rfl
  have e1 : xs[1]? = some (xs[1]'(by omega)) := List.getElem?_eq_getElem (by omega)
  have q1 := fit_part (i := 1) Tryz.underlying104 (congrArg Prod.fst hxe) hw rfl e1
  rw [cl_102, e1] at g1
  obtain ⟨a1, r1, c1⟩ := os_102 _ _ _ g1 q1
  rw [enc_cells] at r1
  rw [List.drop_zero] at r0
  refine ⟨(a0, a1, ()), ?_, ⟨c0, c1, trivial⟩⟩
  rw [enc_cells]
  exact (rl_cut 1 r0 (rl_cut 1 r1 (rl_dd (m := 1) (n := 1) (k := 2) rfl (rl_end (by simp [hcl])))))
theorem cl_43 : Tryz.prog.cellsOf 43 = 1 := by kernel_rfl
theorem by_104 : Tryz.prog.bytesOf 104 = 32 := by kernel_rfl
def OkS_43 (l : Ty.D (.sl qk)) : Prop := l.length ≤ maxLen ∧ l.length * Tryz.prog.bytesOf 104 ≤ reachBytes ∧ ∀ a ∈ l, OkS_104 a
set_option maxRecDepth 20000 in
theorem os_43 : OpensS ec Tryz.prog w base spare held 43 (enc (.sl qk)) OkS_43 := os_sl Tryz.underlying43 cl_104 (by decide) os_104
theorem cl_45 : Tryz.prog.cellsOf 45 = 8 := by kernel_rfl
def OkS_45 (x : Ty.D jg) : Prop := OkS_41 x.1 ∧ OkS_42 x.2.1 ∧ OkS_43 x.2.2.1 ∧ OkS_3 x.2.2.2.1 ∧ OkS_3 x.2.2.2.2.1 ∧ OkS_3 x.2.2.2.2.2.1 ∧ OkS_3 x.2.2.2.2.2.2.1 ∧ OkS_3 x.2.2.2.2.2.2.2.1 ∧ True
set_option maxRecDepth 20000 in
theorem os_45 : OpensS ec Tryz.prog w base spare held 45 (enc jg) OkS_45 := fun fuel cs x h hw => by
  obtain ⟨xs, n, _, hxe, hcl, hxl, hf⟩ := DataW.trod_struct Tryz.underlying45 h
  rw [cl_45] at hcl
  have hx : xs.length = 8 := hxl
  have g0 : DataW.trod ec Tryz.prog w base spare held n 41 ((cs.drop 0).take (Tryz.prog.cellsOf 41)) = xs[0]? := hf 0 _ rfl
  have e0 : xs[0]? = some (xs[0]'(by omega)) := List.getElem?_eq_getElem (by omega)
  have q0 := fit_part (i := 0) Tryz.underlying45 (congrArg Prod.fst hxe) hw rfl e0
  rw [cl_41, e0] at g0
  obtain ⟨a0, r0, c0⟩ := os_41 _ _ _ g0 q0
  rw [enc_cells] at r0
  have g1 : DataW.trod ec Tryz.prog w base spare held n 42 ((cs.drop 1).take (Tryz.prog.cellsOf 42)) = xs[1]? := hf 1 _ rfl
  have e1 : xs[1]? = some (xs[1]'(by omega)) := List.getElem?_eq_getElem (by omega)
  have q1 := fit_part (i := 1) Tryz.underlying45 (congrArg Prod.fst hxe) hw rfl e1
  rw [cl_42, e1] at g1
  obtain ⟨a1, r1, c1⟩ := os_42 _ _ _ g1 q1
  rw [enc_cells] at r1
  have g2 : DataW.trod ec Tryz.prog w base spare held n 43 ((cs.drop 2).take (Tryz.prog.cellsOf 43)) = xs[2]? := hf 2 _ rfl
  have e2 : xs[2]? = some (xs[2]'(by omega)) := List.getElem?_eq_getElem (by omega)
  have q2 := fit_part (i := 2) Tryz.underlying45 (congrArg Prod.fst hxe) hw rfl e2
  rw [cl_43, e2] at g2
  obtain ⟨a2, r2, c2⟩ := os_43 _ _ _ g2 q2
  rw [enc_cells] at r2
  have g3 : DataW.trod ec Tryz.prog w base spare held n 3 ((cs.drop 3).take (Tryz.prog.cellsOf 3)) = xs[3]? := hf 3 _ rfl
  have e3 : xs[3]? = some (xs[3]'(by omega)) := List.getElem?_eq_getElem (by omega)
  have q3 := fit_part (i := 3) Tryz.underlying45 (congrArg Prod.fst hxe) hw rfl e3
  rw [cl_3, e3] at g3
  obtain ⟨a3, r3, c3⟩ := os_3 _ _ _ g3 q3
  rw [enc_cells] at r3
  have g4 : DataW.trod ec Tryz.prog w base spare held n 3 ((cs.drop 4).take (Tryz.prog.cellsOf 3)) = xs[4]? := hf 4 _ rfl
  have e4 : xs[4]? = some (xs[4]'(by omega)) := List.getElem?_eq_getElem (by omega)
  have q4 := fit_part (i := 4) Tryz.underlying45 (congrArg Prod.fst hxe) hw rfl e4
  rw [cl_3, e4] at g4
  obtain ⟨a4, r4, c4⟩ := os_3 _ _ _ g4 q4
  rw [enc_cells] at r4
  have g5 : DataW.trod ec Tryz.prog w base spare held n 3 ((cs.drop 5).take (Tryz.prog.cellsOf 3)) = xs[5]? := hf 5 _ rfl
  have e5 : xs[5]? = some (xs[5]'(by omega)) := List.getElem?_eq_getElem (by omega)
  have q5 := fit_part (i := 5) Tryz.underlying45 (congrArg Prod.fst hxe) hw rfl e5
  rw [cl_3, e5] at g5
  obtain ⟨a5, r5, c5⟩ := os_3 _ _ _ g5 q5
  rw [enc_cells] at r5
  have g6 : DataW.trod ec Tryz.prog w base spare held n 3 ((cs.drop 6).take (Tryz.prog.cellsOf 3)) = xs[6]? := hf 6 _ rfl
  have e6 : xs[6]? = some (xs[6]'(by omega)) := List.getElem?_eq_getElem (by omega)
  have q6 := fit_part (i := 6) Tryz.underlying45 (congrArg Prod.fst hxe) hw rfl e6
  rw [cl_3, e6] at g6
  obtain ⟨a6, r6, c6⟩ := os_3 _ _ _ g6 q6
  rw [enc_cells] at r6
  have g7 : DataW.trod ec Tryz.prog w base spare held n 3 ((cs.drop 7).take (Tryz.prog.cellsOf 3)) = xs[7]? := hf 7 _ rfl
  have e7 : xs[7]? = some (xs[7]'(by omega)) := List.getElem?_eq_getElem (by omega)
  have q7 := fit_part (i := 7) Tryz.underlying45 (congrArg Prod.fst hxe) hw rfl e7
  rw [cl_3, e7] at g7
  obtain ⟨a7, r7, c7⟩ := os_3 _ _ _ g7 q7
  rw [enc_cells] at r7
  rw [List.drop_zero] at r0
  refine ⟨(a0, a1, a2, a3, a4, a5, a6, a7, ()), ?_, ⟨c0, c1, c2, c3, c4, c5, c6, c7, trivial⟩⟩
  rw [enc_cells]
  exact (rl_cut 1 r0 (rl_cut 1 r1 (rl_dd (m := 1) (n := 1) (k := 2) rfl (rl_cut 1 r2 (rl_dd (m := 2) (n := 1) (k := 3) rfl (rl_cut 1 r3 (rl_dd (m := 3) (n := 1) (k := 4) rfl (rl_cut 1 r4 (rl_dd (m := 4) (n := 1) (k := 5) rfl (rl_cut 1 r5 (rl_dd (m := 5) (n := 1) (k := 6) rfl (rl_cut 1 r6 (rl_dd (m := 6) (n := 1) (k := 7) rfl (rl_cut 1 r7 (rl_dd (m := 7) (n := 1) (k := 8) rfl (rl_end (by simp [hcl])))))))))))))))))
end
theorem own : ownKnob Tryz.prog.godebug = none := by kernel_rfl
theorem laidOut : laidOutB Tryz.prog = true := by kernel_rfl
theorem readable : (Tryz.f4.params.toList.all fun t => Tryz.prog.readableRec t && decide (t < Tryz.prog.types.size)) = true := by kernel_rfl

set_option maxRecDepth 100000 in
theorem lifted (os : Os) (started : os.Started) (H : Type) (enc : TypeId × Value → H) :
    ReturnsInHanded {} Tryz.checked os 4 .any (fun w args => (Rows.touchCutsSpec.pre enc Tryz.prog Tryz.f4 [] false w args ∧ laidMetH Tryz.prog laidN w) ∧ sizedMet enc Tryz.prog Tryz.f4 (OpenSpec.ofChange Rows.touchCutsSpec) false w args) (Rows.touchCutsSpec.post enc Tryz.prog Tryz.f4 false true false false) := by
  refine returnsInHanded_of_change_and (C := Tryz.checked) (X := fun w _ => laidMetH Tryz.prog laidN w) (fun _ _ _ hh h => h.of_heap hh) own started (by kernel_rfl) Tryz.func4
    (ChangeSpec.witness_shaped (enc := enc) (C := Tryz.checked) (os := os) (X := fun w _ => laidMetH Tryz.prog laidN w) false (World.doorLaid Tryz.prog 14 os) #[.agg #[.slice none 0 0, .slice none 0 0, .slice none 0 0, .int .i64 0, .int .i64 0, .int .i64 0, .int .i64 0, .int .i64 0], .string ⟨#[]⟩, .string ⟨#[]⟩, .string ⟨#[]⟩] 8 rfl (World.shaped_of_RefB (by kernel_rfl) (by kernel_rfl)) (by kernel_rfl) (by kernel_rfl) (by kernel_rfl) (door_met os _)) ?_
  intro W base args ds gs before hval0 hW _ hWt hL _
  have hval : ∀ (j : Nat) t v, Tryz.f4.params[j]? = some t → args[j]? = some v → Value.okWide Tryz.prog W .any base t v := hval0
  have hW' := hW
  obtain ⟨p, q, hA0, hV, rfl, _, _⟩ := hW
  have hA : DataW.TrodAll enc Tryz.prog W 0 (fun _ => true) true Tryz.f4.params.toList args.toList ds p := hA0
  rw [Tryz.params4] at hA hval hWt
  obtain ⟨v0, vs0, d0, ds0, p0, q0, hargs0, rfl, rfl, h0, r0⟩ := trodAll_cons hA
  obtain ⟨v1, vs1, d1, ds1, p1, q1, hargs1, rfl, rfl, h1, r1⟩ := trodAll_cons r0
  subst hargs1
  obtain ⟨v2, vs2, d2, ds2, p2, q2, hargs2, rfl, rfl, h2, r2⟩ := trodAll_cons r1
  subst hargs2
  obtain ⟨v3, vs3, d3, ds3, p3, q3, hargs3, rfl, rfl, h3, r3⟩ := trodAll_cons r2
  subst hargs3
  obtain ⟨rfl, rfl, rfl⟩ := trodAll_nil r3
  obtain rfl : args = #[v0, v1, v2, v3] := by cases args; simp_all
  obtain ⟨x0, rfl, _⟩ := okWide_struct Tryz.underlying45 (hval 0 45 v0 rfl rfl)
  obtain ⟨fu0, hf0⟩ := h0
  obtain ⟨a0, hr0, c0⟩ := os_45 _ _ _ hf0 fun n hn => of_decide_eq_true (List.all_eq_true.1 hWt n (DataW.weights_mem_each (j := 0) rfl rfl n hn))
  obtain ⟨x1, rfl⟩ := okWide_string Tryz.underlying9 (hval 1 9 v1 rfl rfl)
  obtain ⟨fu1, hf1⟩ := h1
  obtain ⟨a1, hr1, c1⟩ := os_9 _ _ _ hf1 fun n hn => of_decide_eq_true (List.all_eq_true.1 hWt n (DataW.weights_mem_each (j := 1) rfl rfl n hn))
  obtain ⟨x2, rfl⟩ := okWide_string Tryz.underlying9 (hval 2 9 v2 rfl rfl)
  obtain ⟨fu2, hf2⟩ := h2
  obtain ⟨a2, hr2, c2⟩ := os_9 _ _ _ hf2 fun n hn => of_decide_eq_true (List.all_eq_true.1 hWt n (DataW.weights_mem_each (j := 2) rfl rfl n hn))
  obtain ⟨x3, rfl⟩ := okWide_string Tryz.underlying9 (hval 3 9 v3 rfl rfl)
  obtain ⟨fu3, hf3⟩ := h3
  obtain ⟨a3, hr3, c3⟩ := os_9 _ _ _ hf3 fun n hn => of_decide_eq_true (List.all_eq_true.1 hWt n (DataW.weights_mem_each (j := 3) rfl rfl n hn))
  obtain ⟨b, ⟨nn, hn⟩, rfl⟩ := (TouchCuts_tot a0 a1 a2 a3 ⟨Nat.le_trans c0.1.1 (by decide), Nat.le_trans c0.2.1.1 (by decide), Nat.le_trans c0.2.2.1.1 (by decide)⟩ ⟨fun x hx => Nat.le_trans (c0.1.2.2 x hx).1 (by decide), fun x hx => Nat.le_trans (c0.2.1.2.2 x hx) (by decide), fun x hx => Nat.le_trans (c0.2.2.1.2.2 x hx).2.1.1 (by decide)⟩ (fun t ht x hx => setOk_of2 ((c0.1.2.2 t ht).2.1.2.2 x hx).2.1) fun x hx => big47 (c0.2.2.1.2.2 x hx).2.1.2.1 (by kernel_rfl))
  have hn := hn nn (Nat.le_refl _)
  refine (row_pure (P_law37_TouchCuts_ok nn) (t := (a0, a1, a2, a3)) hn (rl_cons (rl_agg hr0) (rl_cons (rl_one hr1) (rl_cons (rl_one hr2) (rl_cons (rl_one hr3) rl_nil)))) (gw_laid hL)).mono fun e W' ⟨he, hb⟩ => ?_
  exact ⟨_, he, law_post laidOut readable rfl rfl Tryz.underlying4 hW' rfl hb⟩

theorem holds : Rows.TouchCutsSaid :=
  OpenClaim.holds_of_wide 4 Tryz.f4 rfl rfl rfl rfl rfl rfl rfl ⟨rfl, rfl, rfl, rfl, rfl⟩ rfl rfl rfl rfl rfl (by kernel_rfl) Tryz.func4 jf
    (of_decide_eq_true (by kernel_rfl)) (by unfold Func.isWrapper; first | (rw [if_pos (by decide +kernel)]; kernel_rfl) | (rw [if_neg (by decide +kernel)]; exact ⟨rfl, rfl⟩))
    (fun os started H enc _ => lifted os started H enc)

theorem card_holds : Rows.TouchCutsCardSaid :=
  Claim7.holds_tied_plain_at .later [] [.data] true (true, "630f52080978d1979b4949731ae21a19c497b5987b4969377a3ca14849bbdd2d") false
    holds (fun _ h => by cases h) (by kernel_rfl) (fun _ h => by cases h) touchCuts_row_tie rfl ⟨rfl, rfl⟩ (by kernel_rfl) rfl
    (fun f fn hf hfn => by
      obtain rfl : f = 4 := Option.some.inj ((show Tryz.prog.funcNamed "facsimile/facsimilelaw37.TouchCuts" = some 4 by kernel_rfl).symm.trans hf) |>.symm
      obtain rfl : fn = Tryz.f4 := (Option.some.inj (Tryz.func4.symm.trans hfn)).symm
      exact ⟨by kernel_rfl, fun j t ht => by
        rw [Tryz.params4] at ht
        have hm : t ∈ [45, 9, 9, 9] := by simpa using Array.mem_of_getElem? ht
        have hall : ([45, 9, 9, 9].all fun u => !Tryz.prog.wantsStandIn u) = true := by kernel_rfl
        exact (show Tryz.prog.wantsStandIn t = false by simpa using List.all_eq_true.1 hall t hm)⟩)
    (by kernel_rfl)
#print axioms card_holds
end Go.Proofs.YtiafpechgjopfaaGreatDoor.touchCuts
