/-
  AcceptTells: its row.
-/
import Derived.Test.YtigdmmgklieofaaGreatRows
import Derived.Test.YtigdmmgklieofaaGreatProg
import Derived.Test.YtigdmmgklieofaaGreatQ6AcceptTells
namespace Go.Proofs.YtigdmmgklieofaaGreat.acceptTells
open Go Go.ChangeShapes Go.WideShapes Go.ChangeAt Go.RowKit Go.Proofs.YtigdmmgklieofaaGreat L T
set_option linter.unusedVariables false
set_option linter.unusedSimpArgs false

section
variable {H : Type} {ec : TypeId × Value → H} {w : World} {base : Nat} {spare : Nat → Bool} {held : Bool}
theorem cl_9 : Tryz.prog.cellsOf 9 = 1 := by kernel_rfl
set_option maxRecDepth 20000 in
theorem op_9 : OpenT ec Tryz.prog w base spare held 9 .str := op_str Tryz.underlying9
theorem cl_162 : Tryz.prog.cellsOf 162 = 1 := by kernel_rfl
set_option maxRecDepth 20000 in
theorem op_162 : OpenT ec Tryz.prog w base spare held 162 (.int .i64) := op_int Tryz.underlying162
theorem cl_123 : Tryz.prog.cellsOf 123 = 1 := by kernel_rfl
set_option maxRecDepth 20000 in
theorem op_123 : OpenT ec Tryz.prog w base spare held 123 (.int .u64) := op_int Tryz.underlying123
theorem cl_125 : Tryz.prog.cellsOf 125 = 4 := by kernel_rfl
set_option maxRecDepth 20000 in
theorem op_125 : OpenT ec Tryz.prog w base spare held 125 (.arr 4 (.int .u64)) := op_arr Tryz.underlying125 cl_123 cl_125 (fun _ => rfl) op_123
theorem cl_164 : Tryz.prog.cellsOf 164 = 5 := by kernel_rfl
set_option maxRecDepth 20000 in
theorem op_164 : OpenT ec Tryz.prog w base spare held 164 jl := fun fuel cs x h => by
  obtain ⟨xs, n, _, _, hcl, hxl, hf⟩ := DataW.trod_struct Tryz.underlying164 h
  rw [cl_164] at hcl
  have hx : xs.length = 2 := hxl
  have g0 : DataW.trod ec Tryz.prog w base spare held n 162 ((cs.drop 0).take (Tryz.prog.cellsOf 162)) = xs[0]? := hf 0 _ rfl
  rw [cl_162, List.getElem?_eq_getElem (by omega)] at g0
  obtain ⟨a0, r0, c0⟩ := op_162 _ _ _ g0
  rw [enc_cells] at r0
  have g1 : DataW.trod ec Tryz.prog w base spare held n 125 ((cs.drop 1).take (Tryz.prog.cellsOf 125)) = xs[1]? := hf 1 _ rfl
  rw [cl_125, List.getElem?_eq_getElem (by omega)] at g1
  obtain ⟨a1, r1, c1⟩ := op_125 _ _ _ g1
  rw [enc_cells] at r1
  rw [List.drop_zero] at r0
  refine ⟨(a0, a1, ()), ?_, ⟨c0, c1, trivial⟩⟩
  rw [enc_cells]
  exact (rl_cut 1 r0 (rl_cut 4 r1 (rl_dd (m := 1) (n := 4) (k := 5) rfl (rl_end (by simp [hcl])))))
theorem cl_58 : Tryz.prog.cellsOf 58 = 1 := by kernel_rfl
set_option maxRecDepth 20000 in
theorem op_58 : OpenT ec Tryz.prog w base spare held 58 (.sl jl) := op_sl Tryz.underlying58 cl_164 (by decide) op_164
theorem cl_59 : Tryz.prog.cellsOf 59 = 1 := by kernel_rfl
set_option maxRecDepth 20000 in
theorem op_59 : OpenT ec Tryz.prog w base spare held 59 (.int .i64) := op_int Tryz.underlying59
theorem cl_61 : Tryz.prog.cellsOf 61 = 3 := by kernel_rfl
set_option maxRecDepth 20000 in
theorem op_61 : OpenT ec Tryz.prog w base spare held 61 ve := fun fuel cs x h => by
  obtain ⟨xs, n, _, _, hcl, hxl, hf⟩ := DataW.trod_struct Tryz.underlying61 h
  rw [cl_61] at hcl
  have hx : xs.length = 3 := hxl
  have g0 : DataW.trod ec Tryz.prog w base spare held n 9 ((cs.drop 0).take (Tryz.prog.cellsOf 9)) = xs[0]? := hf 0 _ rfl
  rw [cl_9, List.getElem?_eq_getElem (by omega)] at g0
  obtain ⟨a0, r0, c0⟩ := op_9 _ _ _ g0
  rw [enc_cells] at r0
  have g1 : DataW.trod ec Tryz.prog w base spare held n 58 ((cs.drop 1).take (Tryz.prog.cellsOf 58)) = xs[1]? := hf 1 _ rfl
  rw [cl_58, List.getElem?_eq_getElem (by omega)] at g1
  obtain ⟨a1, r1, c1⟩ := op_58 _ _ _ g1
  rw [enc_cells] at r1
  have g2 : DataW.trod ec Tryz.prog w base spare held n 59 ((cs.drop 2).take (Tryz.prog.cellsOf 59)) = xs[2]? := hf 2 _ rfl
  rw [cl_59, List.getElem?_eq_getElem (by omega)] at g2
  obtain ⟨a2, r2, c2⟩ := op_59 _ _ _ g2
  rw [enc_cells] at r2
  rw [List.drop_zero] at r0
  refine ⟨(a0, a1, a2, ()), ?_, ⟨c0, c1, c2, trivial⟩⟩
  rw [enc_cells]
  exact (rl_cut 1 r0 (rl_cut 1 r1 (rl_dd (m := 1) (n := 1) (k := 2) rfl (rl_cut 1 r2 (rl_dd (m := 2) (n := 1) (k := 3) rfl (rl_end (by simp [hcl])))))))
theorem cl_22 : Tryz.prog.cellsOf 22 = 1 := by kernel_rfl
set_option maxRecDepth 20000 in
theorem op_22 : OpenT ec Tryz.prog w base spare held 22 (.sl ve) := op_sl Tryz.underlying22 cl_61 (by decide) op_61
theorem cl_23 : Tryz.prog.cellsOf 23 = 1 := by kernel_rfl
set_option maxRecDepth 20000 in
theorem op_23 : OpenT ec Tryz.prog w base spare held 23 (.sl .str) := op_sl Tryz.underlying23 cl_9 (by decide) op_9
theorem cl_3 : Tryz.prog.cellsOf 3 = 1 := by kernel_rfl
set_option maxRecDepth 20000 in
theorem op_3 : OpenT ec Tryz.prog w base spare held 3 (.int .i64) := op_int Tryz.underlying3
theorem cl_4 : Tryz.prog.cellsOf 4 = 1 := by kernel_rfl
set_option maxRecDepth 20000 in
theorem op_4 : OpenT ec Tryz.prog w base spare held 4 .bool := op_bool Tryz.underlying4
theorem cl_63 : Tryz.prog.cellsOf 63 = 1 := by kernel_rfl
set_option maxRecDepth 20000 in
theorem op_63 : OpenT ec Tryz.prog w base spare held 63 (.int .i64) := op_int Tryz.underlying63
theorem cl_65 : Tryz.prog.cellsOf 65 = 4 := by kernel_rfl
set_option maxRecDepth 20000 in
theorem op_65 : OpenT ec Tryz.prog w base spare held 65 jt := fun fuel cs x h => by
  obtain ⟨xs, n, _, _, hcl, hxl, hf⟩ := DataW.trod_struct Tryz.underlying65 h
  rw [cl_65] at hcl
  have hx : xs.length = 4 := hxl
  have g0 : DataW.trod ec Tryz.prog w base spare held n 4 ((cs.drop 0).take (Tryz.prog.cellsOf 4)) = xs[0]? := hf 0 _ rfl
  rw [cl_4, List.getElem?_eq_getElem (by omega)] at g0
  obtain ⟨a0, r0, c0⟩ := op_4 _ _ _ g0
  rw [enc_cells] at r0
  have g1 : DataW.trod ec Tryz.prog w base spare held n 3 ((cs.drop 1).take (Tryz.prog.cellsOf 3)) = xs[1]? := hf 1 _ rfl
  rw [cl_3, List.getElem?_eq_getElem (by omega)] at g1
  obtain ⟨a1, r1, c1⟩ := op_3 _ _ _ g1
  rw [enc_cells] at r1
  have g2 : DataW.trod ec Tryz.prog w base spare held n 63 ((cs.drop 2).take (Tryz.prog.cellsOf 63)) = xs[2]? := hf 2 _ rfl
  rw [cl_63, List.getElem?_eq_getElem (by omega)] at g2
  obtain ⟨a2, r2, c2⟩ := op_63 _ _ _ g2
  rw [enc_cells] at r2
  have g3 : DataW.trod ec Tryz.prog w base spare held n 3 ((cs.drop 3).take (Tryz.prog.cellsOf 3)) = xs[3]? := hf 3 _ rfl
  rw [cl_3, List.getElem?_eq_getElem (by omega)] at g3
  obtain ⟨a3, r3, c3⟩ := op_3 _ _ _ g3
  rw [enc_cells] at r3
  rw [List.drop_zero] at r0
  refine ⟨(a0, a1, a2, a3, ()), ?_, ⟨c0, c1, c2, c3, trivial⟩⟩
  rw [enc_cells]
  exact (rl_cut 1 r0 (rl_cut 1 r1 (rl_dd (m := 1) (n := 1) (k := 2) rfl (rl_cut 1 r2 (rl_dd (m := 2) (n := 1) (k := 3) rfl (rl_cut 1 r3 (rl_dd (m := 3) (n := 1) (k := 4) rfl (rl_end (by simp [hcl])))))))))
theorem cl_66 : Tryz.prog.cellsOf 66 = 1 := by kernel_rfl
set_option maxRecDepth 20000 in
theorem op_66 : OpenT ec Tryz.prog w base spare held 66 (.sl jt) := op_sl Tryz.underlying66 cl_65 (by decide) op_65
theorem cl_68 : Tryz.prog.cellsOf 68 = 2 := by kernel_rfl
set_option maxRecDepth 20000 in
theorem op_68 : OpenT ec Tryz.prog w base spare held 68 js := fun fuel cs x h => by
  obtain ⟨xs, n, _, _, hcl, hxl, hf⟩ := DataW.trod_struct Tryz.underlying68 h
  rw [cl_68] at hcl
  have hx : xs.length = 2 := hxl
  have g0 : DataW.trod ec Tryz.prog w base spare held n 3 ((cs.drop 0).take (Tryz.prog.cellsOf 3)) = xs[0]? := hf 0 _ rfl
  rw [cl_3, List.getElem?_eq_getElem (by omega)] at g0
  obtain ⟨a0, r0, c0⟩ := op_3 _ _ _ g0
  rw [enc_cells] at r0
  have g1 : DataW.trod ec Tryz.prog w base spare held n 66 ((cs.drop 1).take (Tryz.prog.cellsOf 66)) = xs[1]? := hf 1 _ rfl
  rw [cl_66, List.getElem?_eq_getElem (by omega)] at g1
  obtain ⟨a1, r1, c1⟩ := op_66 _ _ _ g1
  rw [enc_cells] at r1
  rw [List.drop_zero] at r0
  refine ⟨(a0, a1, ()), ?_, ⟨c0, c1, trivial⟩⟩
  rw [enc_cells]
  exact (rl_cut 1 r0 (rl_cut 1 r1 (rl_dd (m := 1) (n := 1) (k := 2) rfl (rl_end (by simp [hcl])))))
theorem cl_24 : Tryz.prog.cellsOf 24 = 1 := by kernel_rfl
set_option maxRecDepth 20000 in
theorem op_24 : OpenT ec Tryz.prog w base spare held 24 (.sl js) := op_sl Tryz.underlying24 cl_68 (by decide) op_68
theorem cl_26 : Tryz.prog.cellsOf 26 = 8 := by kernel_rfl
set_option maxRecDepth 20000 in
theorem op_26 : OpenT ec Tryz.prog w base spare held 26 jc := fun fuel cs x h => by
  obtain ⟨xs, n, _, _, hcl, hxl, hf⟩ := DataW.trod_struct Tryz.underlying26 h
  rw [cl_26] at hcl
  have hx : xs.length = 8 := hxl
  have g0 : DataW.trod ec Tryz.prog w base spare held n 22 ((cs.drop 0).take (Tryz.prog.cellsOf 22)) = xs[0]? := hf 0 _ rfl
  rw [cl_22, List.getElem?_eq_getElem (by omega)] at g0
  obtain ⟨a0, r0, c0⟩ := op_22 _ _ _ g0
  rw [enc_cells] at r0
  have g1 : DataW.trod ec Tryz.prog w base spare held n 23 ((cs.drop 1).take (Tryz.prog.cellsOf 23)) = xs[1]? := hf 1 _ rfl
  rw [cl_23, List.getElem?_eq_getElem (by omega)] at g1
  obtain ⟨a1, r1, c1⟩ := op_23 _ _ _ g1
  rw [enc_cells] at r1
  have g2 : DataW.trod ec Tryz.prog w base spare held n 24 ((cs.drop 2).take (Tryz.prog.cellsOf 24)) = xs[2]? := hf 2 _ rfl
  rw [cl_24, List.getElem?_eq_getElem (by omega)] at g2
  obtain ⟨a2, r2, c2⟩ := op_24 _ _ _ g2
  rw [enc_cells] at r2
  have g3 : DataW.trod ec Tryz.prog w base spare held n 3 ((cs.drop 3).take (Tryz.prog.cellsOf 3)) = xs[3]? := hf 3 _ rfl
  rw [cl_3, List.getElem?_eq_getElem (by omega)] at g3
  obtain ⟨a3, r3, c3⟩ := op_3 _ _ _ g3
  rw [enc_cells] at r3
  have g4 : DataW.trod ec Tryz.prog w base spare held n 3 ((cs.drop 4).take (Tryz.prog.cellsOf 3)) = xs[4]? := hf 4 _ rfl
  rw [cl_3, List.getElem?_eq_getElem (by omega)] at g4
  obtain ⟨a4, r4, c4⟩ := op_3 _ _ _ g4
  rw [enc_cells] at r4
  have g5 : DataW.trod ec Tryz.prog w base spare held n 3 ((cs.drop 5).take (Tryz.prog.cellsOf 3)) = xs[5]? := hf 5 _ rfl
  rw [cl_3, List.getElem?_eq_getElem (by omega)] at g5
  obtain ⟨a5, r5, c5⟩ := op_3 _ _ _ g5
  rw [enc_cells] at r5
  have g6 : DataW.trod ec Tryz.prog w base spare held n 3 ((cs.drop 6).take (Tryz.prog.cellsOf 3)) = xs[6]? := hf 6 _ rfl
  rw [cl_3, List.getElem?_eq_getElem (by omega)] at g6
  obtain ⟨a6, r6, c6⟩ := op_3 _ _ _ g6
  rw [enc_cells] at r6
  have g7 : DataW.trod ec Tryz.prog w base spare held n 3 ((cs.drop 7).take (Tryz.prog.cellsOf 3)) = xs[7]? := hf 7 _ rfl
  rw [cl_3, List.getElem?_eq_getElem (by omega)] at g7
  obtain ⟨a7, r7, c7⟩ := op_3 _ _ _ g7
  rw [enc_cells] at r7
  rw [List.drop_zero] at r0
  refine ⟨(a0, a1, a2, a3, a4, a5, a6, a7, ()), ?_, ⟨c0, c1, c2, c3, c4, c5, c6, c7, trivial⟩⟩
  rw [enc_cells]
  exact (rl_cut 1 r0 (rl_cut 1 r1 (rl_dd (m := 1) (n := 1) (k := 2) rfl (rl_cut 1 r2 (rl_dd (m := 2) (n := 1) (k := 3) rfl (rl_cut 1 r3 (rl_dd (m := 3) (n := 1) (k := 4) rfl (rl_cut 1 r4 (rl_dd (m := 4) (n := 1) (k := 5) rfl (rl_cut 1 r5 (rl_dd (m := 5) (n := 1) (k := 6) rfl (rl_cut 1 r6 (rl_dd (m := 6) (n := 1) (k := 7) rfl (rl_cut 1 r7 (rl_dd (m := 7) (n := 1) (k := 8) rfl (rl_end (by simp [hcl])))))))))))))))))
end
theorem own : ownKnob Tryz.prog.godebug = none := by kernel_rfl
theorem laidOut : laidOutB Tryz.prog = true := by kernel_rfl
theorem readable : (Tryz.f3.params.toList.all fun t => Tryz.prog.readableRec t && decide (t < Tryz.prog.types.size)) = true := by kernel_rfl

set_option maxRecDepth 100000 in
theorem lifted (os : Os) (started : os.Started) (H : Type) (enc : TypeId × Value → H) :
    ReturnsInHanded {} Tryz.checked os 3 .any (Rows.acceptTellsSpec.pre6 enc Tryz.prog Tryz.f3 Rows.acceptTellsRow.domain false) (Rows.acceptTellsSpec.post enc Tryz.prog Tryz.f3 false true false false) := by
  refine returnsInHanded_of_change (C := Tryz.checked) own started (by kernel_rfl) Tryz.func3
    (ChangeSpec.witness6 (enc := enc) (C := Tryz.checked) false ⟨#[], #[.agg #[.slice none 0 0, .slice none 0 0, .slice none 0 0, .int .i64 0, .int .i64 0, .int .i64 0, .int .i64 0, .int .i64 0]], []⟩ 8 (by kernel_rfl) (by kernel_rfl) (by kernel_rfl) (by kernel_rfl)) ?_
  intro W base args ds gs before hval0 hW _ _
  have hval : ∀ (j : Nat) t v, Tryz.f3.params[j]? = some t → args[j]? = some v → Value.okWide Tryz.prog W .any base t v := hval0
  have hW' := hW
  obtain ⟨p, q, hA0, hV, rfl, _, _⟩ := hW
  have hA : DataW.TrodAll enc Tryz.prog W 0 (fun _ => true) true Tryz.f3.params.toList args.toList ds p := hA0
  rw [Tryz.params3] at hA hval
  obtain ⟨v0, vs0, d0, ds0, p0, q0, hargs0, rfl, rfl, h0, r0⟩ := trodAll_cons hA
  obtain ⟨rfl, rfl, rfl⟩ := trodAll_nil r0
  obtain rfl : args = #[v0] := by cases args; simp_all
  obtain ⟨x0, rfl, _⟩ := okWide_struct Tryz.underlying26 (hval 0 26 v0 rfl rfl)
  obtain ⟨fu0, hf0⟩ := h0
  obtain ⟨a0, hr0, c0⟩ := op_26 _ _ _ hf0
  obtain ⟨b, ⟨nn, hn⟩, rfl⟩ := AcceptTells_row a0 c0
  have hn := hn nn (Nat.le_refl _)
  refine (row_pure (P_law25_AcceptTells_ok nn) (t := (a0)) hn (rl_cons (rl_agg hr0) rl_nil)).mono fun e W' ⟨he, hb⟩ => ?_
  exact ⟨_, he, law_post laidOut readable rfl rfl Tryz.underlying4 hW' rfl hb⟩

theorem holds : Rows.AcceptTellsSaid :=
  OpenClaim.holds_of_wide 3 Tryz.f3 rfl rfl rfl rfl rfl rfl rfl ⟨rfl, rfl, rfl, rfl, rfl⟩ rfl rfl rfl rfl rfl (by kernel_rfl) Tryz.func3 (by kernel_rfl)
    (of_decide_eq_true (by kernel_rfl)) (by unfold Func.isWrapper; first | (rw [if_pos (by decide +kernel)]; kernel_rfl) | (rw [if_neg (by decide +kernel)]; exact ⟨rfl, rfl⟩))
    (fun os started H enc _ => lifted os started H enc)

#print axioms holds
end Go.Proofs.YtigdmmgklieofaaGreat.acceptTells
