/-
  LangNil: its row and its card.
-/
import Derived.Test.YtiafpechgjopfaaGreatDoorRows
import Derived.Test.YtiafpechgjopfaaGreatDoorCards
import Derived.Test.YtiafpechgjopfaaGreatDoorTie
import Derived.Test.YtiafpechgjopfaaGreatDoorProg
import Derived.Test.YtiafpechgjopfaaGreatDoorQ5LangNil
import Derived.Test.YtiafpechgjopfaaGreatDoorLangNilJ
namespace Go.Proofs.YtiafpechgjopfaaGreatDoor.langNil
open Go Go.ChangeShapes Go.WideShapes Go.ChangeAt Go.RowKit Go.WideMaps Go.WideElems Go.Proofs.YtiafpechgjopfaaGreatDoor L T
set_option linter.unusedVariables false
set_option linter.unusedSimpArgs false

section
variable {H : Type} {ec : TypeId × Value → H} {w : World} {base : Nat} {spare : Nat → Bool} {held : Bool}
theorem cl_9 : Tryz.prog.cellsOf 9 = 1 := by kernel_rfl
theorem op_9 : OpenT ec Tryz.prog w base spare held 9 .str := op_str Tryz.underlying9
abbrev OkS_9 : Ty.D .str → Prop := OkD .str
set_option maxRecDepth 20000 in
theorem os_9 : OpensS ec Tryz.prog w base spare held 9 (enc .str) OkS_9 := os_of op_9
theorem cl_3 : Tryz.prog.cellsOf 3 = 1 := by kernel_rfl
theorem op_3 : OpenT ec Tryz.prog w base spare held 3 (.int .i64) := op_int Tryz.underlying3
abbrev OkS_3 : Ty.D (.int .i64) → Prop := OkD (.int .i64)
set_option maxRecDepth 20000 in
theorem os_3 : OpensS ec Tryz.prog w base spare held 3 (enc (.int .i64)) OkS_3 := os_of op_3
end
theorem own : ownKnob Tryz.prog.godebug = none := by kernel_rfl
theorem laidOut : laidOutB Tryz.prog = true := by kernel_rfl
theorem readable : (Tryz.f3.params.toList.all fun t => Tryz.prog.readableRec t && decide (t < Tryz.prog.types.size)) = true := by kernel_rfl

set_option maxRecDepth 100000 in
theorem lifted (os : Os) (started : os.Started) (H : Type) (enc : TypeId × Value → H) :
    ReturnsInHanded {} Tryz.checked os 3 .any (fun w args => (Rows.langNilSpec.pre enc Tryz.prog Tryz.f3 [] false w args ∧ laidMetH Tryz.prog laidN w) ∧ sizedMet enc Tryz.prog Tryz.f3 (OpenSpec.ofChange Rows.langNilSpec) false w args) (Rows.langNilSpec.post enc Tryz.prog Tryz.f3 false true false false) := by
  refine returnsInHanded_of_change_and (C := Tryz.checked) (X := fun w _ => laidMetH Tryz.prog laidN w) (fun _ _ _ hh h => h.of_heap hh) own started (by kernel_rfl) Tryz.func3
    (ChangeSpec.witness_shaped (enc := enc) (C := Tryz.checked) (os := os) (X := fun w _ => laidMetH Tryz.prog laidN w) false (World.doorLaid Tryz.prog 14 os) #[.string ⟨#[]⟩, .int .i64 0, .int .i64 0] 8 rfl (World.shaped_of_RefB (by kernel_rfl) (by kernel_rfl)) (by kernel_rfl) (by kernel_rfl) (by kernel_rfl) (door_met os _)) ?_
  intro W base args ds gs before hval0 hW _ hWt hL _
  have hval : ∀ (j : Nat) t v, Tryz.f3.params[j]? = some t → args[j]? = some v → Value.okWide Tryz.prog W .any base t v := hval0
  have hW' := hW
  obtain ⟨p, q, hA0, hV, rfl, _, _⟩ := hW
  have hA : DataW.TrodAll enc Tryz.prog W 0 (fun _ => true) true Tryz.f3.params.toList args.toList ds p := hA0
  rw [Tryz.params3] at hA hval hWt
  obtain ⟨v0, vs0, d0, ds0, p0, q0, hargs0, rfl, rfl, h0, r0⟩ := trodAll_cons hA
  obtain ⟨v1, vs1, d1, ds1, p1, q1, hargs1, rfl, rfl, h1, r1⟩ := trodAll_cons r0
  subst hargs1
  obtain ⟨v2, vs2, d2, ds2, p2, q2, hargs2, rfl, rfl, h2, r2⟩ := trodAll_cons r1
  subst hargs2
  obtain ⟨rfl, rfl, rfl⟩ := trodAll_nil r2
  obtain rfl : args = #[v0, v1, v2] := by cases args; simp_all
  obtain ⟨x0, rfl⟩ := okWide_string Tryz.underlying9 (hval 0 9 v0 rfl rfl)
  obtain ⟨fu0, hf0⟩ := h0
  obtain ⟨a0, hr0, c0⟩ := os_9 _ _ _ hf0 fun n hn => of_decide_eq_true (List.all_eq_true.1 hWt n (DataW.weights_mem_each (j := 0) rfl rfl n hn))
  obtain ⟨x1, rfl⟩ := okWide_int Tryz.underlying3 (hval 1 3 v1 rfl rfl)
  obtain ⟨fu1, hf1⟩ := h1
  obtain ⟨a1, hr1, c1⟩ := os_3 _ _ _ hf1 fun n hn => of_decide_eq_true (List.all_eq_true.1 hWt n (DataW.weights_mem_each (j := 1) rfl rfl n hn))
  obtain ⟨x2, rfl⟩ := okWide_int Tryz.underlying3 (hval 2 3 v2 rfl rfl)
  obtain ⟨fu2, hf2⟩ := h2
  obtain ⟨a2, hr2, c2⟩ := os_3 _ _ _ hf2 fun n hn => of_decide_eq_true (List.all_eq_true.1 hWt n (DataW.weights_mem_each (j := 2) rfl rfl n hn))
  obtain ⟨b, ⟨nn, hn⟩, rfl⟩ := (LangNil_tot a0 a1 a2)
  have hn := hn nn (Nat.le_refl _)
  refine (row_pure (P_law26_LangNil_ok nn) (t := (a0, a1, a2)) hn (rl_cons (rl_one hr0) (rl_cons (rl_one hr1) (rl_cons (rl_one hr2) rl_nil))) (gw_laid hL)).mono fun e W' ⟨he, hb⟩ => ?_
  exact ⟨_, he, law_post laidOut readable rfl rfl Tryz.underlying4 hW' rfl hb⟩

theorem holds : Rows.LangNilSaid :=
  OpenClaim.holds_of_wide 3 Tryz.f3 rfl rfl rfl rfl rfl rfl rfl ⟨rfl, rfl, rfl, rfl, rfl⟩ rfl rfl rfl rfl rfl (by kernel_rfl) Tryz.func3 jf
    (of_decide_eq_true (by kernel_rfl)) (by unfold Func.isWrapper; first | (rw [if_pos (by decide +kernel)]; kernel_rfl) | (rw [if_neg (by decide +kernel)]; exact ⟨rfl, rfl⟩))
    (fun os started H enc _ => lifted os started H enc)

theorem card_holds : Rows.LangNilCardSaid :=
  Claim7.holds_tied_plain_at .later [] [.data] true (true, "630f52080978d1979b4949731ae21a19c497b5987b4969377a3ca14849bbdd2d") false
    holds (fun _ h => by cases h) (by kernel_rfl) (fun _ h => by cases h) langNil_row_tie rfl ⟨rfl, rfl⟩ (by kernel_rfl) rfl
    (fun f fn hf hfn => by
      obtain rfl : f = 3 := Option.some.inj ((show Tryz.prog.funcNamed "facsimile/facsimilelaw26.LangNil" = some 3 by kernel_rfl).symm.trans hf) |>.symm
      obtain rfl : fn = Tryz.f3 := (Option.some.inj (Tryz.func3.symm.trans hfn)).symm
      exact ⟨by kernel_rfl, fun j t ht => by
        rw [Tryz.params3] at ht
        have hm : t ∈ [9, 3, 3] := by simpa using Array.mem_of_getElem? ht
        have hall : ([9, 3, 3].all fun u => !Tryz.prog.wantsStandIn u) = true := by kernel_rfl
        exact (show Tryz.prog.wantsStandIn t = false by simpa using List.all_eq_true.1 hall t hm)⟩)
    (by kernel_rfl)
#print axioms card_holds
end Go.Proofs.YtiafpechgjopfaaGreatDoor.langNil
