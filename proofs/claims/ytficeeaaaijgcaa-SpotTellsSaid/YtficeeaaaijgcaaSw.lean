/-
  The package spot over pure values: Sets, First, Last, Follow, Free.
-/
import Derived.Test.YtficeeaaaijgcaaSv
namespace Go.Proofs.Ytficeeaaaijgcaa
open Go Go.RowKit L
set_option linter.unusedVariables false
set_option linter.unusedSimpArgs false

theorem slX_noP (l : List Rx) : NoP (slX l) := .sl _ _ fun c hc => by obtain ⟨z, _, rfl⟩ := List.mem_map.1 hc; exact .agg _ (fun c hc => by simp at hc; rcases hc with rfl | rfl | rfl | rfl | rfl <;> exact .u _)
set_option maxRecDepth 20000 in
theorem over_bad (l : List Rx) (H : PHeap) (hl : checkL l ≠ 0) : PIn Try.prog 59 [slX l] H (fun q H' => q = .u (.pointer none)) := by
  refine PIn.intro Try.func59 rfl Try.ntmps59 (by simp) (by kernel_rfl) fun W => ?_
  refine PC.seq fun K hK => ?_
  refine PC.region ?_
  repeat (refine PL.k rfl fun KK hKK => ?_; simp [go_sem, stepK]; refine hKK _ ?_; clear hKK KK)
  refine PL.done hK ?_; clear hK
  refine PC.seq fun K hK => ?_
  refine PC.seq fun K2 hK2 => ?_
  refine PC.region ?_
  repeat (refine PL.k rfl fun KK hKK => ?_; simp [go_sem, stepK]; refine hKK _ ?_; clear hKK KK)
  refine PL.call (qs := [slX l]) rfl rfl (by kernel_rfl) (rxCheck_ok l) (by simp [go_sem]) (by simp [go_sem]) ?_ ?_
  · simp [go_sem, slX_noP, View.noP]
  repeat (refine PL.k rfl fun KK hKK => ?_; simp [go_sem, stepK, hl]; refine hKK _ ?_; clear hKK KK)
  refine PL.done hK2 ?_; clear hK2
  refine PC.condT (by simp [go_sem, hl]) ?_
  refine PC.seq fun K hK => ?_
  refine PC.region ?_
  repeat (refine PL.k rfl fun KK hKK => ?_; simp [go_sem, stepK]; refine hKK _ ?_; clear hKK KK)
  refine PL.done hK ?_; clear hK
  refine PC.ret ?_
  refine ⟨.inr rfl, .u (.pointer none), ?_, rfl⟩
  simp [resP, resP1, Try.results59, go_sem]

def slS (l : List Rx) : PV := .sl 4 (l.map encS)
def topS (l : List Rx) : Pt := (runS l).st.headD ⟨[], [], false, 0⟩
def spSets (l : List Rx) : List Rx := if checkL l = 0 then (runS l).sets else []
def spFirst (l : List Rx) : List Int := if checkL l = 0 then (topS l).first else []
def spLast (l : List Rx) : List Int := if checkL l = 0 then (topS l).last else []
def spFree (l : List Rx) : Bool := if checkL l = 0 then (topS l).free else false
def spFollow (l : List Rx) (i : Int) : List Int := if checkL l = 0 ∧ 0 ≤ i ∧ i < (topS l).n then ((runS l).fol)[i.toNat]?.getD [] else []

theorem slS_noP (l : List Rx) : NoP (slS l) := .sl _ _ fun c hc => by obtain ⟨z, _, rfl⟩ := List.mem_map.1 hc; exact .agg _ (fun c hc => by simp at hc; rcases hc with rfl | rfl | rfl | rfl <;> exact .u _)
theorem setCs_map (l : List Rx) : (l.map encS).flatMap PV.cells = setCs l := by
  induction l with
  | nil => rfl
  | cons x l ih => rw [List.map_cons, List.flatMap_cons, ih]; rfl
theorem setsView {H : PHeap} {l : List Rx} {id vs : Nat} (h : RowAt H 28 4 l.length id vs (setCs l)) : View H (rowV l.length id vs) (slS l) := by
  unfold rowV
  split
  · rename_i h0
    have : l = [] := List.eq_nil_of_length_eq_zero h0
    subst this
    exact View.nil _ _ _
  · rename_i h0
    refine View.row (t := 28) (k := 4) (n := l.length) (cs := setCs l) (by simp [liveRow, h.2 h0]) (l.map encS) (by simp) (fun y hy => by obtain ⟨z, _, rfl⟩ := List.mem_map.1 hy; rfl) fun i p q h1 h2 => ?_
    rw [setCs_map] at h2
    rw [h1] at h2
    cases h2
    have hm := List.mem_of_getElem? h1
    unfold setCs at hm
    obtain ⟨x, _, hx⟩ := List.mem_flatMap.1 hm
    refine View.noP ?_
    simp at hx
    rcases hx with rfl | rfl | rfl | rfl <;> exact .u _

set_option maxRecDepth 20000 in
theorem First_ok (l : List Rx) : PCall Try.prog 16 [slX l] (· = slI (spFirst l)) := by
  refine PCall.intro' Try.func16 rfl Try.ntmps16 (by simp) fun W => ?_
  refine PC.seq fun K hK => ?_
  refine PC.region ?_
  repeat (refine PL.k rfl fun KK hKK => ?_; simp [go_sem, stepK]; refine hKK _ ?_; clear hKK KK)
  refine PL.done hK ?_; clear hK
  refine PC.seq fun K hK => ?_
  refine PC.seq fun K2 hK2 => ?_
  refine PC.region ?_
  repeat (refine PL.k rfl fun KK hKK => ?_; simp [go_sem, stepK]; refine hKK _ ?_; clear hKK KK)
  by_cases hl : checkL l = 0
  · refine PL.inl rfl rfl (over_in l _ hl) (by simp [go_sem]) (by simp [target, go_sem]) ?_
    rintro q H' ⟨vx, vs, vf, fc, a, b, p, rfl, hst, h0, h1, h2, h3, ha, hb⟩
    have ht : topS l = p := by unfold topS; rw [hst]; rfl
    repeat (refine PL.k rfl fun KK hKK => ?_; simp [go_sem, stepK]; refine hKK _ ?_; clear hKK KK)
    refine PL.done hK2 ?_; clear hK2
    refine PC.seq fun K2 hK2 => ?_
    refine PC.region ?_
    repeat (refine PL.k rfl fun KK hKK => ?_; simp [go_sem, stepK, h0]; refine hKK _ ?_; clear hKK KK)
    refine PL.done hK2 ?_; clear hK2
    refine PC.condT (by simp [go_sem, h0]) ?_
    refine PC.seq fun K hK => ?_
    refine PC.region ?_
    repeat (refine PL.k rfl fun KK hKK => ?_; simp [go_sem, stepK, h0]; refine hKK _ ?_; clear hKK KK)
    refine PL.done hK ?_; clear hK
    refine PC.ret ?_
    refine ⟨.inr rfl, a, slI (spFirst l), ?_, ?_, ?_, rfl⟩
    · simp [resP, resP1, Try.results16, go_sem]
    · rw [show spFirst l = p.first by unfold spFirst; rw [if_pos hl, ht]]; exact ha.view _
    · exact noP_slI _
  · refine PL.inl rfl rfl (over_bad l _ hl) (by simp [go_sem]) (by simp [target, go_sem]) ?_
    rintro q H' rfl
    repeat (refine PL.k rfl fun KK hKK => ?_; simp [go_sem, stepK]; refine hKK _ ?_; clear hKK KK)
    refine PL.done hK2 ?_; clear hK2
    refine PC.seq fun K2 hK2 => ?_
    refine PC.region ?_
    repeat (refine PL.k rfl fun KK hKK => ?_; simp [go_sem, stepK]; refine hKK _ ?_; clear hKK KK)
    refine PL.done hK2 ?_; clear hK2
    refine PC.condF (by simp [go_sem]) ?_
    refine PC.skip (hK _ _ ?_); clear hK
    refine PC.seq fun K hK => ?_
    refine PC.region ?_
    repeat (refine PL.k rfl fun KK hKK => ?_; simp [go_sem, stepK]; refine hKK _ ?_; clear hKK KK)
    refine PL.done hK ?_; clear hK
    refine PC.ret ?_
    refine ⟨.inr rfl, .u (.slice none 0 0), slI (spFirst l), ?_, ?_, ?_, rfl⟩
    · simp [resP, resP1, Try.results16, go_sem]
    · rw [show slI (spFirst l) = .sl 1 [] by unfold spFirst; rw [if_neg hl]; rfl]; exact View.nil _ _ _
    · rw [show slI (spFirst l) = .sl 1 [] by unfold spFirst; rw [if_neg hl]; rfl]; exact .sl _ _ fun c hc => by cases hc
set_option maxRecDepth 20000 in
theorem Last_ok (l : List Rx) : PCall Try.prog 18 [slX l] (· = slI (spLast l)) := by
  refine PCall.intro' Try.func18 rfl Try.ntmps18 (by simp) fun W => ?_
  refine PC.seq fun K hK => ?_
  refine PC.region ?_
  repeat (refine PL.k rfl fun KK hKK => ?_; simp [go_sem, stepK]; refine hKK _ ?_; clear hKK KK)
  refine PL.done hK ?_; clear hK
  refine PC.seq fun K hK => ?_
  refine PC.seq fun K2 hK2 => ?_
  refine PC.region ?_
  repeat (refine PL.k rfl fun KK hKK => ?_; simp [go_sem, stepK]; refine hKK _ ?_; clear hKK KK)
  by_cases hl : checkL l = 0
  · refine PL.inl rfl rfl (over_in l _ hl) (by simp [go_sem]) (by simp [target, go_sem]) ?_
    rintro q H' ⟨vx, vs, vf, fc, a, b, p, rfl, hst, h0, h1, h2, h3, ha, hb⟩
    have ht : topS l = p := by unfold topS; rw [hst]; rfl
    repeat (refine PL.k rfl fun KK hKK => ?_; simp [go_sem, stepK]; refine hKK _ ?_; clear hKK KK)
    refine PL.done hK2 ?_; clear hK2
    refine PC.seq fun K2 hK2 => ?_
    refine PC.region ?_
    repeat (refine PL.k rfl fun KK hKK => ?_; simp [go_sem, stepK, h0]; refine hKK _ ?_; clear hKK KK)
    refine PL.done hK2 ?_; clear hK2
    refine PC.condT (by simp [go_sem, h0]) ?_
    refine PC.seq fun K hK => ?_
    refine PC.region ?_
    repeat (refine PL.k rfl fun KK hKK => ?_; simp [go_sem, stepK, h0]; refine hKK _ ?_; clear hKK KK)
    refine PL.done hK ?_; clear hK
    refine PC.ret ?_
    refine ⟨.inr rfl, b, slI (spLast l), ?_, ?_, ?_, rfl⟩
    · simp [resP, resP1, Try.results18, go_sem]
    · rw [show spLast l = p.last by unfold spLast; rw [if_pos hl, ht]]; exact hb.view _
    · exact noP_slI _
  · refine PL.inl rfl rfl (over_bad l _ hl) (by simp [go_sem]) (by simp [target, go_sem]) ?_
    rintro q H' rfl
    repeat (refine PL.k rfl fun KK hKK => ?_; simp [go_sem, stepK]; refine hKK _ ?_; clear hKK KK)
    refine PL.done hK2 ?_; clear hK2
    refine PC.seq fun K2 hK2 => ?_
    refine PC.region ?_
    repeat (refine PL.k rfl fun KK hKK => ?_; simp [go_sem, stepK]; refine hKK _ ?_; clear hKK KK)
    refine PL.done hK2 ?_; clear hK2
    refine PC.condF (by simp [go_sem]) ?_
    refine PC.skip (hK _ _ ?_); clear hK
    refine PC.seq fun K hK => ?_
    refine PC.region ?_
    repeat (refine PL.k rfl fun KK hKK => ?_; simp [go_sem, stepK]; refine hKK _ ?_; clear hKK KK)
    refine PL.done hK ?_; clear hK
    refine PC.ret ?_
    refine ⟨.inr rfl, .u (.slice none 0 0), slI (spLast l), ?_, ?_, ?_, rfl⟩
    · simp [resP, resP1, Try.results18, go_sem]
    · rw [show slI (spLast l) = .sl 1 [] by unfold spLast; rw [if_neg hl]; rfl]; exact View.nil _ _ _
    · rw [show slI (spLast l) = .sl 1 [] by unfold spLast; rw [if_neg hl]; rfl]; exact .sl _ _ fun c hc => by cases hc
set_option maxRecDepth 20000 in
theorem Sets_ok (l : List Rx) : PCall Try.prog 13 [slX l] (· = slS (spSets l)) := by
  refine PCall.intro' Try.func13 rfl Try.ntmps13 (by simp) fun W => ?_
  refine PC.seq fun K hK => ?_
  refine PC.region ?_
  repeat (refine PL.k rfl fun KK hKK => ?_; simp [go_sem, stepK]; refine hKK _ ?_; clear hKK KK)
  refine PL.done hK ?_; clear hK
  refine PC.seq fun K hK => ?_
  refine PC.seq fun K2 hK2 => ?_
  refine PC.region ?_
  repeat (refine PL.k rfl fun KK hKK => ?_; simp [go_sem, stepK]; refine hKK _ ?_; clear hKK KK)
  by_cases hl : checkL l = 0
  · refine PL.inl rfl rfl (over_in l _ hl) (by simp [go_sem]) (by simp [target, go_sem]) ?_
    rintro q H' ⟨vx, vs, vf, fc, a, b, p, rfl, hst, h0, h1, h2, h3, ha, hb⟩
    have ht : topS l = p := by unfold topS; rw [hst]; rfl
    repeat (refine PL.k rfl fun KK hKK => ?_; simp [go_sem, stepK]; refine hKK _ ?_; clear hKK KK)
    refine PL.done hK2 ?_; clear hK2
    refine PC.seq fun K2 hK2 => ?_
    refine PC.region ?_
    repeat (refine PL.k rfl fun KK hKK => ?_; simp [go_sem, stepK, h0]; refine hKK _ ?_; clear hKK KK)
    refine PL.done hK2 ?_; clear hK2
    refine PC.condT (by simp [go_sem, h0]) ?_
    refine PC.seq fun K hK => ?_
    refine PC.region ?_
    repeat (refine PL.k rfl fun KK hKK => ?_; simp [go_sem, stepK, h0]; refine hKK _ ?_; clear hKK KK)
    refine PL.done hK ?_; clear hK
    refine PC.ret ?_
    refine ⟨.inr rfl, rowV (runS l).sets.length 3 vs, slS (spSets l), ?_, ?_, ?_, rfl⟩
    · simp [resP, resP1, Try.results13, go_sem]
    · rw [show spSets l = (runS l).sets by unfold spSets; rw [if_pos hl]]; exact setsView h1
    · exact slS_noP _
  · refine PL.inl rfl rfl (over_bad l _ hl) (by simp [go_sem]) (by simp [target, go_sem]) ?_
    rintro q H' rfl
    repeat (refine PL.k rfl fun KK hKK => ?_; simp [go_sem, stepK]; refine hKK _ ?_; clear hKK KK)
    refine PL.done hK2 ?_; clear hK2
    refine PC.seq fun K2 hK2 => ?_
    refine PC.region ?_
    repeat (refine PL.k rfl fun KK hKK => ?_; simp [go_sem, stepK]; refine hKK _ ?_; clear hKK KK)
    refine PL.done hK2 ?_; clear hK2
    refine PC.condF (by simp [go_sem]) ?_
    refine PC.skip (hK _ _ ?_); clear hK
    refine PC.seq fun K hK => ?_
    refine PC.region ?_
    repeat (refine PL.k rfl fun KK hKK => ?_; simp [go_sem, stepK]; refine hKK _ ?_; clear hKK KK)
    refine PL.done hK ?_; clear hK
    refine PC.ret ?_
    refine ⟨.inr rfl, .u (.slice none 0 0), slS (spSets l), ?_, ?_, ?_, rfl⟩
    · simp [resP, resP1, Try.results13, go_sem]
    · rw [show slS (spSets l) = .sl 4 [] by unfold slS spSets; rw [if_neg hl]; rfl]; exact View.nil _ _ _
    · rw [show slS (spSets l) = .sl 4 [] by unfold slS spSets; rw [if_neg hl]; rfl]; exact .sl _ _ fun c hc => by cases hc
end Go.Proofs.Ytficeeaaaijgcaa
