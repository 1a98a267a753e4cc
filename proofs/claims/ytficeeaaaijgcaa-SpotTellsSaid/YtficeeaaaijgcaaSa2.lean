/-
  The law SpotTells over pure values.
-/
import Derived.Test.YtficeeaaaijgcaaSa1
import Derived.Test.YtficeeaaaijgcaaLp
namespace Go.Proofs.Ytficeeaaaijgcaa
open Go Go.RowKit L
set_option linter.unusedVariables false
set_option linter.unusedSimpArgs false

theorem sameInts_ok (l m : List Int) (hl : l.length ≤ 4000000) (hm : m.length ≤ 4000000) : PCall Try.prog 15 [slI l, slI m] (· = B (decide (l = m))) := fun Z w vs hz h => by
  obtain ⟨v, u, rfl, h1, h2⟩ := rpl2 h
  exact (ref9_SameInts_any v u l m w (rd_of (fun _ => rfl) h1) (rd_of (fun _ => rfl) h2) hl hm).mono fun e w' ⟨he, n, hw⟩ => ⟨_, _, he, rfl, .u _, .u _, by subst hw; exact below_drewN (Below.refl _ _) n⟩

/-- the chapter's example -/
def e0 : E := .cat (.star (.alt (.set 0 8589934592 0 0) (.set 0 17179869184 0 0))) (.set 0 34359738368 0 0)
theorem wf0 : WfX (post e0) e0 := ⟨by decide, rfl⟩
set_option maxRecDepth 100000 in
theorem read_ok : PCall Try.prog 58 [.u (.string { data := #[40, 97, 124, 98, 41, 42, 99] })] (· = .tup [slX (post e0), I 7, I 0]) :=
  funE_sound (P := Try.prog) (more := fun _ _ => none) (fun _ _ _ h => by cases h) mixed (fuel := 100000) (r := .ro (.tup [slX (post e0), I 7, I 0])) (by kernel_rfl)

section
variable {P : Program} {W : Env} {n : Nat} {F : PFrame} {H : PHeap} {o : Oper} {l : List Oper} {ops : Array Oper} {K : PFrame → PHeap → Prop}
/-- a call of a named function that is called just if a guard says so -/
theorem PL.callBg {f : FuncId} {args : Array Operand} {ts : Array TypeId} {qs : List PV} {p0 : PV} {j d : Nat} {want : Bool} (hg : o.guard = some (j, want)) (hj : (ops[j]?).bind (·.dst) = some d) (ho : o.op = .call ⟨.value (.func f), args, ts⟩) (hF : F d = .u (.bool want)) (hf : goBody P f = true) (hc : PCall P f qs (· = p0)) (hd : dstOk n o) (hn : ∀ p ∈ args.toList.map (evP F), NoP p) (hv : ViewL PHeap.empty (args.toList.map (evP F)) qs)
    (h : PL P W n ops l (F.put o.dst p0) H K) : PL P W n ops (o :: l) F H K :=
  PL.peg hg hj hF (PE.callB hd ho (target_func f args ts) hf hv hn hc fun p e => by subst e; exact h)
theorem PL.buildSliceRg {t e : TypeId} {k b len d : Nat} {z : Value} {parts : Array (Nat × Operand)} {ips : List (Nat × PV)} {ps : List PV} {j dj : Nat} {want : Bool} (hg : o.guard = some (j, want)) (hj : (ops[j]?).bind (·.dst) = some dj) (ho : o.op = .buildSlice t len parts) (hF : F dj = .u (.bool want)) (hd : o.dst = some d) (hdn : d < n) (ht : selem P t = some (e, k, b, z)) (hz : z.cells.toList.all Value.oneCell' = true) (hbig : len * k ≤ 16777216)
    (hp : (parts.toList.map fun x => (x.1, evP F x.2)) = ips) (hlit : litOk H k len ips = true) (hc : ips.map (·.2) = ps)
    (h : PL P W n ops l (F.put (some d) (.sl k ps)) H K) : PL P W n ops (o :: l) F H K := by
  subst hp; subst hc
  refine PL.peg hg hj hF (PE.quiet (by intro d' hd'; rw [hd] at hd'; cases hd'; exact hdn) (PQ.buildSlice ho ht hz hbig hlit) ?_)
  rw [hd]
  simpa only [List.map_map, Function.comp_def] using h
end

set_option maxRecDepth 20000 in
set_option maxHeartbeats 1000000 in
theorem knows10_ok : PCall Try.prog 12 [] (· = B true) := by
  have h0 := sp_of wf0
  have s1 : spSets (post e0) = setsT e0 := h0.1
  have s2 : spFirst (post e0) = [0, 1, 2] := h0.2.1.trans (by decide)
  have s3 : spLast (post e0) = [2] := h0.2.2.1.trans (by decide)
  have s4 : spFree (post e0) = false := h0.2.2.2.1.trans (by decide)
  have s5 : spFollow (post e0) 0 = [0, 1, 2] := (h0.2.2.2.2 0).trans (by decide)
  have c1 := Sets_ok (post e0)
  have c2 := First_ok (post e0)
  have c3 := Last_ok (post e0)
  have c4 := Free_ok (post e0)
  have c5 := Follow_ok (post e0) 0
  rw [s1] at c1; rw [s2] at c2; rw [s3] at c3; rw [s4] at c4; rw [s5] at c5
  have nX := slX_noP (post e0)
  refine PCall.intro' Try.func12 rfl Try.ntmps12 (by simp) fun W => ?_
  refine PC.seq fun K hK => ?_
  refine PC.region ?_
  repeat (refine PL.k rfl fun KK hKK => ?_; simp [go_sem, stepK]; refine hKK _ ?_; clear hKK KK)
  refine PL.done hK ?_; clear hK
  refine PC.seq fun K hK => ?_
  refine PC.region ?_
  refine PL.callB (qs := [.u (.string { data := #[40, 97, 124, 98, 41, 42, 99] })]) rfl rfl (by kernel_rfl) read_ok (by simp [go_sem]) ?_ ?_ ?_
  · simp [go_sem]
  · simp [go_sem]
  generalize hl : post e0 = l0 at *
  repeat (refine PL.k rfl fun KK hKK => ?_; simp [go_sem, stepK]; refine hKK _ ?_; clear hKK KK)
  refine PL.done hK ?_; clear hK
  refine PC.seq fun K hK => ?_
  refine PC.region ?_
  repeat (refine PL.k rfl fun KK hKK => ?_; simp [go_sem, stepK]; refine hKK _ ?_; clear hKK KK)
  refine PL.callB (qs := [slX l0]) rfl rfl (by kernel_rfl) c1 (by simp [go_sem]) ?_ ?_ ?_
  · simp [go_sem, nX]
  · simp [go_sem, nX]
  have hlen : ∀ H, lenP Try.prog H 24 (slS (setsT e0)) = some (I 3) := fun H => by simp [slS, go_sem, e0, setsT]
  repeat (refine PL.k rfl fun KK hKK => ?_; simp [go_sem, stepK, hlen]; refine hKK _ ?_; clear hKK KK)
  (refine PL.g rfl rfl fun KK hKK => ?_; simp (disch := omega) [go_sem, L.stepG]; refine hKK _ ?_; clear hKK KK)
  refine PL.callBg (qs := [slX l0]) rfl rfl rfl (by simp [go_sem]) (by kernel_rfl) c2 (by simp [go_sem]) ?_ ?_ ?_
  · simp [go_sem, nX]
  · simp [go_sem, nX]
  refine PL.buildSliceRg (d := 16) rfl rfl rfl (by simp [go_sem]) rfl (by simp) selem_30 rfl (by omega) (ips := [(0, I 0), (1, I 1), (2, I 2)]) (by simp [go_sem]) (by simp [litOk, go_sem, PV.cells, List.range, List.range.loop]) (ps := [I 0, I 1, I 2]) rfl ?_
  refine PL.callBg (qs := [slI [0, 1, 2], slI [0, 1, 2]]) rfl rfl rfl (by simp [go_sem]) (by kernel_rfl) (sameInts_ok _ _ (by simp) (by simp)) (by simp [go_sem]) ?_ ?_ ?_
  · simp [go_sem, noP_slI]
  · simp [go_sem, slI]
  repeat (refine PL.k rfl fun KK hKK => ?_; simp [go_sem, stepK]; refine hKK _ ?_; clear hKK KK)
  (refine PL.g rfl rfl fun KK hKK => ?_; simp (disch := omega) [go_sem, L.stepG]; refine hKK _ ?_; clear hKK KK)
  refine PL.callBg (qs := [slX l0]) rfl rfl rfl (by simp [go_sem]) (by kernel_rfl) c3 (by simp [go_sem]) ?_ ?_ ?_
  · simp [go_sem, nX]
  · simp [go_sem, nX]
  refine PL.buildSliceRg (d := 22) rfl rfl rfl (by simp [go_sem]) rfl (by simp) selem_30 rfl (by omega) (ips := [(0, I 2)]) (by simp [go_sem]) (by simp [litOk, go_sem, PV.cells, List.range, List.range.loop]) (ps := [I 2]) rfl ?_
  refine PL.callBg (qs := [slI [2], slI [2]]) rfl rfl rfl (by simp [go_sem]) (by kernel_rfl) (sameInts_ok _ _ (by simp) (by simp)) (by simp [go_sem]) ?_ ?_ ?_
  · simp [go_sem, noP_slI]
  · simp [go_sem, slI]
  repeat (refine PL.k rfl fun KK hKK => ?_; simp [go_sem, stepK]; refine hKK _ ?_; clear hKK KK)
  (refine PL.g rfl rfl fun KK hKK => ?_; simp (disch := omega) [go_sem, L.stepG]; refine hKK _ ?_; clear hKK KK)
  refine PL.callBg (qs := [slX l0, I 0]) rfl rfl rfl (by simp [go_sem]) (by kernel_rfl) c5 (by simp [go_sem]) ?_ ?_ ?_
  · simp [go_sem, nX]
  · simp [go_sem, nX]
  refine PL.buildSliceRg (d := 28) rfl rfl rfl (by simp [go_sem]) rfl (by simp) selem_30 rfl (by omega) (ips := [(0, I 0), (1, I 1), (2, I 2)]) (by simp [go_sem]) (by simp [litOk, go_sem, PV.cells, List.range, List.range.loop]) (ps := [I 0, I 1, I 2]) rfl ?_
  refine PL.callBg (qs := [slI [0, 1, 2], slI [0, 1, 2]]) rfl rfl rfl (by simp [go_sem]) (by kernel_rfl) (sameInts_ok _ _ (by simp) (by simp)) (by simp [go_sem]) ?_ ?_ ?_
  · simp [go_sem, noP_slI]
  · simp [go_sem, slI]
  repeat (refine PL.k rfl fun KK hKK => ?_; simp [go_sem, stepK]; refine hKK _ ?_; clear hKK KK)
  (refine PL.g rfl rfl fun KK hKK => ?_; simp (disch := omega) [go_sem, L.stepG]; refine hKK _ ?_; clear hKK KK)
  refine PL.callBg (qs := [slX l0]) rfl rfl rfl (by simp [go_sem]) (by kernel_rfl) c4 (by simp [go_sem]) ?_ ?_ ?_
  · simp [go_sem, nX]
  · simp [go_sem, nX]
  (refine PL.g rfl rfl fun KK hKK => ?_; simp (disch := omega) [go_sem, L.stepG]; refine hKK _ ?_; clear hKK KK)
  repeat (refine PL.k rfl fun KK hKK => ?_; simp [go_sem, stepK]; refine hKK _ ?_; clear hKK KK)
  refine PL.done hK ?_; clear hK
  refine PC.ret ?_
  refine fin (.inr rfl) ?_ (.u _)
  simp [resP, resP1, Try.results12, go_sem]
end Go.Proofs.Ytficeeaaaijgcaa
