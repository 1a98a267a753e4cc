/-
  More of the logic: contracts of functions that share their caller's heap; a slice cut short; a region with moves ahead and the rest in whatever order.
-/
import Derived.Test.YtficeeaaaijgcaaLp
namespace Go.Proofs.Ytficeeaaaijgcaa.L
open Go Go.RowKit
set_option linter.unusedVariables false
set_option linter.unusedSimpArgs false
section
variable {P : Program} {W : Env} {n : Nat} {H : PHeap} {F : PFrame}

/-- a contract on the caller's own heap -/
def PIn (P : Program) (f : FuncId) (as : List PV) (H : PHeap) (R : PV → PHeap → Prop) : Prop :=
  ∃ fn c, P.funcs[f]? = some fn ∧ fn.body = some c ∧ as.length ≤ fn.ntmps ∧ goBody P f = true ∧
    ∀ W : Env, PC P W fn.ntmps c (frame0 as) H fun e F' H' => (e = .normal ∨ e = .ret) ∧ ∃ q, resP P fn F' H' = some q ∧ R q H'
theorem PIn.intro {f : FuncId} {fn : Func} {c : Code} {m : Nat} {as : List PV} {R : PV → PHeap → Prop} (hf : P.funcs[f]? = some fn) (hb : fn.body = some c) (hn : fn.ntmps = m) (hl : as.length ≤ m) (hg : goBody P f = true)
    (h : ∀ W : Env, PC P W m c (frame0 as) H fun e F' H' => (e = .normal ∨ e = .ret) ∧ ∃ q, resP P fn F' H' = some q ∧ R q H') : PIn P f as H R := by
  subst hn
  exact ⟨fn, c, hf, hb, hl, hg, h⟩
theorem PIn.mono {f : FuncId} {as : List PV} {R R' : PV → PHeap → Prop} (h : PIn P f as H R) (hr : ∀ q H', R q H' → R' q H') : PIn P f as H R' := by
  obtain ⟨fn, c, h1, h2, h3, h4, h5⟩ := h
  exact ⟨fn, c, h1, h2, h3, h4, fun W => (h5 W).mono fun e F' H' ⟨he, q, hq, hR⟩ => ⟨he, q, hq, hr q H' hR⟩⟩
theorem PE.inl {o : Oper} {c : Call} {as : List PV} {f : FuncId} {R : PV → PHeap → Prop} {k : PV → PHeap → Prop} (hc : PIn P f as H R) (hd : dstOk n o) (ho : o.op = .call c) (ht : target F c = some (f, as)) (hk : ∀ q H', R q H' → k q H') : PE P W n o F H k := by
  obtain ⟨fn, cb, h1, h2, h3, h4, h5⟩ := hc
  exact PE.inline hd ho ht h4 h1 h2 h3 fun W' => (h5 W').mono fun e F' H' ⟨he, q, hq, hR⟩ => ⟨he, q, hq, hk q H' hR⟩
theorem PL.inl {ops : Array Oper} {o : Oper} {l : List Oper} {K : PFrame → PHeap → Prop} {c : Call} {as : List PV} {f : FuncId} {R : PV → PHeap → Prop} (hg : o.guard = none) (ho : o.op = .call c) (hc : PIn P f as H R) (hd : dstOk n o) (ht : target F c = some (f, as))
    (h : ∀ q H', R q H' → PL P W n ops l (F.put o.dst q) H' K) : PL P W n ops (o :: l) F H K := PL.pe hg (PE.inl hc hd ho ht h)

/-- 's[:m]', s of the call's own -/
theorem PE.trunc {o : Oper} {t e : TypeId} {x y : Operand} {d id ver k m j : Nat} {kd : IntKind} {cs : List PV} {K : PV → PHeap → Prop} (ho : o.op = .slice t x none (some y) none) (hd : o.dst = some d) (hdn : d < n) (ht : esz P t = some k) (hx : evP F x = .ps id ver) (hl : liveRow H id ver = some (e, k, m, cs)) (hy : evP F y = .u (.int kd (j : Int))) (hj : j ≤ m)
    (hk : K (.ps id (ver + 1)) (H.set id ⟨ver + 1, some (.row e k j (cs.take (j * k)))⟩)) : PE P W n o F H K := fun V a w hr => by
  obtain ⟨e', ti, hu, hti, rfl⟩ := esz_spec ht
  obtain ⟨hb, hve⟩ := liveRow_spec hl
  have hxv : a.eval x = V id := by
    have := Rp.eval (P := P) (F := F) (a := a) (Z := W.Z) (H := H) (V := V) (w := w) x fun t _ => hr.slot t
    rw [hx] at this
    generalize a.eval x = q at this
    cases this with
    | ps _ _ _ hvv hh => exact hh (by rw [hb]; rfl) hve
  have hyv : a.eval y = .int kd j := by
    have := Rp.eval (P := P) (F := F) (a := a) (Z := W.Z) (H := H) (V := V) (w := w) y fun t _ => hr.slot t
    rw [hy] at this; generalize a.eval y = q at this; cases this; rfl
  obtain ⟨vals, hown, hR, h1⟩ := hr.heap.row id e _ m cs hb
  have key : ∃ v', (execOp a.eval o).run P w = .ok (.value v') w ∧ w.ownsRow W.w.heap.size e ti.size v' j (vals.take (j * ti.size)) ∧ blockOf v' = blockOf (V id) := by
    have hlen : (vals.take (j * ti.size)).length = j * ti.size := by
      rw [List.length_take, hown.1]
      exact Nat.min_eq_left (Nat.mul_le_mul_right _ hj)
    rcases hown.2 with ⟨e1, rfl⟩ | ⟨g, cap, cur, e1, hg, hh, hcap, hmax, hsz, htake⟩
    · have hj0 : j = 0 := by omega
      subst hj0
      refine ⟨.slice none 0 0, ?_, ⟨hlen, .inl ⟨rfl, rfl⟩⟩, by rw [e1]⟩
      have hbd := run_sliceBounds (P := P) (w := w) (isS := true) (len := 0) (cap := 0) (l := 0) (h := 0) (lo := none) (hi := some (.int kd (0 : Nat))) (.inl ⟨rfl, rfl⟩) (.inr ⟨kd, _, rfl, by simp, by simp⟩) (Nat.le_refl _) (Nat.le_refl _)
      simp only [execOp, ho]
      simp [hxv, hyv, e1, Instr.sliceAt, Instr.slice, run_underlying hu, hbd, sizeOf, typeInfo, hti] at hbd ⊢
    · refine ⟨.slice (some ⟨g, 0, none⟩) j cap, ?_, ⟨hlen, .inr ⟨g, cap, cur, rfl, hg, hh, by omega, hmax, hsz, ?_⟩⟩, by rw [e1]; rfl⟩
      · have hbd := run_sliceBounds (P := P) (w := w) (isS := true) (len := m) (cap := cap) (l := 0) (h := j) (lo := none) (hi := some (.int kd (j : Nat))) (.inl ⟨rfl, rfl⟩) (.inr ⟨kd, _, rfl, by simp, by simp⟩) (Nat.zero_le _) (by omega)
        simp only [execOp, ho]
        simp [hxv, hyv, e1, Instr.sliceAt, Instr.slice, run_underlying hu, hbd, sizeOf, typeInfo, hti]
        by_cases hc : cap = 0
        · simp [hc]
        · simp [hc, addr_add]
      · rw [← htake, List.take_take, Nat.min_eq_left (Nat.mul_le_mul_right _ hj)]
  obtain ⟨v', hrun, hown', hblk⟩ := key
  have hturn : Turn W H V w id ⟨ver + 1, some (.row e ti.size j (cs.take (j * ti.size)))⟩ v' w := by
    refine ⟨hr.heap.below, Nat.le_refl _, fun _ _ _ => rfl, fun g hg => .inr ⟨by rw [hb]; rfl, by rw [← hblk]; exact hg⟩, .inl (by show (H id).ver < ver + 1; omega)⟩
  refine wp_value hrun ⟨_, _, setV V id v', hk, ?_⟩
  rw [hd]
  refine hr.turn hturn (fun bd hbd => ?_) (some d) (fun t ht => by cases ht; exact hdn) ?_
  · cases hbd
    refine ⟨_, hown', ⟨by simp [hR.1], fun i p v h3 h4 => ?_⟩, fun u hu' => h1 u (List.mem_of_mem_take hu')⟩
    rw [List.getElem?_take] at h3 h4
    split at h3
    · rename_i hi
      rw [if_pos hi] at h4
      exact hturn.rp (hR.2 i p v h3 h4)
    · cases h3
  · refine .ps _ _ _ ?_ fun _ _ => ?_
    · simp [PHeap.set]
    · simp [setV]

/-! whatever order -/
def PA (P : Program) (W : Env) (n : Nat) (ops : Array Oper) (K : PFrame → PHeap → Prop) : Nat → Array Bool → PFrame → PHeap → Prop
  | 0, listed, F, H => Region.ready .any ops listed = [] ∧ K F H
  | fuel + 1, listed, F, H =>
    (Region.ready .any ops listed = [] → K F H) ∧
    ∀ i ∈ Region.ready .any ops listed, ∃ o, ops[i]? = some o ∧ wantedP ops o F = some true ∧ PE P W n o F H fun p H' => PA P W n ops K fuel (listed.setIfInBounds i true) (F.put o.dst p) H'

theorem PA.sound {ops : Array Oper} {K : PFrame → PHeap → Prop} {Q' : Exit → Act → World → Prop} (hQ : ∀ F H V a w, K F H → Rel P W n F H V a w → Q' .normal a w) : ∀ (fuel : Nat) (listed : Array Bool) (F : PFrame) (H : PHeap) (V : Nat → Value) (a : Act) (w : World), Rel P W n F H V a w → PA P W n ops K fuel listed F H → wpAny P .any ops Q' fuel listed a w
  | 0, _, _, _, _, _, _, hr, h => ⟨h.1, hQ _ _ _ _ _ h.2 hr⟩
  | fuel + 1, listed, F, H, V, a, w, hr, h => ⟨fun h0 => hQ _ _ _ _ _ (h.1 h0) hr, fun i hi => by
    obtain ⟨o, ho, hw, hpe⟩ := h.2 i hi
    unfold wpOp
    simp only [ho]
    rw [wantedP_sound hw hr.slot]
    simp only [if_true]
    exact .inl (wp_post (hpe V a w hr) fun a' w' ⟨p, H', V', hk, hr'⟩ => PA.sound hQ fuel _ _ _ _ _ _ hr' hk)⟩

theorem PC.regionA {id : Nat} {l : List Oper} {Q : Exit → PFrame → PHeap → Prop} (hm : P.follows .mixedOrders = true) (h : PA P W n l.toArray (Q .normal) l.length (Array.replicate l.length false) F H) : PC P W n (.region id l.toArray true) F H Q := fun V a w Q' hr hQ => by
  refine wp_region_any hm ?_
  have := PA.sound (Q' := Q') (fun F H V a w hk hr => hQ _ _ _ _ _ _ hk hr) l.length (Array.replicate l.length false) F H V a _ hr.drawn h
  simpa using this
end
end Go.Proofs.Ytficeeaaaijgcaa.L
