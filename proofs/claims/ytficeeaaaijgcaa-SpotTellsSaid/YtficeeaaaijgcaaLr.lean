/-
  Regions whose first operations only move values: these may be taken first; then a tail in one order, or whatever order.
-/
import Derived.Test.YtficeeaaaijgcaaLq
namespace Go.Proofs.Ytficeeaaaijgcaa.L
open Go Go.RowKit
set_option linter.unusedVariables false
set_option linter.unusedSimpArgs false
section
variable {P : Program} {W : Env} {n : Nat} {H : PHeap} {ops : Array Oper}

def isMove (o : Oper) : Bool := o.guard.isNone && (match o.op with | .move _ => true | .assign _ => true | _ => false)
def moveOf (o : Oper) (F : PFrame) : PFrame := match o.op with
  | .move x | .assign x => F.put o.dst (evP F x)
  | _ => F
def movesF (l : List Oper) (F : PFrame) : PFrame := l.foldl (fun F o => moveOf o F) F
def markL : List Oper → Nat → Array Bool → Array Bool
  | [], _, a => a
  | _ :: l, k, a => markL l (k + 1) (a.setIfInBounds k true)
/-- the first operations, one behind the other, are moves that may come up then -/
def movesB (ops : Array Oper) : List Oper → Nat → Array Bool → Bool
  | [], _, _ => true
  | o :: l, k, listed => isMove o && (Region.ready .any ops listed).contains k && Region.free .any ops listed k && movesB ops l (k + 1) (listed.setIfInBounds k true)

theorem moves_first {Q : Exit → Act → World → Prop} (hQ : ∀ c a w, ¬ Q (.panic c) a w) (hsel : Region.noSelect ops = true) {V : Nat → Value} {w : World} : ∀ (l : List Oper) (k fuel : Nat) (listed : Array Bool) (F : PFrame) (a : Act), (∀ j, j < l.length → l[j]? = ops[k + j]?) → (∀ o ∈ l, dstOk n o) → movesB ops l k listed = true → Rel P W n F H V a w →
    (∀ a', Rel P W n (movesF l F) H V a' w → wpAny P .any ops Q fuel (markL l k listed) a' w) → wpAny P .any ops Q (l.length + fuel) listed a w
  | [], k, fuel, listed, F, a, _, _, _, hr, h => by have h2 := h a hr; simpa [markL, movesF] using h2
  | o :: l, k, fuel, listed, F, a, hl, hd, hB, hr, h => by
    have h0 : ops[k]? = some o := by simpa using (hl 0 (by simp)).symm
    simp only [movesB, Bool.and_eq_true] at hB
    obtain ⟨⟨⟨hm, hrd⟩, hf⟩, hB'⟩ := hB
    simp only [isMove, Bool.and_eq_true] at hm
    have hmv : ∃ x, (o.op = .move x ∨ o.op = .assign x) ∧ moveOf o F = F.put o.dst (evP F x) := by
      have h2 := hm.2
      split at h2
      · rename_i x hx; exact ⟨x, .inl hx, by unfold moveOf; rw [hx]⟩
      · rename_i x hx; exact ⟨x, .inr hx, by unfold moveOf; rw [hx]⟩
      · cases h2
    obtain ⟨x, hx, hmo⟩ := hmv
    have hy : Yields P ops o (a.eval x) a := by
      refine .inl ⟨by unfold Region.wanted; cases hg : o.guard with | none => rfl | some g => rw [hg] at hm; simp at hm, fun w => ?_⟩
      unfold execOp
      rcases hx with hx | hx <;> rw [hx] <;> rfl
    rw [show (o :: l).length + fuel = (l.length + fuel) + 1 by simp; omega]
    refine wpAny_first h0 (Region.noSelect_spec hsel) (fun c a w hq => (hQ _ _ _ hq).elim) _ listed a w (Region.free_spec h0 hf) (by simpa using hrd) hy ?_
    refine moves_first hQ hsel l (k + 1) fuel _ (moveOf o F) _ (fun j hj => by have := hl (j + 1) (by simp; omega); simpa [Nat.add_assoc, Nat.add_comm 1 j] using this) (fun o' ho' => hd o' (by simp [ho'])) hB' ?_ h
    rw [hmo]
    exact hr.put (Below.refl _ _) o.dst (hd o (by simp)) (Rp.eval (P := P) x fun t _ => hr.slot t)

/-- what Q asks but no panic -/
def noPanic (Q : Exit → Act → World → Prop) : Exit → Act → World → Prop
  | .panic _, _, _ => False
  | e, a, w => Q e a w

theorem wpAny_mono {Q Q' : Exit → Act → World → Prop} (hq : ∀ e a w, Q e a w → Q' e a w) : ∀ (fuel : Nat) (listed : Array Bool) (a : Act) (w : World), wpAny P .any ops Q fuel listed a w → wpAny P .any ops Q' fuel listed a w
  | 0, _, _, _, h => ⟨h.1, hq _ _ _ h.2⟩
  | fuel + 1, listed, a, w, h => ⟨fun h0 => hq _ _ _ (h.1 h0), fun i hi => by
    have h1 := h.2 i hi
    unfold wpOp at *
    split
    · rename_i ho
      simp only [ho] at h1
      exact wpAny_mono hq fuel _ _ _ h1
    · rename_i o ho
      simp only [ho] at h1
      split
      · rename_i hw
        simp only [hw, if_true] at h1
        rcases h1 with h1 | ⟨h2, h3⟩
        · left
          unfold Oper.wp at *
          generalize (execOp a.eval o).run P w = r at *
          cases r with
          | ok nx w' =>
            cases nx <;> simp only [Oper.upon] at h1 ⊢
            case value u => exact wpAny_mono hq fuel _ _ _ h1
            case skip => exact wpAny_mono hq fuel _ _ _ h1
            case defer d => exact wpAny_mono hq fuel _ _ _ h1
            case enter f args =>
              refine h1.mono fun e w'' he => ?_
              cases e with
              | returned v => exact wpAny_mono hq fuel _ _ _ he
              | panicked c => exact hq _ _ _ he
              | outgrown => obtain ⟨a', w', hh⟩ := he; exact ⟨a', w', hq _ _ _ hh⟩
            case row row args => exact h1.mono fun v w'' he => wpAny_mono hq fuel _ _ _ he
          | halt x w' =>
            cases x <;> simp only [Oper.upon] at h1 ⊢
            exact hq _ _ _ h1
        · exact .inr ⟨h2, by obtain ⟨a', w', hh⟩ := h3; exact ⟨a', w', hq _ _ _ hh⟩⟩
      · rename_i hw
        simp only [hw] at h1
        exact wpAny_mono hq fuel _ _ _ h1⟩

/-- moves, then whatever order -/
theorem PC.regionMA {F : PFrame} {id : Nat} {l : List Oper} {Q : Exit → PFrame → PHeap → Prop} (p : Nat) (hm : P.follows .mixedOrders = true) (hp : p ≤ l.length) (hsel : Region.noSelect l.toArray = true) (hB : movesB l.toArray (l.take p) 0 (Array.replicate l.length false) = true) (hd : ∀ o ∈ l.take p, dstOk n o)
    (h : PA P W n l.toArray (Q .normal) (l.length - p) (markL (l.take p) 0 (Array.replicate l.length false)) (movesF (l.take p) F) H) : PC P W n (.region id l.toArray true) F H Q := fun V a w Q' hr hQ => by
  refine wp_region_any hm ?_
  refine wpAny_mono (Q := noPanic Q') (fun e a w h => by cases e <;> first | exact h | exact h.elim) _ _ _ _ ?_
  have := moves_first (P := P) (W := W) (n := n) (H := H) (V := V) (ops := l.toArray) (Q := noPanic Q') (fun c a w h => h) hsel (l.take p) 0 (l.length - p) (Array.replicate l.length false) F a (fun j hj => by
    have : j < p := by simp at hj; omega
    simp [this]) hd hB hr.drawn fun a' hr' => PA.sound (Q' := noPanic Q') (fun F H V a w hk hr => hQ _ _ _ _ _ _ hk hr) _ _ _ _ _ _ _ hr' h
  simpa [show min p l.length = p by omega, show p + (l.length - p) = l.length by omega] using this

/-! moves, then what only reads, then a tail -/
def sinkP (ops : Array Oper) (p m : Nat) : Bool := (List.range m).all fun i => decide (i < p) || (List.range (m + 1)).any fun j => decide (i < j) && Region.waitsFor .any ops j i

theorem tail_waitsP {p m : Nat} {listed : Array Bool} (hs : sinkP ops p m = true) (hc : Region.chainB .any ops m = true) (hn : m < ops.size) (inv : HeadInv .any ops m listed) :
    ∀ (d i : Nat), m - i = d → p ≤ i → i < m → listed.getD i true = false → ∀ t, m ≤ t → t ∉ Region.ready .any ops listed := by
  intro d
  induction d using Nat.strongRecOn with
  | _ d ih =>
    intro i hd hpi hi hun t ht hr
    obtain ⟨_, ot, hot, hall⟩ := mem_ready.1 hr
    have htlt : t < ops.size := (Array.getElem?_eq_some_iff.1 hot).1
    by_cases htn : t = m
    · subst htn
      have h1 := List.all_eq_true.1 hs i (List.mem_range.2 hi)
      simp only [Bool.or_eq_true, decide_eq_true_eq] at h1
      rcases h1 with h1 | h1
      · omega
      obtain ⟨j, hj, hj2⟩ := List.any_eq_true.1 h1
      simp only [Bool.and_eq_true, decide_eq_true_eq] at hj2
      obtain ⟨oj, hoj, e, he, hb, hon⟩ := Region.waitsFor_spec hj2.2
      have hjle : j ≤ t := by have := List.mem_range.1 hj; omega
      by_cases hjt : j = t
      · subst hjt
        have : oj = ot := Option.some.inj (hoj.symm.trans hot)
        subst this
        have h2 := hall e he hb
        rw [hon, getD_both hun] at h2
        cases h2
      · cases hl : listed.getD j false with
        | true =>
          have h2 := inv.closed j oj hoj hl e he hb
          rw [hon, getD_both hun] at h2
          cases h2
        | false =>
          have hjs : j < listed.size := by rw [inv.size]; omega
          exact ih (t - j) (by omega) j rfl (by omega) (by omega) (getD_in hjs hl) t (Nat.le_refl _) hr
    · have h1 := List.all_eq_true.1 hc t (List.mem_range.2 htlt)
      simp only [Bool.or_eq_true, decide_eq_true_eq] at h1
      rcases h1 with h1 | h1
      · omega
      · obtain ⟨o', ho', e, he, hb, hon⟩ := Region.waitsFor_spec h1
        have : o' = ot := Option.some.inj (ho'.symm.trans hot)
        subst this
        have h2 := hall e he hb
        rw [hon, getD_both (inv.tail (t - 1) (by omega) (by omega))] at h2
        cases h2

theorem wpAnyLP_first {p m i : Nat} {oi : Oper} {q : PV} {L : Array Bool → PFrame → Prop} (hi : ops[i]? = some oi)
    (hs : sinkP ops p m = true) (hc : Region.chainB .any ops m = true) (hn : m < ops.size) (hpi : p ≤ i) (hin : i < m)
    (hdone : ∀ listed F, L listed F → ∀ j ∈ Region.ready .any ops listed, m ≤ j) :
    ∀ (f : Nat) (listed : Array Bool) (F : PFrame), HeadInv .any ops m listed →
      (∀ j oj, ops[j]? = some oj → j ≠ i → listed.getD j true = false → (∀ e ∈ oj.after, Region.binds .any e = true → e.on ≠ i) → oi.apart ops oj = true) →
      i ∈ Region.ready .any ops listed → YieldsF P W n ops H oi q F →
      wpAnyLF P W n .any ops H m L f (listed.setIfInBounds i true) (F.put oi.dst q) → wpAnyLF P W n .any ops H m L (f + 1) listed F := by
  intro f
  induction f with
  | zero =>
    intro listed F inv _ hr hy Hh
    have hun := (mem_ready.1 hr).1
    refine ⟨fun h => (by rw [h] at hr; cases hr), fun j hj => ?_⟩
    have hjn : j < m := by
      rcases Nat.lt_or_ge j m with h | h
      · exact h
      · exact absurd hj (tail_waitsP hs hc hn inv _ i rfl hpi hin hun j h)
    refine ⟨hjn, ?_⟩
    by_cases hji : j = i
    · subst hji; exact hy.qOp hi Hh
    · have := hdone _ _ Hh j (ready_mono hj hji)
      omega
  | succ f ih =>
    intro listed F inv hfree hr hy Hh
    have hun := (mem_ready.1 hr).1
    refine ⟨fun h => (by rw [h] at hr; cases hr), fun j hj => ?_⟩
    have hjn : j < m := by
      rcases Nat.lt_or_ge j m with h | h
      · exact h
      · exact absurd hj (tail_waitsP hs hc hn inv _ i rfl hpi hin hun j h)
    refine ⟨hjn, ?_⟩
    by_cases hji : j = i
    · subst hji; exact hy.qOp hi Hh
    · have h1 := (Hh.2 j (ready_mono hj hji)).2
      obtain ⟨hjun, oj, hoj, hall⟩ := mem_ready.1 hj
      have hnot : ∀ e ∈ oj.after, Region.binds .any e = true → e.on ≠ i := fun e he hb heq => by
        have h1 := hall e he hb
        rw [heq, getD_both hun] at h1
        cases h1
      have h2 := qOpF_put hoj (hfree j oj hoj hji hjun hnot) hy h1
      have hfree' : ∀ k ok, ops[k]? = some ok → k ≠ i → (listed.setIfInBounds j true).getD k true = false →
          (∀ e ∈ ok.after, Region.binds .any e = true → e.on ≠ i) → oi.apart ops ok = true := fun k ok hk hki hun hno => by
        refine hfree k ok hk hki ?_ hno
        by_cases hjk : j = k
        · subst hjk; exact hjun
        · rw [getD_set_ne true hjk] at hun; exact hun
      refine qOpF_mono (fun F' h3 => ih (listed.setIfInBounds j true) F' (inv.set hj hjn) hfree' (ready_mono hr (Ne.symm hji)) h3.1 ?_) h2
      rw [Array.setIfInBounds_comm _ _ hji]
      exact h3.2

theorem wpAnyLP_lex {p m g : Nat} {Lq : PFrame → Prop} (hs : sinkP ops p m = true) (hc : Region.chainB .any ops m = true) (hn : m < ops.size) :
    ∀ (l : List Oper) (k : Nat) (listed : Array Bool) (F : PFrame), p ≤ k → (∀ j, j < l.length → l[j]? = ops[k + j]?) → k + l.length = m → HeadInv .any ops m listed →
      Region.lexHead .any ops g l.length k listed = true → wpQF P W n ops H Lq l F →
      wpAnyLF P W n .any ops H m (fun listed F => Region.seqB .any ops g m listed = true ∧ Lq F) l.length listed F
  | [], k, listed, F, _, _, hk, _, hB, h => by
    simp only [List.length_nil, Nat.add_zero] at hk
    subst hk
    exact ⟨by simpa [Region.lexHead] using hB, h⟩
  | o :: l, k, listed, F, hpk, hl, hk, inv, hB, h => by
    have h0 : ops[k]? = some o := by simpa using (hl 0 (by simp)).symm
    simp only [List.length_cons, Region.lexHead, Bool.and_eq_true] at hB
    obtain ⟨⟨hr, hf⟩, hB'⟩ := hB
    have hr' : k ∈ Region.ready .any ops listed := by simpa using hr
    have hkn : k < m := by simp only [List.length_cons] at hk; omega
    have hst : qOpF P W n ops H k (wpQF P W n ops H Lq l) F := by unfold qOpF; simp only [h0]; exact h
    obtain ⟨v, hy, hK⟩ := yieldsF_of_qOp h0 hst
    exact wpAnyLP_first h0 hs hc hn hpk hkn (fun listed F hL => seqB_ready hL.1) l.length listed F inv (Region.free_spec h0 hf) hr' hy
      (wpAnyLP_lex hs hc hn l (k + 1) _ _ (by omega) (fun j hj => by have := hl (j + 1) (by simp; omega); simpa [Nat.add_assoc, Nat.add_comm 1 j] using this) (by simp only [List.length_cons] at hk; omega) (inv.set hr' hkn) hB' hK)

theorem markL_inv {m : Nat} : ∀ (l : List Oper) (k : Nat) (listed : Array Bool), HeadInv .any ops m listed → movesB ops l k listed = true → k + l.length ≤ m → HeadInv .any ops m (markL l k listed)
  | [], _, _, inv, _, _ => inv
  | o :: l, k, listed, inv, hB, hk => by
    simp only [movesB, Bool.and_eq_true] at hB
    obtain ⟨⟨⟨_, hrd⟩, _⟩, hB'⟩ := hB
    simp only [List.length_cons] at hk
    exact markL_inv l (k + 1) _ (inv.set (by simpa using hrd) (by omega)) hB' (by omega)

/-- moves; what only reads; a tail in its one order -/
theorem PC.regionMT {F : PFrame} {id : Nat} {l : List Oper} {Q : Exit → PFrame → PHeap → Prop} (p m : Nat) (hm : P.follows .mixedOrders = true)
    (hB : (Region.noSelect l.toArray && decide (p ≤ m) && decide (m < l.length) && movesB l.toArray (l.take p) 0 (Array.replicate l.length false) && sinkP l.toArray p m && Region.chainB .any l.toArray m && Region.lexHead .any l.toArray (l.length - m) (m - p) p (markL (l.take p) 0 (Array.replicate l.length false))) = true)
    (hd : ∀ o ∈ l.take p, dstOk n o)
    (h : wpQF P W n l.toArray H (fun F' => PL P W n l.toArray (l.drop m) F' H (Q .normal)) ((l.take m).drop p) (movesF (l.take p) F)) : PC P W n (.region id l.toArray true) F H Q := fun V a w Q' hr hQ => by
  simp only [Bool.and_eq_true, decide_eq_true_eq] at hB
  obtain ⟨⟨⟨⟨⟨⟨hsel, hpm⟩, hml⟩, hmv⟩, hs⟩, hc⟩, hlex⟩ := hB
  refine wp_region_any hm ?_
  refine wpAny_mono (Q := noPanic Q') (fun e a w h => by cases e <;> first | exact h | exact h.elim) _ _ _ _ ?_
  have hlen2 : ((l.take m).drop p).length = m - p := by simp; omega
  have inv0 : HeadInv .any l.toArray m (Array.replicate l.length false) :=
    ⟨by simp, fun j oj _ hl => (by rw [getD_replicate_false] at hl; cases hl), fun t _ ht => getD_in (by simpa using ht) (getD_replicate_false _ _)⟩
  have inv1 := markL_inv (l.take p) 0 _ inv0 hmv (by simp; omega)
  have Hh := wpAnyLP_lex (P := P) (W := W) (n := n) (H := H) (ops := l.toArray) (g := l.length - m) hs hc (by simpa using hml) ((l.take m).drop p) p _ (movesF (l.take p) F) (Nat.le_refl _) (fun j hj => by
    rw [hlen2] at hj
    simp [show p + j < m by omega]) (by rw [hlen2]; omega) inv1 (by rw [hlen2]; exact hlex) h
  have := moves_first (P := P) (W := W) (n := n) (H := H) (V := V) (ops := l.toArray) (Q := noPanic Q') (fun c a w h => h) hsel (l.take p) 0 (l.length - p) (Array.replicate l.length false) F a (fun j hj => by
    have : j < p := by simp at hj; omega
    simp [this]) hd hmv hr.drawn fun a' hr' => by
      have h1 := wpAny_of_headF (md := .any) (Q' := noPanic Q') (g := l.length - m) (V := V) (fun listed F' a2 w2 hr2 hL => by
        have h2 := wpAny_of_seq (P := P) (md := .any) (Q' := noPanic Q') (l.drop m) m listed a2 w2 (fun j => by simp [List.getElem?_drop]) (by rw [show (l.drop m).length = l.length - m by simp]; exact hL.1) (hL.2 V a2 w2 (noPanic Q') hr2 fun F'' H'' V'' a'' w'' hk hr'' => hQ _ _ _ _ _ _ hk hr'')
        rwa [show (l.drop m).length = l.length - m by simp] at h2) _ _ _ _ _ hr' Hh
      rw [hlen2] at h1
      rwa [show m - p + (l.length - m) = l.length - p by omega] at h1
  simpa [show min p l.length = p by omega, show p + (l.length - p) = l.length by omega] using this
end
end Go.Proofs.Ytficeeaaaijgcaa.L
