/-
  Regions: operations that only read or make new memory, told by pure values, in whatever order the tape picks: one walk of the text's order serves every order.
-/
import Derived.Test.YtficeeaaaijgcaaLa
namespace Go.Proofs.Ytficeeaaaijgcaa.L
open Go Go.RowKit
set_option linter.unusedVariables false
set_option linter.unusedSimpArgs false
section
variable {P : Program} {W : Env} {n : Nat} {ops : Array Oper} {md : Region.Mode} {H : PHeap}

/-- o yields what p tells; nothing that was there turns -/
def PQ (P : Program) (W : Env) (o : Oper) (F : PFrame) (H : PHeap) (p : PV) : Prop :=
  ∀ (V : Nat → Value) (a : Act) (w : World), HRel P W H V w → (∀ t, Operand.tmp t ∈ o.op.operands → Rp W.Z H V w (F t) (a.tmps.getD t undef)) →
    o.wp P a w (fun a' w' => ∃ v, a' = a.put o.dst v ∧ Rp W.Z H V w' p v ∧ Below w.heap.size w w') (fun _ _ _ => False)

def wantedP (ops : Array Oper) (o : Oper) (F : PFrame) : Option Bool :=
  match o.guard with
  | none => some true
  | some (j, want) =>
    match (ops[j]?).bind (·.dst) with
    | none => none
    | some d =>
      match F d with
      | .u (.bool b) => some (b == want)
      | .u (.tuple _) => some false
      | _ => none

theorem wantedP_sound {o : Oper} {F : PFrame} {V : Nat → Value} {a : Act} {w : World} {b : Bool} (h : wantedP ops o F = some b) (hs : ∀ t, Rp W.Z H V w (F t) (a.tmps.getD t undef)) : Region.wanted o (yielded ops a.tmps) = b := by
  unfold wantedP at h
  unfold Region.wanted
  cases hg : o.guard with
  | none => rw [hg] at h; simpa using h
  | some gw =>
    obtain ⟨j, want⟩ := gw
    rw [hg] at h
    simp only at h ⊢
    cases hd : (ops[j]?).bind (·.dst) with
    | none => rw [hd] at h; cases h
    | some d =>
      rw [hd] at h
      simp only at h
      have hsd := hs d
      have hy : yielded ops a.tmps j = match a.tmps[d]? with | some (.bool b) => some b | _ => none := by
        unfold yielded; rw [hd]; rfl
      split at h
      · rename_i b' hF
        rw [hF] at hsd
        have : a.tmps.getD d undef = .bool b' := by generalize a.tmps.getD d undef = q at hsd; cases hsd; rfl
        have h2 : a.tmps[d]? = some (.bool b') := by
          rw [Array.getD_eq_getD_getElem?] at this
          cases hq : a.tmps[d]? with
          | none => rw [hq] at this; simp [undef] at this
          | some q => rw [hq] at this; simpa using this
        rw [hy, h2]
        simpa using h
      · rename_i vs hF
        rw [hF] at hsd
        have : a.tmps.getD d undef = .tuple vs := by generalize a.tmps.getD d undef = q at hsd; cases hsd; rfl
        have h2 : yielded ops a.tmps j = none := by
          rw [hy]
          rw [Array.getD_eq_getD_getElem?] at this
          cases hq : a.tmps[d]? with
          | none => rfl
          | some q => rw [hq] at this; simp at this; subst this; rfl
        rw [h2]
        simpa using h
      · cases h

def dstOk (n : Nat) (o : Oper) : Prop := ∀ t, o.dst = some t → t < n

def wpQF (P : Program) (W : Env) (n : Nat) (ops : Array Oper) (H : PHeap) (Q : PFrame → Prop) : List Oper → PFrame → Prop
  | [], F => Q F
  | o :: rest, F => dstOk n o ∧ ((wantedP ops o F = some true ∧ ∃ p, PQ P W o F H p ∧ wpQF P W n ops H Q rest (F.put o.dst p)) ∨ (wantedP ops o F = some false ∧ wpQF P W n ops H Q rest (F.put o.dst (.u undef))))

def qOpF (P : Program) (W : Env) (n : Nat) (ops : Array Oper) (H : PHeap) (i : Nat) (K : PFrame → Prop) (F : PFrame) : Prop :=
  match ops[i]? with
  | none => K F
  | some o => dstOk n o ∧ ((wantedP ops o F = some true ∧ ∃ p, PQ P W o F H p ∧ K (F.put o.dst p)) ∨ (wantedP ops o F = some false ∧ K (F.put o.dst (.u undef))))

theorem qOpF_mono {i : Nat} {F : PFrame} {K K' : PFrame → Prop} (h : ∀ F, K F → K' F) (hh : qOpF P W n ops H i K F) : qOpF P W n ops H i K' F := by
  unfold qOpF at *
  split
  · rename_i ho; simp only [ho] at hh; exact h _ hh
  · rename_i o ho
    simp only [ho] at hh
    obtain ⟨hd, ⟨hw, p, hp, hk⟩ | ⟨hw, hk⟩⟩ := hh
    · exact ⟨hd, .inl ⟨hw, p, hp, h _ hk⟩⟩
    · exact ⟨hd, .inr ⟨hw, h _ hk⟩⟩

def YieldsF (P : Program) (W : Env) (n : Nat) (ops : Array Oper) (H : PHeap) (o : Oper) (p : PV) (F : PFrame) : Prop :=
  dstOk n o ∧ ((wantedP ops o F = some true ∧ PQ P W o F H p) ∨ (wantedP ops o F = some false ∧ p = .u undef))

theorem YieldsF.qOp {i : Nat} {o : Oper} {p : PV} {F : PFrame} (hi : ops[i]? = some o) (hy : YieldsF P W n ops H o p F) {K : PFrame → Prop} (h : K (F.put o.dst p)) : qOpF P W n ops H i K F := by
  unfold qOpF
  simp only [hi]
  obtain ⟨hd, ⟨hw, hp⟩ | ⟨hw, rfl⟩⟩ := hy
  · exact ⟨hd, .inl ⟨hw, p, hp, h⟩⟩
  · exact ⟨hd, .inr ⟨hw, h⟩⟩

theorem yieldsF_of_qOp {i : Nat} {o : Oper} {F : PFrame} {K : PFrame → Prop} (hi : ops[i]? = some o) (h : qOpF P W n ops H i K F) : ∃ p, YieldsF P W n ops H o p F ∧ K (F.put o.dst p) := by
  unfold qOpF at h
  simp only [hi] at h
  obtain ⟨hd, ⟨hw, p, hp, hk⟩ | ⟨hw, hk⟩⟩ := h
  · exact ⟨p, ⟨hd, .inl ⟨hw, hp⟩⟩, hk⟩
  · exact ⟨_, ⟨hd, .inr ⟨hw, rfl⟩⟩, hk⟩

theorem PFrame.put_ne {F : PFrame} {d : Option Nat} {p : PV} {t : Nat} (h : d ≠ some t) : F.put d p t = F t := by simp [PFrame.put, h]

theorem looks_op {o : Oper} {t : Nat} (h : Operand.tmp t ∈ o.op.operands) : t ∈ o.looksAt ops :=
  List.mem_append_left _ (List.mem_filterMap.2 ⟨.tmp t, by simpa using h, rfl⟩)

theorem PQ_put {o : Oper} {F : PFrame} {d : Option Nat} {q p : PV} (h : ∀ t, d = some t → t ∉ o.looksAt ops) : PQ P W o (F.put d q) H p ↔ PQ P W o F H p := by
  have e : ∀ t, Operand.tmp t ∈ o.op.operands → F.put d q t = F t := fun t ht => PFrame.put_ne fun hd => h t hd (looks_op ht)
  constructor
  · intro hp V a w hr hs
    exact hp V a w hr fun t ht => by rw [e t ht]; exact hs t ht
  · intro hp V a w hr hs
    exact hp V a w hr fun t ht => by rw [← e t ht]; exact hs t ht

theorem wantedP_put {o : Oper} {F : PFrame} {d : Option Nat} {q : PV} (h : ∀ t, d = some t → t ∉ o.looksAt ops) : wantedP ops o (F.put d q) = wantedP ops o F := by
  unfold wantedP
  cases hg : o.guard with
  | none => rfl
  | some gw =>
    obtain ⟨j, want⟩ := gw
    simp only
    cases hd : (ops[j]?).bind (·.dst) with
    | none => rfl
    | some t =>
      have : F.put d q t = F t := PFrame.put_ne fun e => h t e (by simp [Oper.looksAt, hg, hd])
      simp only [this]

theorem YieldsF.put {o : Oper} {p : PV} {F : PFrame} {d : Option Nat} {q : PV} (hy : YieldsF P W n ops H o p F) (h : ∀ t, d = some t → t ∉ o.looksAt ops) : YieldsF P W n ops H o p (F.put d q) := by
  obtain ⟨hd, hh⟩ := hy
  refine ⟨hd, ?_⟩
  rw [wantedP_put h, PQ_put h]
  exact hh

theorem PFrame.put_comm (F : PFrame) {x y : Option Nat} (p q : PV) (h : ∀ d, x = some d → y ≠ some d) : (F.put x p).put y q = (F.put y q).put x p := by
  funext t
  simp only [PFrame.put]
  by_cases h1 : x = some t
  · by_cases h2 : y = some t
    · exact absurd h2 (h t h1)
    · simp [h1, h2]
  · by_cases h2 : y = some t <;> simp [h1, h2]

theorem qOpF_put {j : Nat} {oi oj : Oper} {p : PV} (hj : ops[j]? = some oj) (hap : oi.apart ops oj = true) {K : PFrame → Prop} {F : PFrame}
    (hy : YieldsF P W n ops H oi p F) (h : qOpF P W n ops H j K (F.put oi.dst p)) :
    qOpF P W n ops H j (fun F' => YieldsF P W n ops H oi p F' ∧ K (F'.put oi.dst p)) F := by
  obtain ⟨h1, h2, h3⟩ := Oper.apart_spec hap
  unfold qOpF at *
  simp only [hj] at *
  rw [wantedP_put h1] at h
  obtain ⟨hd, ⟨hw, q, hq, hk⟩ | ⟨hw, hk⟩⟩ := h
  · exact ⟨hd, .inl ⟨hw, q, (PQ_put h1).1 hq, hy.put h3, by rw [← PFrame.put_comm F p q h2]; exact hk⟩⟩
  · exact ⟨hd, .inr ⟨hw, hy.put h3, by rw [← PFrame.put_comm F p _ h2]; exact hk⟩⟩

def wpAnyF (P : Program) (W : Env) (n : Nat) (md : Region.Mode) (ops : Array Oper) (H : PHeap) (Q : PFrame → Prop) : Nat → Array Bool → PFrame → Prop
  | 0, listed, F => Region.ready md ops listed = [] ∧ Q F
  | fuel + 1, listed, F =>
    (Region.ready md ops listed = [] → Q F) ∧
    ∀ i ∈ Region.ready md ops listed, qOpF P W n ops H i (wpAnyF P W n md ops H Q fuel (listed.setIfInBounds i true)) F

/-- one operation of the model, told by pure values -/
theorem wpOp_of_qOpF {i : Nat} {F : PFrame} {V : Nat → Value} {a : Act} {w : World} {K : PFrame → Prop} {K' : Act → World → Prop} {Q' : Exit → Act → World → Prop} (hr : Rel P W n F H V a w)
    (h : ∀ F a w, Rel P W n F H V a w → K F → K' a w) (hh : qOpF P W n ops H i K F) : wpOp P ops Q' i K' a w := by
  unfold qOpF at hh
  unfold wpOp
  split
  · rename_i ho; simp only [ho] at hh; exact h _ _ _ hr hh
  · rename_i o ho
    simp only [ho] at hh
    obtain ⟨hd, ⟨hw, p, hp, hk⟩ | ⟨hw, hk⟩⟩ := hh
    · rw [wantedP_sound hw hr.slot]
      simp only [if_true]
      refine .inl ?_
      have h1 := hp V a w hr.heap (fun t _ => hr.slot t)
      unfold Oper.wp at *
      generalize (execOp a.eval o).run P w = r at *
      have key : ∀ a' w', (∃ v, a' = a.put o.dst v ∧ Rp W.Z H V w' p v ∧ Below w.heap.size w w') → K' a' w' := by
        rintro a' w' ⟨v, rfl, hv, hb⟩
        exact h _ _ _ (hr.put hb o.dst hd hv) hk
      cases r with
      | ok nx w' =>
        cases nx <;> simp only [Oper.upon] at h1 ⊢
        case value u => exact key _ _ h1
        case skip => exact key _ _ h1
        case defer d => exact key _ _ h1
        case enter f args =>
          refine h1.mono fun e w'' he => ?_
          cases e with
          | returned v => exact key _ _ he
          | panicked c => exact he.elim
          | outgrown => obtain ⟨_, _, hf⟩ := he; exact hf.elim
        case row row args =>
          exact h1.mono fun v w'' he => key _ _ he
      | halt x w' =>
        cases x <;> simp only [Oper.upon] at h1
    · rw [wantedP_sound hw hr.slot]
      simp only [Bool.false_eq_true, if_false]
      exact h _ _ _ (hr.put (Below.refl _ _) o.dst hd (.u _)) hk

theorem wpAny_of_F {V : Nat → Value} {Q : PFrame → Prop} {Q' : Exit → Act → World → Prop} (hQ : ∀ F a w, Rel P W n F H V a w → Q F → Q' .normal a w) : ∀ (fuel : Nat) (listed : Array Bool) (F : PFrame) (a : Act) (w : World), Rel P W n F H V a w →
    wpAnyF P W n md ops H Q fuel listed F → wpAny P md ops Q' fuel listed a w
  | 0, _, _, _, _, hr, h => ⟨h.1, hQ _ _ _ hr h.2⟩
  | fuel + 1, _, _, _, _, hr, h => ⟨fun h0 => hQ _ _ _ hr (h.1 h0), fun i hi => wpOp_of_qOpF hr (fun F' a' w' hr' hk => wpAny_of_F hQ fuel _ F' a' w' hr' hk) (h.2 i hi)⟩

theorem wpAnyF_first {Q : PFrame → Prop} {i : Nat} {oi : Oper} {p : PV} (hi : ops[i]? = some oi) :
    ∀ (fuel : Nat) (listed : Array Bool) (F : PFrame),
      (∀ j oj, ops[j]? = some oj → j ≠ i → listed.getD j true = false → (∀ e ∈ oj.after, Region.binds md e = true → e.on ≠ i) → oi.apart ops oj = true) →
      i ∈ Region.ready md ops listed → YieldsF P W n ops H oi p F →
      wpAnyF P W n md ops H Q fuel (listed.setIfInBounds i true) (F.put oi.dst p) → wpAnyF P W n md ops H Q (fuel + 1) listed F := by
  intro fuel
  induction fuel with
  | zero =>
    intro listed F _ hr hy Hh
    refine ⟨fun h => (by rw [h] at hr; cases hr), fun j hj => ?_⟩
    by_cases hji : j = i
    · subst hji; exact hy.qOp hi Hh
    · have := ready_mono hj hji
      rw [Hh.1] at this
      cases this
  | succ fuel ih =>
    intro listed F hfree hr hy Hh
    refine ⟨fun h => (by rw [h] at hr; cases hr), fun j hj => ?_⟩
    by_cases hji : j = i
    · subst hji; exact hy.qOp hi Hh
    · have h1 := Hh.2 j (ready_mono hj hji)
      obtain ⟨hjun, oj, hoj, hall⟩ := mem_ready.1 hj
      have hnot : ∀ e ∈ oj.after, Region.binds md e = true → e.on ≠ i := fun e he hb heq => by
        have h1 := hall e he hb
        have h0 := (mem_ready.1 hr).1
        rw [heq] at h1
        rcases Nat.lt_or_ge i listed.size with h' | h'
        · simp [h'] at h0 h1; rw [h0] at h1; cases h1
        · simp [Array.getElem?_eq_none h'] at h1
      have h2 := qOpF_put hoj (hfree j oj hoj hji hjun hnot) hy h1
      have hfree' : ∀ k ok, ops[k]? = some ok → k ≠ i → (listed.setIfInBounds j true).getD k true = false →
          (∀ e ∈ ok.after, Region.binds md e = true → e.on ≠ i) → oi.apart ops ok = true := fun k ok hk hki hun hno => by
        refine hfree k ok hk hki ?_ hno
        by_cases hjk : j = k
        · subst hjk; exact hjun
        · rw [getD_set_ne true hjk] at hun; exact hun
      refine qOpF_mono (fun F' h3 => ih (listed.setIfInBounds j true) F' hfree' (ready_mono hr (Ne.symm hji)) h3.1 ?_) h2
      rw [Array.setIfInBounds_comm _ _ hji]
      exact h3.2

theorem wpAnyF_lex {Q : PFrame → Prop} : ∀ (l : List Oper) (k : Nat) (listed : Array Bool) (F : PFrame), (∀ j, l[j]? = ops[k + j]?) →
    Region.lexFrom md ops l.length k listed = true → wpQF P W n ops H Q l F → wpAnyF P W n md ops H Q l.length listed F
  | [], _, _, _, _, hB, h => ⟨by simpa [Region.lexFrom] using hB, h⟩
  | o :: l, k, listed, F, hl, hB, h => by
    have h0 : ops[k]? = some o := by simpa using (hl 0).symm
    simp only [List.length_cons, Region.lexFrom, Bool.and_eq_true] at hB
    obtain ⟨⟨hr, hf⟩, hB'⟩ := hB
    have hst : qOpF P W n ops H k (wpQF P W n ops H Q l) F := by unfold qOpF; simp only [h0]; exact h
    obtain ⟨v, hy, hK⟩ := yieldsF_of_qOp h0 hst
    exact wpAnyF_first h0 l.length listed F (Region.free_spec h0 hf) (by simpa using hr) hy
      (wpAnyF_lex l (k + 1) _ _ (fun j => by have := hl (j + 1); simpa [Nat.add_assoc, Nat.add_comm 1 j] using this) hB' hK)

theorem Rel.drawn {F : PFrame} {V : Nat → Value} {a : Act} {w : World} (h : Rel P W n F H V a w) : Rel P W n F H V a { w with drawn := w.drawn + 1 } := by
  have hb : Below w.heap.size w { w with drawn := w.drawn + 1 } := ⟨rfl, rfl, rfl, Nat.le_refl _, fun _ _ => rfl⟩
  exact ⟨h.heap.grow hb, h.size, h.defers, fun t => (h.slot t).grow hb⟩

/-- a region of such operations, that draws its order -/
theorem region_quiet {id : Nat} {Q : Exit → Act → World → Prop} {F : PFrame} {V : Nat → Value} {a : Act} {w : World} {l : List Oper} (hr : Rel P W n F H V a w) (hm : P.follows .mixedOrders = true) (hB : Region.lexB .any l.toArray = true)
    (h : wpQF P W n l.toArray H (fun F' => ∀ a' w', Rel P W n F' H V a' w' → Q .normal a' w') l F) : (Code.region id l.toArray true).wp P Q a w := by
  simp only [Region.lexB, Bool.and_eq_true] at hB
  refine wp_region_any hm (wpAny_of_F (Q := fun F' => ∀ a' w', Rel P W n F' H V a' w' → Q .normal a' w') (fun _ _ _ hr' h => h _ _ hr') _ _ F _ _ hr.drawn ?_)
  have := wpAnyF_lex (P := P) (W := W) (n := n) (H := H) (md := .any) (ops := l.toArray) l 0 (Array.replicate l.toArray.size false) F (by simp) (by simpa using hB.2) h
  simpa using this

/-! a tail in one order -/
def wpAnyLF (P : Program) (W : Env) (n : Nat) (md : Region.Mode) (ops : Array Oper) (H : PHeap) (m : Nat) (L : Array Bool → PFrame → Prop) : Nat → Array Bool → PFrame → Prop
  | 0, listed, F => L listed F
  | f + 1, listed, F =>
    Region.ready md ops listed ≠ [] ∧ ∀ i ∈ Region.ready md ops listed, i < m ∧ qOpF P W n ops H i (wpAnyLF P W n md ops H m L f (listed.setIfInBounds i true)) F

theorem wpAny_of_headF {m g : Nat} {V : Nat → Value} {L : Array Bool → PFrame → Prop} {Q' : Exit → Act → World → Prop} (hL : ∀ listed F a w, Rel P W n F H V a w → L listed F → wpAny P md ops Q' g listed a w) :
    ∀ (f : Nat) (listed : Array Bool) (F : PFrame) (a : Act) (w : World), Rel P W n F H V a w → wpAnyLF P W n md ops H m L f listed F → wpAny P md ops Q' (f + g) listed a w
  | 0, listed, F, a, w, hr, h => by rw [Nat.zero_add]; exact hL _ _ _ _ hr h
  | f + 1, listed, F, a, w, hr, h => by
    rw [show f + 1 + g = (f + g) + 1 by omega]
    exact ⟨fun h0 => absurd h0 h.1, fun i hi => wpOp_of_qOpF hr (fun F' a' w' hr' h' => wpAny_of_headF hL f _ F' a' w' hr' h') (h.2 i hi).2⟩

theorem wpAnyLF_first {m i : Nat} {oi : Oper} {p : PV} {L : Array Bool → PFrame → Prop} (hi : ops[i]? = some oi)
    (hs : Region.sinkB md ops m = true) (hc : Region.chainB md ops m = true) (hn : m < ops.size) (hin : i < m)
    (hdone : ∀ listed F, L listed F → ∀ j ∈ Region.ready md ops listed, m ≤ j) :
    ∀ (f : Nat) (listed : Array Bool) (F : PFrame), HeadInv md ops m listed →
      (∀ j oj, ops[j]? = some oj → j ≠ i → listed.getD j true = false → (∀ e ∈ oj.after, Region.binds md e = true → e.on ≠ i) → oi.apart ops oj = true) →
      i ∈ Region.ready md ops listed → YieldsF P W n ops H oi p F →
      wpAnyLF P W n md ops H m L f (listed.setIfInBounds i true) (F.put oi.dst p) → wpAnyLF P W n md ops H m L (f + 1) listed F := by
  intro f
  induction f with
  | zero =>
    intro listed F inv _ hr hy Hh
    have hun := (mem_ready.1 hr).1
    refine ⟨fun h => (by rw [h] at hr; cases hr), fun j hj => ?_⟩
    have hjn : j < m := by
      rcases Nat.lt_or_ge j m with h | h
      · exact h
      · exact absurd hj (tail_waits hs hc hn inv _ i rfl hin hun j h)
    refine ⟨hjn, ?_⟩
    by_cases hji : j = i
    · subst hji; exact hy.qOp hi Hh
    · have := hdone _ _ Hh j (ready_mono hj hji)
      omega
  | succ f ih =>
    intro listed F inv hfree hr hy Hh
    have hun := (mem_ready.1 hr).1
    refine ⟨fun h => (by rw [h] at hr; cases hr), fun j hj => ?_⟩
    have hjn : j < m := by
      rcases Nat.lt_or_ge j m with h | h
      · exact h
      · exact absurd hj (tail_waits hs hc hn inv _ i rfl hin hun j h)
    refine ⟨hjn, ?_⟩
    by_cases hji : j = i
    · subst hji; exact hy.qOp hi Hh
    · have h1 := (Hh.2 j (ready_mono hj hji)).2
      obtain ⟨hjun, oj, hoj, hall⟩ := mem_ready.1 hj
      have hnot : ∀ e ∈ oj.after, Region.binds md e = true → e.on ≠ i := fun e he hb heq => by
        have h1 := hall e he hb
        rw [heq, getD_both hun] at h1
        cases h1
      have h2 := qOpF_put hoj (hfree j oj hoj hji hjun hnot) hy h1
      have hfree' : ∀ k ok, ops[k]? = some ok → k ≠ i → (listed.setIfInBounds j true).getD k true = false →
          (∀ e ∈ ok.after, Region.binds md e = true → e.on ≠ i) → oi.apart ops ok = true := fun k ok hk hki hun hno => by
        refine hfree k ok hk hki ?_ hno
        by_cases hjk : j = k
        · subst hjk; exact hjun
        · rw [getD_set_ne true hjk] at hun; exact hun
      refine qOpF_mono (fun F' h3 => ih (listed.setIfInBounds j true) F' (inv.set hj hjn) hfree' (ready_mono hr (Ne.symm hji)) h3.1 ?_) h2
      rw [Array.setIfInBounds_comm _ _ hji]
      exact h3.2

theorem wpAnyLF_lex {m g : Nat} {Lq : PFrame → Prop} (hs : Region.sinkB md ops m = true) (hc : Region.chainB md ops m = true) (hn : m < ops.size) :
    ∀ (l : List Oper) (k : Nat) (listed : Array Bool) (F : PFrame), (∀ j, j < l.length → l[j]? = ops[k + j]?) → k + l.length = m → HeadInv md ops m listed →
      Region.lexHead md ops g l.length k listed = true → wpQF P W n ops H Lq l F →
      wpAnyLF P W n md ops H m (fun listed F => Region.seqB md ops g m listed = true ∧ Lq F) l.length listed F
  | [], k, listed, F, _, hk, _, hB, h => by
    simp only [List.length_nil, Nat.add_zero] at hk
    subst hk
    exact ⟨by simpa [Region.lexHead] using hB, h⟩
  | o :: l, k, listed, F, hl, hk, inv, hB, h => by
    have h0 : ops[k]? = some o := by simpa using (hl 0 (by simp)).symm
    simp only [List.length_cons, Region.lexHead, Bool.and_eq_true] at hB
    obtain ⟨⟨hr, hf⟩, hB'⟩ := hB
    have hr' : k ∈ Region.ready md ops listed := by simpa using hr
    have hkn : k < m := by simp only [List.length_cons] at hk; omega
    have hst : qOpF P W n ops H k (wpQF P W n ops H Lq l) F := by unfold qOpF; simp only [h0]; exact h
    obtain ⟨v, hy, hK⟩ := yieldsF_of_qOp h0 hst
    exact wpAnyLF_first h0 hs hc hn hkn (fun listed F hL => seqB_ready hL.1) l.length listed F inv (Region.free_spec h0 hf) hr' hy
      (wpAnyLF_lex hs hc hn l (k + 1) _ _ (fun j hj => by have := hl (j + 1) (by simp; omega); simpa [Nat.add_assoc, Nat.add_comm 1 j] using this) (by simp only [List.length_cons] at hk; omega) (inv.set hr' hkn) hB' hK)

/-- reads first, then a tail in its one order -/
theorem region_tailF {id : Nat} {Q : Exit → Act → World → Prop} {F : PFrame} {V : Nat → Value} {a : Act} {w : World} {l : List Oper} (m : Nat) (hr : Rel P W n F H V a w) (hm : P.follows .mixedOrders = true) (hB : Region.lexTailB .any l.toArray m = true)
    (h : wpQF P W n l.toArray H (fun F' => ∀ a' w', Rel P W n F' H V a' w' → wpList P l.toArray Q (l.drop m) a' w') (l.take m) F) : (Code.region id l.toArray true).wp P Q a w := by
  simp only [Region.lexTailB, Bool.and_eq_true, decide_eq_true_eq] at hB
  obtain ⟨⟨⟨⟨_, hn⟩, hs⟩, hc⟩, hlex⟩ := hB
  have hn' : m < l.length := by simpa using hn
  have htl : (l.take m).length = m := by simp; omega
  have hdl : (l.drop m).length = l.toArray.size - m := by simp
  have inv0 : HeadInv .any l.toArray m (Array.replicate l.toArray.size false) :=
    ⟨by simp, fun j oj _ hl => (by rw [getD_replicate_false] at hl; cases hl), fun t _ ht => getD_in (by simpa using ht) (getD_replicate_false _ _)⟩
  have Hh := wpAnyLF_lex (P := P) (W := W) (n := n) (H := H) (md := .any) (g := l.toArray.size - m) hs hc hn (l.take m) 0 _ F (fun j hj => by
    have hj' : j < m := by rw [htl] at hj; exact hj
    simp [hj']) (by simpa using htl) inv0 (by rw [htl]; exact hlex) h
  refine wp_region_any hm ?_
  have := wpAny_of_headF (Q' := Q) (g := l.toArray.size - m) (V := V) (fun listed F' a' w' hr' hL => by
    have := wpAny_of_seq (md := .any) (Q' := Q) (l.drop m) m listed a' w' (fun j => by simp [List.getElem?_drop]) (by rw [hdl]; exact hL.1) (hL.2 a' w' hr')
    rwa [hdl] at this) _ _ F _ _ hr.drawn Hh
  rw [htl] at this
  rwa [show m + (l.toArray.size - m) = l.toArray.size by omega] at this
end
end Go.Proofs.Ytficeeaaaijgcaa.L
