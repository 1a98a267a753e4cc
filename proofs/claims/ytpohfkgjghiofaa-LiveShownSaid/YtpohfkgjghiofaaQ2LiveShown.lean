/-
  Texts of this proof, put together: Lz.
-/

import Derived.Test.YtpohfkgjghiofaaQ1LiveShown

namespace Go.Proofs.Ytpohfkgjghiofaa.L
open Go Go.RowKit
set_option linter.unusedVariables false
set_option linter.unusedSimpArgs false
section
variable {P : Program} {W : Env} {n : Nat} {J : PHeap → Prop} {ops : Array Oper}
def UQJ (P : Program) (W : Env) (o : Oper) (F : PFrame) (J : PHeap → Prop) (p : PV) : Prop := ∀ H, J H → PQ P W o F H p
def zkp (ops : Array Oper) (m x : Nat) : Bool := (List.range m).all fun i => decide (i = x) || (List.range (m + 1)).any fun j => decide (i < j) && decide (j ≠ x) && Region.waitsFor .any ops j i
structure HeadY (ops : Array Oper) (m x : Nat) (listed : Array Bool) : Prop where
  size : listed.size = ops.size
  closed : ∀ j oj, j ≠ x → ops[j]? = some oj → listed.getD j false = true → ∀ e ∈ oj.after, Region.binds .any e = true → listed.getD e.on false = true
  tail : ∀ t, m ≤ t → t ≠ x → t < ops.size → listed.getD t true = false
  early : listed.getD x true = true
theorem HeadY.set {m x i : Nat} {listed : Array Bool} (inv : HeadY ops m x listed) (hi : i ∈ Region.ready .any ops listed) (hin : i < m) : HeadY ops m x (listed.setIfInBounds i true) := by
  obtain ⟨hun, oi, hoi, hall⟩ := mem_ready.1 hi
  have hix : i ≠ x := fun e => by subst e; rw [inv.early] at hun; cases hun
  refine ⟨by simp [inv.size], fun j oj hjx hj hl e he hb => ?_, fun t ht htx ht' => by rw [getD_set_ne true (by omega)]; exact inv.tail t ht htx ht', by rw [getD_set_ne true hix]; exact inv.early⟩
  have hmono : ∀ k, listed.getD k false = true → (listed.setIfInBounds i true).getD k false = true := fun k hk => by
    by_cases hik : i = k
    · subst hik
      have : i < listed.size := by
        rcases Nat.lt_or_ge i listed.size with h | h
        · exact h
        · rw [Array.getD_eq_getD_getElem?, Array.getElem?_eq_none h] at hk; cases hk
      simp [this]
    · rw [getD_set_ne false hik]; exact hk
  by_cases hij : i = j
  · subst hij
    have : oj = oi := Option.some.inj (hj.symm.trans hoi)
    subst this
    exact hmono _ (hall e he hb)
  · rw [getD_set_ne false hij] at hl
    exact hmono _ (inv.closed j oj hjx hj hl e he hb)
theorem zb1 {m x : Nat} {listed : Array Bool} (hs : zkp ops m x = true) (hc : zan ops m x = true) (hmx : m ≠ x) (inv : HeadY ops m x listed) :
    ∀ (d i : Nat), m - i = d → i < m → listed.getD i true = false → ∀ t, m ≤ t → t ∉ Region.ready .any ops listed := by
  intro d
  induction d using Nat.strongRecOn with
  | _ d ih =>
    intro i hd hi hun t ht hr
    obtain ⟨htun, ot, hot, hall⟩ := mem_ready.1 hr
    have htlt : t < ops.size := (Array.getElem?_eq_some_iff.1 hot).1
    have htx : t ≠ x := fun e => by subst e; rw [inv.early] at htun; cases htun
    by_cases htn : t = m
    · subst htn
      have h1 := List.all_eq_true.1 hs i (List.mem_range.2 hi)
      have hix : i ≠ x := fun e => by subst e; rw [inv.early] at hun; cases hun
      rw [Bool.or_eq_true, decide_eq_true_eq] at h1
      have h1 := h1.resolve_left hix
      obtain ⟨j, hj, hj2⟩ := List.any_eq_true.1 h1
      simp only [Bool.and_eq_true, decide_eq_true_eq] at hj2
      have hjx := hj2.1.2
      replace hj2 := And.intro hj2.1.1 hj2.2
      obtain ⟨oj, hoj, e, he, hb, hon⟩ := Region.waitsFor_spec hj2.2
      have hjle : j ≤ t := by have := List.mem_range.1 hj; omega
      by_cases hjt : j = t
      · subst hjt
        have : oj = ot := Option.some.inj (hoj.symm.trans hot)
        subst this
        have h2 := hall e he hb
        rw [hon, getD_both hun] at h2
        cases h2
      · cases hl : listed.getD j false with
        | true =>
          have h2 := inv.closed j oj hjx hoj hl e he hb
          rw [hon, getD_both hun] at h2
          cases h2
        | false =>
          have hjs : j < listed.size := by rw [inv.size]; omega
          exact ih (t - j) (by omega) j rfl (by omega) (getD_in hjs hl) t (Nat.le_refl _) hr
    · have h1 := List.all_eq_true.1 hc t (List.mem_range.2 htlt)
      simp only [Bool.or_eq_true, decide_eq_true_eq] at h1
      rcases h1 with (h1 | h1) | h1
      · omega
      · exact htx h1
      · obtain ⟨o', ho', e, he, hb, hon⟩ := Region.waitsFor_spec h1
        have : o' = ot := Option.some.inj (ho'.symm.trans hot)
        subst this
        have h2 := hall e he hb
        have hp : m ≤ zdt x t ∧ zdt x t ≠ x ∧ zdt x t < ops.size := by unfold zdt; split <;> omega
        rw [hon, getD_both (inv.tail _ hp.1 hp.2.1 hp.2.2)] at h2
        cases h2
def zft (P : Program) (W : Env) (n : Nat) (ops : Array Oper) (J : PHeap → Prop) (Q : PFrame → Prop) : List Oper → PFrame → Prop
  | [], F => Q F
  | o :: rest, F => y7 n o ∧ ((vd ops o F = some true ∧ ∃ p, UQJ P W o F J p ∧ zft P W n ops J Q rest (F.put o.dst p)) ∨ (vd ops o F = some false ∧ zft P W n ops J Q rest (F.put o.dst (.u undef))))
def zax (P : Program) (W : Env) (n : Nat) (ops : Array Oper) (J : PHeap → Prop) (i : Nat) (K : PFrame → Prop) (F : PFrame) : Prop :=
  match ops[i]? with
  | none => K F
  | some o => y7 n o ∧ ((vd ops o F = some true ∧ ∃ p, UQJ P W o F J p ∧ K (F.put o.dst p)) ∨ (vd ops o F = some false ∧ K (F.put o.dst (.u undef))))
theorem zmq {i : Nat} {F : PFrame} {K K' : PFrame → Prop} (h : ∀ F, K F → K' F) (hh : zax P W n ops J i K F) : zax P W n ops J i K' F := by
  unfold zax at *
  split
  · rename_i ho; simp only [ho] at hh; exact h _ hh
  · rename_i o ho
    simp only [ho] at hh
    obtain ⟨hd, ⟨hw, p, hp, hk⟩ | ⟨hw, hk⟩⟩ := hh
    · exact ⟨hd, .inl ⟨hw, p, hp, h _ hk⟩⟩
    · exact ⟨hd, .inr ⟨hw, h _ hk⟩⟩
def YieldsJ (P : Program) (W : Env) (n : Nat) (ops : Array Oper) (J : PHeap → Prop) (o : Oper) (p : PV) (F : PFrame) : Prop :=
  y7 n o ∧ ((vd ops o F = some true ∧ UQJ P W o F J p) ∨ (vd ops o F = some false ∧ p = .u undef))
theorem YieldsJ.qOp {i : Nat} {o : Oper} {p : PV} {F : PFrame} (hi : ops[i]? = some o) (hy : YieldsJ P W n ops J o p F) {K : PFrame → Prop} (h : K (F.put o.dst p)) : zax P W n ops J i K F := by
  unfold zax
  simp only [hi]
  obtain ⟨hd, ⟨hw, hp⟩ | ⟨hw, rfl⟩⟩ := hy
  · exact ⟨hd, .inl ⟨hw, p, hp, h⟩⟩
  · exact ⟨hd, .inr ⟨hw, h⟩⟩
theorem zfz {i : Nat} {o : Oper} {F : PFrame} {K : PFrame → Prop} (hi : ops[i]? = some o) (h : zax P W n ops J i K F) : ∃ p, YieldsJ P W n ops J o p F ∧ K (F.put o.dst p) := by
  unfold zax at h
  simp only [hi] at h
  obtain ⟨hd, ⟨hw, p, hp, hk⟩ | ⟨hw, hk⟩⟩ := h
  · exact ⟨p, ⟨hd, .inl ⟨hw, hp⟩⟩, hk⟩
  · exact ⟨_, ⟨hd, .inr ⟨hw, rfl⟩⟩, hk⟩
theorem zln {o : Oper} {F : PFrame} {d : Option Nat} {q p : PV} (h : ∀ t, d = some t → t ∉ o.looksAt ops) : UQJ P W o (F.put d q) J p ↔ UQJ P W o F J p :=
  ⟨fun hp H hH => (zer h).1 (hp H hH), fun hp H hH => (zer h).2 (hp H hH)⟩
theorem YieldsJ.put {o : Oper} {p : PV} {F : PFrame} {d : Option Nat} {q : PV} (hy : YieldsJ P W n ops J o p F) (h : ∀ t, d = some t → t ∉ o.looksAt ops) : YieldsJ P W n ops J o p (F.put d q) := by
  obtain ⟨hd, hh⟩ := hy
  refine ⟨hd, ?_⟩
  rw [Qw h, zln h]
  exact hh
theorem zm4 {j : Nat} {oi oj : Oper} {p : PV} (hj : ops[j]? = some oj) (hap : oi.apart ops oj = true) {K : PFrame → Prop} {F : PFrame}
    (hy : YieldsJ P W n ops J oi p F) (h : zax P W n ops J j K (F.put oi.dst p)) :
    zax P W n ops J j (fun F' => YieldsJ P W n ops J oi p F' ∧ K (F'.put oi.dst p)) F := by
  obtain ⟨h1, h2, h3⟩ := Oper.apart_spec hap
  unfold zax at *
  simp only [hj] at *
  rw [Qw h1] at h
  obtain ⟨hd, ⟨hw, q, hq, hk⟩ | ⟨hw, hk⟩⟩ := h
  · exact ⟨hd, .inl ⟨hw, q, (zln h1).1 hq, hy.put h3, by rw [← PFrame.put_comm F p q h2]; exact hk⟩⟩
  · exact ⟨hd, .inr ⟨hw, hy.put h3, by rw [← PFrame.put_comm F p _ h2]; exact hk⟩⟩
def Ym (P : Program) (W : Env) (n : Nat) (md : Region.Mode) (ops : Array Oper) (J : PHeap → Prop) (m : Nat) (L : Array Bool → PFrame → Prop) : Nat → Array Bool → PFrame → Prop
  | 0, listed, F => L listed F
  | f + 1, listed, F =>
    Region.ready md ops listed ≠ [] ∧ ∀ i ∈ Region.ready md ops listed, i < m ∧ zax P W n ops J i (Ym P W n md ops J m L f (listed.setIfInBounds i true)) F
theorem zhv {m x i : Nat} {oi : Oper} {q : PV} {L : Array Bool → PFrame → Prop} (hi : ops[i]? = some oi)
    (hs : zkp ops m x = true) (hc : zan ops m x = true) (hmx : m ≠ x) (hin : i < m)
    (hdone : ∀ listed F, L listed F → ∀ j ∈ Region.ready .any ops listed, m ≤ j) :
    ∀ (f : Nat) (listed : Array Bool) (F : PFrame), HeadY ops m x listed →
      (∀ j oj, ops[j]? = some oj → j ≠ i → listed.getD j true = false → (∀ e ∈ oj.after, Region.binds .any e = true → e.on ≠ i) → oi.apart ops oj = true) →
      i ∈ Region.ready .any ops listed → YieldsJ P W n ops J oi q F →
      Ym P W n .any ops J m L f (listed.setIfInBounds i true) (F.put oi.dst q) → Ym P W n .any ops J m L (f + 1) listed F := by
  intro f
  induction f with
  | zero =>
    intro listed F inv _ hr hy Hh
    have hun := (mem_ready.1 hr).1
    refine ⟨fun h => (by rw [h] at hr; cases hr), fun j hj => ?_⟩
    have hjn : j < m := by
      rcases Nat.lt_or_ge j m with h | h
      · exact h
      · exact absurd hj (zb1 hs hc hmx inv _ i rfl hin hun j h)
    refine ⟨hjn, ?_⟩
    by_cases hji : j = i
    · subst hji; exact hy.qOp hi Hh
    · have := hdone _ _ Hh j (ready_mono hj hji)
      omega
  | succ f ih =>
    intro listed F inv hfree hr hy Hh
    have hun := (mem_ready.1 hr).1
    refine ⟨fun h => (by rw [h] at hr; cases hr), fun j hj => ?_⟩
    have hjn : j < m := by
      rcases Nat.lt_or_ge j m with h | h
      · exact h
      · exact absurd hj (zb1 hs hc hmx inv _ i rfl hin hun j h)
    refine ⟨hjn, ?_⟩
    by_cases hji : j = i
    · subst hji; exact hy.qOp hi Hh
    · have h1 := (Hh.2 j (ready_mono hj hji)).2
      obtain ⟨hjun, oj, hoj, hall⟩ := mem_ready.1 hj
      have hnot : ∀ e ∈ oj.after, Region.binds .any e = true → e.on ≠ i := fun e he hb heq => by
        have h1 := hall e he hb
        rw [heq, getD_both hun] at h1
        cases h1
      have h2 := zm4 hoj (hfree j oj hoj hji hjun hnot) hy h1
      have hfree' : ∀ k ok, ops[k]? = some ok → k ≠ i → (listed.setIfInBounds j true).getD k true = false →
          (∀ e ∈ ok.after, Region.binds .any e = true → e.on ≠ i) → oi.apart ops ok = true := fun k ok hk hki hun hno => by
        refine hfree k ok hk hki ?_ hno
        by_cases hjk : j = k
        · subst hjk; exact hjun
        · rw [getD_set_ne true hjk] at hun; exact hun
      refine zmq (fun F' h3 => ih (listed.setIfInBounds j true) F' (inv.set hj hjn) hfree' (ready_mono hr (Ne.symm hji)) h3.1 ?_) h2
      rw [Array.setIfInBounds_comm _ _ hji]
      exact h3.2
theorem zez {m x : Nat} {ts : List Nat} {Lq : PFrame → Prop} (hs : zkp ops m x = true) (hc : zan ops m x = true) (hmx : m ≠ x) (hts : ∀ t ∈ ts, m ≤ t) :
    ∀ (hl : List Nat) (listed : Array Bool) (F : PFrame), (∀ k ∈ hl, k < m ∧ k < ops.size) → HeadY ops m x listed →
      zi7 ops ts hl listed = true → zft P W n ops J Lq (hl.filterMap fun t => ops[t]?) F →
      Ym P W n .any ops J m (fun listed F => zei ops ts listed = true ∧ Lq F) hl.length listed F
  | [], listed, F, hk, inv, hB, h => ⟨by simpa [zi7] using hB, h⟩
  | k :: hl, listed, F, hk, inv, hB, h => by
    obtain ⟨hkm, hks⟩ := hk k (by simp)
    have h0 : ops[k]? = some ops[k] := Array.getElem?_eq_getElem hks
    simp only [zi7, Bool.and_eq_true] at hB
    obtain ⟨⟨hr, hf⟩, hB'⟩ := hB
    have hr' : k ∈ Region.ready .any ops listed := by simpa using hr
    rw [List.filterMap_cons, h0] at h
    have hst : zax P W n ops J k (zft P W n ops J Lq (hl.filterMap fun t => ops[t]?)) F := by unfold zax; simp only [h0]; exact h
    obtain ⟨v, hy, hK⟩ := zfz h0 hst
    exact zhv h0 hs hc hmx hkm (fun listed F hL => zgn hts hL.1) hl.length listed F inv (Region.free_spec h0 hf) hr' hy
      (zez hs hc hmx hts hl _ _ (fun j hj => hk j (by simp [hj])) (inv.set hr' hkm) hB' hK)
theorem zj2 {i : Nat} {F : PFrame} {K : PFrame → Prop} (h : zax P W n ops J i K F) : zax P W n ops J i (fun F' => K F' ∧ ∀ t, (ops[i]?).bind (·.dst) ≠ some t → F' t = F t) F := by
  unfold zax at *
  split
  · rename_i ho; simp only [ho] at h; exact ⟨h, fun _ _ => rfl⟩
  · rename_i o ho
    simp only [ho] at h
    have hput : ∀ (v : PV) (t : Nat), (ops[i]?).bind (·.dst) ≠ some t → (F.put o.dst v) t = F t := fun v t ht => by
      rw [ho] at ht
      exact PFrame.put_ne ht
    obtain ⟨hd, ⟨hw, p, hp, hk⟩ | ⟨hw, hk⟩⟩ := h
    · exact ⟨hd, .inl ⟨hw, p, hp, hk, hput p⟩⟩
    · exact ⟨hd, .inr ⟨hw, hk, hput _⟩⟩
theorem zd4 {H : PHeap} {i : Nat} {F : PFrame} {V : Nat → Value} {a : Act} {w : World} {K : PFrame → Prop} {K' : Act → World → Prop} {Q' : Exit → Act → World → Prop} (hJ : J H) (hr : Rel P W n F H V a w)
    (h : ∀ F a' w', Rel P W n F H V a' w' → Below w.heap.size w w' → (∀ t, (ops[i]?).bind (·.dst) ≠ some t → a'.tmps.getD t undef = a.tmps.getD t undef) → K F → K' a' w') (hh : zax P W n ops J i K F) : wpOp P ops Q' i K' a w := by
  unfold zax at hh
  unfold wpOp
  split
  · rename_i ho; simp only [ho] at hh; exact h _ _ _ hr (Below.refl _ _) (fun _ _ => rfl) hh
  · rename_i o ho
    simp only [ho] at hh
    have hput : ∀ (v : Value) (t : Nat), (ops[i]?).bind (·.dst) ≠ some t → (a.put o.dst v).tmps.getD t undef = a.tmps.getD t undef := fun v t ht => by
      rw [ho] at ht
      simp only [Option.bind_some] at ht
      cases hd : o.dst with
      | none => rfl
      | some d =>
        rw [hd] at ht
        have : d ≠ t := fun e => ht (by rw [e])
        simp [Act.put, Array.getElem?_setIfInBounds_ne this]
    obtain ⟨hd, ⟨hw, p, hp, hk⟩ | ⟨hw, hk⟩⟩ := hh
    · rw [yq hw hr.slot]
      simp only [if_true]
      refine .inl ?_
      have h1 := hp H hJ V a w hr.heap (fun t _ => hr.slot t)
      unfold Oper.wp at *
      generalize (execOp a.eval o).run P w = r at *
      have key : ∀ a' w', (∃ v, a' = a.put o.dst v ∧ Rp W.Z H V w' p v ∧ Below w.heap.size w w') → K' a' w' := by
        rintro a' w' ⟨v, rfl, hv, hb⟩
        exact h _ _ _ (hr.put hb o.dst hd hv) hb (hput v) hk
      cases r with
      | ok nx w' =>
        cases nx <;> simp only [Oper.upon] at h1 ⊢
        case value u => exact key _ _ h1
        case skip => exact key _ _ h1
        case defer d => exact key _ _ h1
        case enter f args =>
          refine h1.mono fun e w'' he => ?_
          cases e with
          | returned v => exact key _ _ he
          | panicked c => exact he.elim
          | outgrown => obtain ⟨_, _, hf⟩ := he; exact hf.elim
        case row row args =>
          exact h1.mono fun v w'' he => key _ _ he
      | halt x w' =>
        cases x <;> simp only [Oper.upon] at h1
    · rw [yq hw hr.slot]
      simp only [Bool.false_eq_true, if_false]
      exact h _ _ _ (hr.put (Below.refl _ _) o.dst hd (.u _)) (Below.refl _ _) (hput _) hk
theorem zig {m : Nat} {L : Array Bool → PFrame → Prop} : ∀ (f : Nat) (listed : Array Bool) (F : PFrame), Ym P W n .any ops J m L f listed F → ∃ listed' F', L listed' F' ∧ ∀ t, (∀ i, i < m → listed.getD i true = false → (ops[i]?).bind (·.dst) ≠ some t) → F' t = F t
  | 0, listed, F, h => ⟨listed, F, h, fun _ _ => rfl⟩
  | f + 1, listed, F, h => by
    obtain ⟨i, rest, hi⟩ := List.exists_cons_of_ne_nil h.1
    have hir : i ∈ Region.ready .any ops listed := by rw [hi]; simp
    obtain ⟨him, hq⟩ := h.2 i hir
    have hun := (mem_ready.1 hir).1
    have key : ∀ F1, Ym P W n .any ops J m L f (listed.setIfInBounds i true) F1 → (∀ t, (ops[i]?).bind (·.dst) ≠ some t → F1 t = F t) → ∃ listed' F', L listed' F' ∧ ∀ t, (∀ i, i < m → listed.getD i true = false → (ops[i]?).bind (·.dst) ≠ some t) → F' t = F t := fun F1 h1 h2 => by
      obtain ⟨l', F', h3, h4⟩ := zig f _ F1 h1
      refine ⟨l', F', h3, fun t ht => ?_⟩
      rw [h4 t fun j hj hl => ht j hj ?_, h2 t (ht i him hun)]
      by_cases e : i = j
      · subst e; exact hun
      · rw [getD_set_ne true e] at hl; exact hl
    unfold zax at hq
    split at hq
    · rename_i ho; exact key F hq fun _ _ => rfl
    · rename_i o ho
      obtain ⟨hd, ⟨hw, p, hp, hk⟩ | ⟨hw, hk⟩⟩ := hq
      · exact key _ hk fun t ht => PFrame.put_ne (by rw [ho] at ht; exact ht)
      · exact key _ hk fun t ht => PFrame.put_ne (by rw [ho] at ht; exact ht)
section
variable {H : PHeap} {m x d gg : Nat} {ox : Oper} {L : Array Bool → PFrame → Prop} {Q' : Exit → Act → World → Prop} {K0 : PV → PHeap → Prop}
theorem wp_all {o : Oper} {a : Act} {w : World} {K K' : Act → World → Prop} (h : o.wp P a w K (fun _ _ _ => False)) (hk : ∀ a' w', K a' w' → K' a' w') : o.wp P a w K' Q' := by
  unfold Oper.wp at *
  generalize (execOp a.eval o).run P w = r at *
  cases r with
  | ok nx w' =>
    cases nx <;> simp only [Oper.upon] at h ⊢
    case value u => exact hk _ _ h
    case skip => exact hk _ _ h
    case defer d => exact hk _ _ h
    case enter f args =>
      refine h.mono fun e w'' he => ?_
      cases e with
      | returned v => exact hk _ _ he
      | panicked c => exact he.elim
      | outgrown => obtain ⟨_, _, hf⟩ := he; exact hf.elim
    case row row args => exact h.mono fun v w'' he => hk _ _ he
  | halt x w' => cases x <;> simp only [Oper.upon] at h
theorem zkc (hdst : ∀ i, i < m → i ≠ x → (ops[i]?).bind (·.dst) ≠ some d) {pq : PV} {H' : PHeap} {V : Nat → Value} (hJ : J H')
    (hE : ∀ listed F a w, Rel P W n F H' V a w → F d = .unk → Rp W.Z H' V w pq (a.tmps.getD d undef) → L listed F → wpAny P .any ops Q' gg listed a w) :
    ∀ (f : Nat) (listed : Array Bool) (F : PFrame) (a : Act) (w : World), Rel P W n F H' V a w → F d = .unk → Rp W.Z H' V w pq (a.tmps.getD d undef) → listed.getD x true = true →
      Ym P W n .any ops J m L f listed F → wpAny P .any ops Q' (f + gg) listed a w
  | 0, listed, F, a, w, hr, hF, hp, _, h => by rw [Nat.zero_add]; exact hE _ _ _ _ hr hF hp h
  | f + 1, listed, F, a, w, hr, hF, hp, hx, h => by
    rw [show f + 1 + gg = (f + gg) + 1 by omega]
    refine ⟨fun h0 => absurd h0 h.1, fun i hi => ?_⟩
    have hix := zf9 hx hi
    obtain ⟨him, hq⟩ := h.2 i hi
    refine zd4 hJ hr (fun F' a' w' hr' hb ht h' => ?_) (zj2 hq)
    refine zkc hdst hJ hE f _ F' a' w' hr' ?_ ?_ ?_ h'.1
    · rw [← hF]; exact h'.2 d (hdst i him hix)
    · rw [ht d (hdst i him hix)]; exact hp.grow hb
    · rw [getD_set_ne true hix]; exact hx
theorem zmh {V : Nat → Value} (hxo : ops[x]? = some ox) (hg : ox.guard = none) (hdx : ox.dst = some d) (hdn : d < n) (hJ : J H) (hs : zkp ops m x = true) (hc : zan ops m x = true) (hmx : m ≠ x) (hms : x < ops.size) (hml : m ≤ ops.size)
    (c1 : ∀ e ∈ ox.after, Region.binds .any e = true → e.on < m ∧ e.on ≠ x)
    (c2 : ∀ i, i < m → i ≠ x → (∃ e ∈ ox.after, Region.binds .any e = true ∧ e.on = i) ∨ ∀ t, (ops[i]?).bind (·.dst) = some t → t ∉ ox.looksAt ops)
    (hdst : ∀ i, i < m → i ≠ x → (ops[i]?).bind (·.dst) ≠ some d)
    (c3 : ∀ i oi, i < m → ops[i]? = some oi → ∀ e ∈ oi.after, Region.binds .any e = true → e.on ≠ x)
    (hK : ∀ p H', K0 p H' → J H')
    (hL : ∀ listed F, L listed F → (∃ t0 ot, m ≤ t0 ∧ Region.ready .any ops listed = [t0] ∧ ops[t0]? = some ot ∧ ∃ e ∈ ot.after, Region.binds .any e = true ∧ e.on = x) ∧ ∀ F2 : PFrame, (∀ t, Operand.tmp t ∈ ox.op.operands → F2 t = F t) → PE P W n ox F2 H K0)
    (hE : ∀ pq H' V listed F a w, K0 pq H' → Rel P W n F H' V a w → F d = .unk → Rp W.Z H' V w pq (a.tmps.getD d undef) → L listed F → wpAny P .any ops Q' gg listed a w) :
    ∀ (f : Nat) (listed : Array Bool) (F : PFrame) (a : Act) (w : World), Rel P W n F H V a w → F d = .unk → listed.getD x true = false → HeadY ops m x (listed.setIfInBounds x true) →
      Ym P W n .any ops J m L f (listed.setIfInBounds x true) F → wpAny P .any ops Q' (f + gg + 1) listed a w := by
  have step : ∀ (f : Nat) (listed : Array Bool) (F : PFrame) (a : Act) (w : World), Rel P W n F H V a w → F d = .unk → x ∈ Region.ready .any ops listed → Ym P W n .any ops J m L f (listed.setIfInBounds x true) F →
      wpOp P ops Q' x (wpAny P .any ops Q' (f + gg) (listed.setIfInBounds x true)) a w := fun f listed F a w hr hF hx h => by
    obtain ⟨_, ox', hox', hall⟩ := mem_ready.1 hx
    have : ox' = ox := Option.some.inj (hox'.symm.trans hxo)
    subst this
    have hnd : ∀ i, i < m → (listed.setIfInBounds x true).getD i true = false → ∀ t, (ops[i]?).bind (·.dst) = some t → t ∉ ox'.looksAt ops := fun i hi hl t ht => by
      have hix : i ≠ x := fun e => by
        subst e
        rw [Ql (mem_ready.1 hx).1] at hl; cases hl
      rcases c2 i hi hix with ⟨e, he, hb, hon⟩ | h2
      · have h1 := hall e he hb
        rw [getD_set_ne true (Ne.symm hix)] at hl
        rw [hon, getD_both hl] at h1; cases h1
      · exact h2 t ht
    obtain ⟨l', F', hL', hF'⟩ := zig f _ F h
    have hpe := (hL _ _ hL').2 F (fun t ht => (hF' t fun i hi hl hd => hnd i hi hl t hd (zkf ht)).symm) V a w hr
    have hw : vd ops ox' F = some true := by unfold vd; rw [hg]
    unfold wpOp
    simp only [hxo]
    rw [yq hw hr.slot]
    simp only [if_true]
    refine .inl (wp_all hpe fun a' w' ⟨pq, H', V', hk, hr'⟩ => ?_)
    rw [hdx] at hr'
    have hpd : Rp W.Z H' V' w' pq (a'.tmps.getD d undef) := by
      have := hr'.slot d
      simpa [PFrame.put] using this
    refine zkc hdst (hK _ _ hk) (fun listed F a w h1 h2 h3 h4 => hE pq H' V' listed F a w hk h1 h2 h3 h4) f _ F _ w' ⟨hr'.heap, hr'.size, hr'.defers, fun t => ?_⟩ hF hpd (Ql (mem_ready.1 hx).1) h
    by_cases e : d = t
    · subst e; rw [hF]; exact .unk _
    · have := hr'.slot t
      rwa [PFrame.put_ne (by simpa using e)] at this
  intro f
  induction f with
  | zero =>
    intro listed F a w hr hF hxu inv h
    obtain ⟨⟨t0, ot, ht0, htr, hot, e0, he0, hb0, hon0⟩, _⟩ := hL _ _ h
    have hall : ∀ i, i < m → i ≠ x → listed.getD i true = true := fun i hi hix => by
      cases hl : listed.getD i true with
      | true => rfl
      | false =>
        have h1 : (listed.setIfInBounds x true).getD i true = false := by rw [getD_set_ne true (Ne.symm hix)]; exact hl
        exact absurd (by rw [htr]; simp) (zb1 hs hc hmx inv _ i rfl hi h1 t0 ht0)
    have hsz : listed.size = ops.size := by have := inv.size; simpa using this
    have hx : x ∈ Region.ready .any ops listed := by
      refine mem_ready.2 ⟨hxu, ox, hxo, fun e he hb => ?_⟩
      obtain ⟨h1, h1x⟩ := c1 e he hb
      have h2 := hall e.on h1 h1x
      have hlt : e.on < ops.size := Nat.lt_of_lt_of_le h1 hml
      cases h3 : listed.getD e.on false with
      | true => rfl
      | false =>
        have : listed.getD e.on true = false := getD_in (by omega) h3
        rw [h2] at this; cases this
    refine ⟨fun h0 => (by rw [h0] at hx; cases hx), fun i hi => ?_⟩
    by_cases hix : i = x
    · subst hix; exact step 0 listed F a w hr hF hx h
    · have h1 := ready_mono hi hix
      rw [htr] at h1
      have : i = t0 := by simpa using h1
      subst this
      obtain ⟨hun, oi', hoi', hall'⟩ := mem_ready.1 hi
      have : oi' = ot := Option.some.inj (hoi'.symm.trans hot)
      subst this
      have h2 := hall' e0 he0 hb0
      rw [hon0, getD_both hxu] at h2
      cases h2
  | succ f ih =>
    intro listed F a w hr hF hxu inv h
    have back : ∀ i, i ∈ Region.ready .any ops (listed.setIfInBounds x true) → i < m → i ≠ x → i ∈ Region.ready .any ops listed := fun i hi him hix => by
      obtain ⟨h1, oi, hoi, hall⟩ := mem_ready.1 hi
      refine mem_ready.2 ⟨by rw [getD_set_ne true (Ne.symm hix)] at h1; exact h1, oi, hoi, fun e he hb => ?_⟩
      have h2 := hall e he hb
      rw [getD_set_ne false (Ne.symm (c3 i oi him hoi e he hb))] at h2
      exact h2
    have hxl : (listed.setIfInBounds x true).getD x true = true := Ql hxu
    refine ⟨fun h0 => ?_, fun i hi => ?_⟩
    · obtain ⟨i, rest, hi⟩ := List.exists_cons_of_ne_nil h.1
      have hir : i ∈ Region.ready .any ops (listed.setIfInBounds x true) := by rw [hi]; simp
      have := back i hir (h.2 i hir).1 (zf9 hxl hir)
      rw [h0] at this; cases this
    · by_cases hix : i = x
      · subst hix; exact step (f + 1) listed F a w hr hF hi h
      · have hir := ready_mono hi hix
        obtain ⟨him, hqq⟩ := h.2 i hir
        rw [show f + 1 + gg = (f + gg) + 1 by omega]
        refine zd4 hJ hr (fun F' a' w' hr' _ _ h' => ?_) (zj2 hqq)
        refine ih _ F' a' w' hr' (by rw [← hF]; exact h'.2 d (hdst i him hix)) (by rw [getD_set_ne true hix]; exact hxu) ?_ ?_
        · rw [Array.setIfInBounds_comm _ _ hix]; exact inv.set hir him
        · rw [Array.setIfInBounds_comm _ _ hix]; exact h'.1
end
def zm5 (ops : Array Oper) (m x : Nat) (hl ts : List Nat) : Bool :=
  Region.noSelect ops && decide (m ≠ x) && decide (x < ops.size) && decide (m ≤ ops.size) && ((ops[x]?).map (·.guard.isNone)).getD false &&
  zkp ops m x && zan ops m x && zi7 ops ts hl ((Array.replicate ops.size false).setIfInBounds x true) && decide (ts.length + hl.length + 1 = ops.size) &&
  (hl.all fun k => decide (k < m) && decide (k < ops.size)) && (ts.all fun t => decide (m ≤ t) && decide (t < ops.size)) &&
  ((ops[x]?).map fun ox => ox.after.all fun e => !Region.binds .any e || (decide (e.on < m) && decide (e.on ≠ x))).getD false &&
  ((List.range m).all fun i => decide (i = x) || ((ops[x]?).map fun ox => (ox.after.any fun e => Region.binds .any e && decide (e.on = i)) || (match (ops[i]?).bind (·.dst) with | none => true | some t => decide (t ∉ ox.looksAt ops))).getD false) &&
  ((List.range m).all fun i => decide (i = x) || decide ((ops[i]?).bind (·.dst) ≠ (ops[x]?).bind (·.dst))) &&
  ((List.range m).all fun i => ((ops[i]?).map fun oi => oi.after.all fun e => !Region.binds .any e || decide (e.on ≠ x)).getD true) &&
  (match ts with | [] => false | t :: _ => ((ops[t]?).map fun o => o.after.any fun e => Region.binds .any e && decide (e.on = x)).getD false)
theorem PC.regionH {H : PHeap} {F : PFrame} {id : Nat} {l tl : List Oper} {Q : Exit → PFrame → PHeap → Prop} {ox : Oper} {d : Nat} (J : PHeap → Prop) (K0 : PV → PHeap → Prop) (m x : Nat) (hl ts : List Nat) (hm : P.follows .mixedOrders = true) (hB : zm5 l.toArray m x hl ts = true)
    (hx : l[x]? = some ox) (hd : ox.dst = some d) (hdn : d < n) (htl : (ts.filterMap fun t => l[t]?) = tl) (hJ : J H) (hK : ∀ p H', K0 p H' → J H')
    (h : zft P W n l.toArray J (fun F' => (∀ F2 : PFrame, (∀ t, Operand.tmp t ∈ ox.op.operands → F2 t = F' t) → PE P W n ox F2 H K0) ∧ ∀ pq H', K0 pq H' → PL P W n l.toArray tl (F'.put (some d) pq) H' (Q .normal)) (hl.filterMap fun t => l[t]?) (F.put (some d) .unk)) : PC P W n (.region id l.toArray true) F H Q := fun V a w Q' hr hQ => by
  simp only [zm5, Bool.and_eq_true, decide_eq_true_eq] at hB
  obtain ⟨⟨⟨⟨⟨⟨⟨⟨⟨⟨⟨⟨⟨⟨⟨hsel, hmx⟩, hxl⟩, hml⟩, hgd⟩, hs⟩, hch⟩, hlex⟩, hlen⟩, hhl⟩, hts0⟩, k1⟩, k2⟩, kd⟩, k3⟩, hend0⟩ := hB
  have hxo : l.toArray[x]? = some ox := by simpa using hx
  have hg : ox.guard = none := by rw [hxo] at hgd; simpa using hgd
  simp only [hxo, Option.map_some, Option.getD_some] at k1 k2
  have c1 : ∀ e ∈ ox.after, Region.binds .any e = true → e.on < m ∧ e.on ≠ x := fun e he hb => by
    have h1 := Array.all_eq_true_iff_forall_mem.1 k1 e he
    rw [hb] at h1
    simpa using h1
  have c2 : ∀ i, i < m → i ≠ x → (∃ e ∈ ox.after, Region.binds .any e = true ∧ e.on = i) ∨ ∀ t, (l.toArray[i]?).bind (·.dst) = some t → t ∉ ox.looksAt l.toArray := fun i hi hix => by
    have h1 := List.all_eq_true.1 k2 i (List.mem_range.2 hi)
    rw [Bool.or_eq_true, decide_eq_true_eq] at h1
    have h1 := h1.resolve_left hix
    rw [Bool.or_eq_true] at h1
    rcases h1 with h1 | h1
    · obtain ⟨e, he, hb⟩ := Array.any_eq_true'.1 h1
      simp only [Bool.and_eq_true, decide_eq_true_eq] at hb
      exact .inl ⟨e, he, hb.1, hb.2⟩
    · refine .inr fun t ht => ?_
      rw [ht] at h1
      simpa using h1
  have hdst : ∀ i, i < m → i ≠ x → (l.toArray[i]?).bind (·.dst) ≠ some d := fun i hi hix => by
    have h1 := List.all_eq_true.1 kd i (List.mem_range.2 hi)
    rw [Bool.or_eq_true, decide_eq_true_eq] at h1
    have h1 := h1.resolve_left hix
    rw [hxo] at h1
    simp only [Option.bind_some, hd, decide_eq_true_eq] at h1
    exact h1
  have c3 : ∀ i oi, i < m → l.toArray[i]? = some oi → ∀ e ∈ oi.after, Region.binds .any e = true → e.on ≠ x := fun i oi hi hoi e he hb => by
    have h1 := List.all_eq_true.1 k3 i (List.mem_range.2 hi)
    rw [hoi] at h1
    simp only [Option.map_some, Option.getD_some] at h1
    have h2 := Array.all_eq_true_iff_forall_mem.1 h1 e he
    rw [hb] at h2
    simpa using h2
  refine wp_region_any hm ?_
  refine Jk (Q := Zg Q') (fun e a w h => by cases e <;> first | exact h | exact h.elim) _ _ _ _ ?_
  have hr1 := hr.drawn
  have inv1 : HeadY l.toArray m x ((Array.replicate l.toArray.size false).setIfInBounds x true) := by
    refine ⟨by simp, fun j oj hjx hj hl e hee hb => ?_, fun t ht htx ht' => ?_, ?_⟩
    · rw [getD_set_ne false (Ne.symm hjx), getD_replicate_false] at hl; cases hl
    · rw [getD_set_ne true (Ne.symm htx)]
      exact getD_in (by simpa using ht') (getD_replicate_false _ _)
    · have : x < l.length := by simpa using hxl
      simp [this]
  have hts : ∀ t ∈ ts, m ≤ t := fun t ht => by have := List.all_eq_true.1 hts0 t ht; simp only [Bool.and_eq_true, decide_eq_true_eq] at this; exact this.1
  have hts2 : ∀ t ∈ ts, t < l.toArray.size := fun t ht => by have := List.all_eq_true.1 hts0 t ht; simp only [Bool.and_eq_true, decide_eq_true_eq] at this; exact this.2
  have hhl2 : ∀ k ∈ hl, k < m ∧ k < l.toArray.size := fun k hk => by have := List.all_eq_true.1 hhl k hk; simpa only [Bool.and_eq_true, decide_eq_true_eq] using this
  have Hh := zez (P := P) (W := W) (n := n) (J := J) (ops := l.toArray) (x := x) hs hch hmx hts hl _ (F.put (some d) .unk) hhl2 inv1 hlex (by simpa using h)
  have hr2 : Rel P W n (F.put (some d) .unk) H V a _ := ⟨hr1.heap, hr1.size, hr1.defers, fun t => by
    by_cases e : d = t
    · subst e; simp only [PFrame.put, if_true]; exact .unk _
    · have : (some d = some t) = False := by simp [e]
      simp only [PFrame.put, this, if_false]; exact hr1.slot t⟩
  have := zmh (P := P) (W := W) (n := n) (H := H) (J := J) (ops := l.toArray) (m := m) (gg := ts.length) (Q' := Zg Q') (V := V) (K0 := K0) hxo hg hd hdn hJ hs hch hmx hxl hml c1 c2 hdst c3 hK
    (fun listed F' hL => ⟨by
      cases ts with
      | nil => cases hend0
      | cons t ts =>
        have h3 := hL.1
        simp only [zei, Bool.and_eq_true, decide_eq_true_eq] at h3
        have hlt := hts2 t (by simp)
        have h4 : l.toArray[t]? = some l.toArray[t] := Array.getElem?_eq_getElem hlt
        simp only [h4, Option.map_some, Option.getD_some] at hend0
        obtain ⟨e, he, hb⟩ := Array.any_eq_true'.1 hend0
        simp only [Bool.and_eq_true, decide_eq_true_eq] at hb
        exact ⟨t, _, hts t (by simp), h3.1, h4, e, he, hb.1, hb.2⟩, hL.2.1⟩)
    (fun pq H' V2 listed F' a2 w2 hk hr3 hF3 hp hL => by
      refine Zs (Q' := Zg Q') ts listed a2 w2 hts2 hL.1 ?_
      have e : (ts.filterMap fun t => l.toArray[t]?) = tl := by rw [← htl]; simp
      rw [e]
      have hr4 : Rel P W n (F'.put (some d) pq) H' V2 a2 w2 := ⟨hr3.heap, hr3.size, hr3.defers, fun t => by
        by_cases e : d = t
        · subst e; simp only [PFrame.put, if_true]; exact hp
        · have : (some d = some t) = False := by simp [e]
          simp only [PFrame.put, this, if_false]; exact hr3.slot t⟩
      exact hL.2.2 pq H' hk V2 a2 w2 (Zg Q') hr4 fun F'' H'' V'' a'' w'' hk hr'' => hQ _ _ _ _ _ _ hk hr'') hl.length _ (F.put (some d) .unk) a _ hr2 (by simp [PFrame.put]) (getD_in (by simpa using hxl) (getD_replicate_false _ _)) inv1 Hh
  rwa [show hl.length + ts.length + 1 = l.toArray.size by omega] at this
theorem JF.nil {Q : PFrame → Prop} {F : PFrame} (h : Q F) : zft P W n ops J Q [] F := h
end
end Go.Proofs.Ytpohfkgjghiofaa.L
