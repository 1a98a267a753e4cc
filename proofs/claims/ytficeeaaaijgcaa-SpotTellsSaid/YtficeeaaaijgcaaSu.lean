/-
  The package spot over pure values: what over holds from step to step.
-/
import Derived.Test.YtficeeaaaijgcaaSt
import Derived.Test.YtficeeaaaijgcaaRxFn
namespace Go.Proofs.Ytficeeaaaijgcaa
open Go Go.RowKit L
set_option linter.unusedVariables false
set_option linter.unusedSimpArgs false

theorem chk_step {x : Rx} {r : List Rx} {q : Int} (h : checkLoop (x :: r) q = 0) : (x.kind = 1 ∨ x.kind = 2 ∨ x.kind = 3 ∨ x.kind = 4 ∨ x.kind = 5 ∨ x.kind = 6 ∨ x.kind = 7) ∧ ofK x.kind ≤ q ∧ checkLoop r (q - ofK x.kind + 1) = 0 := by
  rw [checkLoop] at h
  split at h
  · omega
  · rename_i h1
    split at h
    · omega
    · rename_i h2
      refine ⟨?_, by omega, h⟩
      have : ¬ ofK x.kind < 0 := fun h => h1 (Or.inl h)
      unfold ofK at this
      split at this
      · omega
      · split at this
        · omega
        · split at this <;> omega
/-- the height of the stack, step by step -/
theorem chk_next {x : Rx} {r : List Rx} {s : SM} (h : checkLoop (x :: r) s.st.length = 0) : checkLoop r (stepS s x).st.length = 0 ∧ (x.kind = 3 ∨ x.kind = 4 → ∃ b a st, s.st = b :: a :: st) ∧ (x.kind = 5 ∨ x.kind = 6 ∨ x.kind = 7 → ∃ a st, s.st = a :: st) := by
  obtain ⟨hk, hq, hr⟩ := chk_step h
  have two : ofK x.kind = 2 → ∃ b a st, s.st = b :: a :: st := fun e => by
    match hs : s.st with
    | b :: a :: st => exact ⟨b, a, st, rfl⟩
    | [] => rw [hs, e] at hq; simp at hq
    | [_] => rw [hs, e] at hq; simp at hq
  have one : ofK x.kind = 1 → ∃ a st, s.st = a :: st := fun e => by
    match hs : s.st with
    | a :: st => exact ⟨a, st, rfl⟩
    | [] => rw [hs, e] at hq; simp at hq
  have k34 : x.kind = 3 ∨ x.kind = 4 → ofK x.kind = 2 := fun e => by rcases e with e | e <;> rw [e] <;> rfl
  have k567 : x.kind = 5 ∨ x.kind = 6 ∨ x.kind = 7 → ofK x.kind = 1 := fun e => by rcases e with e | e | e <;> rw [e] <;> rfl
  refine ⟨?_, fun e => two (k34 e), fun e => one (k567 e)⟩
  have hgoal : ((stepS s x).st.length : Int) = s.st.length - ofK x.kind + 1 := by
    rcases hk with e | e | e | e | e | e | e
    · unfold stepS; rw [if_pos e, e]; simp [ofK]
    · unfold stepS; rw [if_neg (by omega), if_pos e, e]; simp [ofK]
    · obtain ⟨b, a, st, hs⟩ := two (k34 (Or.inl e))
      unfold stepS; rw [if_neg (by omega), if_neg (by omega), if_pos e, hs, k34 (Or.inl e)]; simp; omega
    · obtain ⟨b, a, st, hs⟩ := two (k34 (Or.inr e))
      unfold stepS; rw [if_neg (by omega), if_neg (by omega), if_neg (by omega), if_pos e, hs, k34 (Or.inr e)]; simp; omega
    all_goals
      obtain ⟨a, st, hs⟩ := one (k567 (by omega))
      unfold stepS; rw [if_neg (by omega), if_neg (by omega), if_neg (by omega), if_neg (by omega), hs, k567 (by omega)]; simp
  rw [hgoal]
  exact hr

theorem checkL_len {l : List Rx} (h : checkL l = 0) : l.length ≤ 512 := by
  unfold checkL at h
  split at h
  · omega
  · omega

/-- the cells of the parts at hand, the last one first -/
def StC : List PV → List Pt → Prop
  | cs, [] => cs = []
  | cs, p :: st => ∃ cs' a b, cs = cs' ++ [a, b, B p.free, I p.n] ∧ isL a p.first ∧ isL b p.last ∧ StC cs' st
theorem StC.len : ∀ {st : List Pt} {cs : List PV}, StC cs st → cs.length = st.length * 4
  | [], _, h => by rw [show _ = [] from h]; rfl
  | p :: st, _, ⟨cs', a, b, e, _, _, h⟩ => by have := StC.len h; rw [e]; simp [this]; omega

def StkR (H : PHeap) (sv : PV) (m : Nat) (cs : List PV) : Prop := (sv = .u (.slice none 0 0) ∧ m = 0) ∨ ∃ vt, sv = .ps 2 vt ∧ H 2 = ⟨vt, some (.row 83 4 m cs)⟩

/-- over's heap: the struct x, its two rows, the stack's variable, its row -/
def OvH (H : PHeap) (vx v1 : Nat) (sets : List Rx) (fol : List (List Int)) (st : List Pt) : Prop :=
  ∃ vs vf fc sv cs, H 0 = ⟨vx, some (.box 85 [rowV sets.length 3 vs, rowV sets.length 4 vf, .u (.slice none 0 0), .u (.slice none 0 0), B false, I 0])⟩ ∧ RowAt H 28 4 sets.length 3 vs (setCs sets) ∧ RowAt H 30 1 sets.length 4 vf fc ∧ FolAt fc fol ∧
    H 1 = ⟨v1, some (.box 115 [sv])⟩ ∧ StkR H sv st.length cs ∧ StC cs st
theorem StkR.mono {H H' : PHeap} {sv : PV} {m : Nat} {cs : List PV} (h : StkR H sv m cs) (he : H' 2 = H 2) : StkR H' sv m cs := by
  rcases h with h | ⟨vt, h1, h2⟩
  · exact .inl h
  · exact .inr ⟨vt, h1, he.trans h2⟩
theorem OvH.mono {H H' : PHeap} {vx v1 : Nat} {sets : List Rx} {fol : List (List Int)} {st : List Pt} (h : OvH H vx v1 sets fol st) (he : ∀ j, j < 5 → H' j = H j) : OvH H' vx v1 sets fol st := by
  obtain ⟨vs, vf, fc, sv, cs, h0, h1, h2, h3, h4, h5, h6⟩ := h
  exact ⟨vs, vf, fc, sv, cs, (he 0 (by omega)).trans h0, h1.mono (he 3 (by omega)), h2.mono (he 4 (by omega)), h3, (he 1 (by omega)).trans h4, h5.mono (he 2 (by omega)), h6⟩

theorem pop_ov {H : PHeap} {vx v1 : Nat} {sets : List Rx} {fol : List (List Int)} {p : Pt} {st : List Pt} (h : OvH H vx v1 sets fol (p :: st)) (hl : st.length ≤ 1000) :
    PIn Try.prog 89 [.pp 1 0 v1] H (fun q H' => ∃ a b, q = .agg [a, b, B p.free, I p.n] ∧ isL a p.first ∧ isL b p.last ∧ OvH H' vx v1 sets fol st ∧ ∀ j, 5 ≤ j → j < 20 → H' j = H j) := by
  obtain ⟨vs, vf, fc, sv, cs, h0, h1, h2, h3, h4, h5, h6⟩ := h
  obtain ⟨cs', a, b, rfl, ha, hb, h6⟩ := h6
  rcases h5 with ⟨_, h5⟩ | ⟨vt, rfl, h5⟩
  · cases h5
  refine (pop_in 1 2 v1 vt st.length 20 H cs' a b _ _ h4 h5 h6.len (by decide) (by decide) (by decide) (by omega) (fun H' => ha.leaf H') (fun H' => hb.leaf H') (fun H' => rfl) (fun H' => rfl)).mono ?_
  rintro q H' ⟨rfl, e1, e2, ho⟩
  exact ⟨a, b, rfl, ha, hb, ⟨vs, vf, fc, _, cs', (ho 0 (by omega) (by omega) (by omega)).trans h0, h1.mono (ho 3 (by omega) (by omega) (by omega)), h2.mono (ho 4 (by omega) (by omega) (by omega)), h3, e1, .inr ⟨_, rfl, e2⟩, h6⟩, fun j h7 h8 => ho j h8 (by omega) (by omega)⟩

theorem set_ov {H : PHeap} {vx v1 : Nat} {sets : List Rx} {fol : List (List Int)} {st : List Pt} (x : Rx) (h : OvH H vx v1 sets fol st) (hl : sets.length ≤ 1000) :
    PIn Try.prog 90 [.pp 0 0 vx, encS x] H (fun q H' => q = .agg [slI [(sets.length : Int)], slI [(sets.length : Int)], B false, I 1] ∧ OvH H' vx v1 (sets ++ [x]) (fol ++ [[]]) st ∧ ∀ j, 5 ≤ j → j < 20 → H' j = H j) := by
  obtain ⟨vs, vf, fc, sv, cs, h0, h1, h2, h3, h4, h5, h6⟩ := h
  refine (set_in 0 vx 3 vs 4 vf sets.length 20 H _ _ _ _ sets fc x.s0 x.s1 x.s2 x.s3 h0 h1 h2 (by decide) (by decide) (by decide) (by decide) (by decide) (by decide) (by omega)).mono ?_
  rintro q H' ⟨rfl, vs', vf', e1, e2, e3, ho⟩
  have hm : (sets ++ [x]).length = sets.length + 1 := by simp
  refine ⟨rfl, ⟨vs', vf', fc ++ [.u (.slice none 0 0)], sv, cs, ?_, ?_, ?_, ?_, (ho 1 (by omega) (by omega) (by omega) (by omega)).trans h4, h5.mono (ho 2 (by omega) (by omega) (by omega) (by omega)), h6⟩, fun j h7 h8 => ho j h8 (by omega) (by omega) (by omega)⟩
  · rw [e1, hm, rowV_pos (by omega), rowV_pos (by omega)]
  · rw [hm]; exact ⟨by rw [setCs_len]; simp, fun _ => by rw [e2]; simp [setCs]⟩
  · rw [hm]; exact ⟨by have := h2.1; simp; omega, fun _ => e3⟩
  · refine ⟨by simp [h3.1], fun i q l hi hj => ?_⟩
    have hl := h3.1
    by_cases hlt : i < fc.length
    · rw [List.getElem?_append_left hlt] at hi
      rw [List.getElem?_append_left (by omega)] at hj
      exact h3.2 i q l hi hj
    · rw [List.getElem?_append_right (by omega)] at hi hj
      rw [hl] at hi
      cases he : i - fol.length with
      | zero => rw [he] at hi hj; simp at hi hj; subst hi; subst hj; exact .inr ⟨rfl, rfl⟩
      | succ n => rw [he] at hi; simp at hi

theorem behind_ov {H : PHeap} {vx v1 : Nat} {sets : List Rx} {fol : List (List Int)} {st : List Pt} {pa pb : PV} (a b : List Int) (h : OvH H vx v1 sets fol st) (hl : sets.length ≤ 1000) (hfl : fol.length = sets.length) (hpa : isL pa a) (hpb : isL pb b) (hsm : SmF sets.length fol)
    (hb : Rising b ∧ ∀ y ∈ b, 0 ≤ y ∧ y < (sets.length : Int)) (ha : Rising a ∧ ∀ y ∈ a, 0 ≤ y ∧ y < (sets.length : Int)) :
    PIn Try.prog 93 [.pp 0 0 vx, pa, pb] H (fun q H' => q = .tup [] ∧ OvH H' vx v1 sets (a.foldl (updF b) fol) st ∧ ∀ j, 5 ≤ j → H' j = H j) := by
  obtain ⟨vs, vf, fc, sv, cs, h0, h1, h2, h3, h4, h5, h6⟩ := h
  have la := rising_le _ ha.1 _ ha.2
  have lb := rising_le _ hb.1 _ hb.2
  refine (behind_in 0 vx 4 vf sets.length H _ _ _ _ _ pa pb fc fol a b sets.length h0 h2 hfl (by decide) h3 hpa hpb hl hsm hb.2 (by omega) (by rw [hfl]; exact ha.2) (by omega)).mono ?_
  rintro q H' ⟨rfl, ho, fc', e1, e2⟩
  exact ⟨rfl, ⟨vs, vf, fc', sv, cs, (ho 0 (by omega)).trans h0, h1.mono (ho 3 (by omega)), e1, e2, (ho 1 (by omega)).trans h4, h5.mono (ho 2 (by omega)), h6⟩, fun j h7 => ho j (by omega)⟩

theorem cat_ov {H : PHeap} {vx v1 : Nat} {sets : List Rx} {fol : List (List Int)} {st : List Pt} {a1 a2 b1 b2 : PV} (pa pb : Pt) (h : OvH H vx v1 sets fol st) (hl : sets.length ≤ 1000) (hfl : fol.length = sets.length) (hsm : SmF sets.length fol) (hpa : PtOk sets.length pa) (hpb : PtOk sets.length pb) (hsum : pa.n + pb.n ≤ sets.length)
    (ha1 : isL a1 pa.first) (ha2 : isL a2 pa.last) (hb1 : isL b1 pb.first) (hb2 : isL b2 pb.last) :
    PIn Try.prog 91 [.pp 0 0 vx, .agg [a1, a2, B pa.free, I pa.n], .agg [b1, b2, B pb.free, I pb.n]] H (fun q H' => ∃ f' l', q = .agg [f', l', B (pa.free && pb.free), I (pa.n + pb.n)] ∧ isL f' (pickU pa.free pa.first pb.first pa.first) ∧ isL l' (pickU pb.free pa.last pb.last pb.last) ∧
      OvH H' vx v1 sets (pa.last.foldl (updF pb.first) fol) st ∧ ∀ j, 5 ≤ j → j < 20 → H' j = H j) := by
  obtain ⟨vs, vf, fc, sv, cs, h0, h1, h2, h3, h4, h5, h6⟩ := h
  refine (cat_in 0 vx 4 vf sets.length 20 sets.length H _ _ _ _ _ fc fol pa pb a1 a2 b1 b2 h0 h2 hfl (by decide) h3 ha1 ha2 hb1 hb2 hl hfl hsm hpa hpb hsum (by decide) (by decide)).mono ?_
  rintro q H' ⟨f', l', rfl, hf, hl', ⟨fc', e1, e2⟩, ho⟩
  exact ⟨f', l', rfl, hf, hl', ⟨vs, vf, fc', sv, cs, (ho 0 (by omega) (by omega)).trans h0, h1.mono (ho 3 (by omega) (by omega)), e1, e2, (ho 1 (by omega) (by omega)).trans h4, h5.mono (ho 2 (by omega) (by omega)), h6⟩, fun j h7 h8 => ho j h8 (by omega)⟩

theorem PL.appendS {P : Program} {W : Env} {n : Nat} {F : PFrame} {H : PHeap} {o : Oper} {l : List Oper} {ops : Array Oper} {K : PFrame → PHeap → Prop} {s x : Operand} {t : TypeId} {b d m : Nat} {z : Value} {cs cs2 : List PV} {px sv : PV} (hg : o.guard = none) (ho : o.op = .call { callee := .builtin .append, args := #[s, x], argTypes := #[t, t] }) (hd : o.dst = some d) (hdn : d < n) (ht : selem P t = some (83, 4, b, z))
    (hs : evP F s = sv) (hr : StkR H sv m cs) (hc : cs.length = m * 4) (hp : evP F x = px) (hx : srcP H 4 px = some (1, cs2)) (hleaf : ∀ p ∈ cs2, leafOk H p = true) (h63 : m + 1 ≤ maxLen) (hbytes : (m + 1) * b ≤ 140737488355328)
    (h : ∀ vt H', H' 2 = ⟨vt, some (.row 83 4 (m + 1) (cs ++ cs2))⟩ → (∀ j, j ≠ 2 → H' j = H j) → PL P W n ops l (F.put (some d) (.ps 2 vt)) H' K) : PL P W n ops (o :: l) F H K := by
  rcases hr with ⟨rfl, rfl⟩ | ⟨vt, rfl, h2⟩
  · exact PL.appendA (id := 2) (ver := 0) (m := 0) hg ho hd hdn ht hs ⟨by simpa using hc, fun h => absurd rfl h⟩ hp hx hleaf h63 hbytes h
  · subst hp
    refine PL.pe hg (PE.append (cs := cs) ho hd hdn ht hs (by simp [liveRow, h2]) hx hleaf h63 hbytes ?_)
    rw [hd]
    exact absH (h _)

/-! two operations in whatever order -/
section
variable {P : Program} {W : Env} {n : Nat} {F : PFrame} {H : PHeap} {ops : Array Oper} {K : PFrame → PHeap → Prop} {fuel : Nat} {listed : Array Bool}
theorem PA.one {i : Nat} {o : Oper} (hr : Region.ready .any ops listed = [i]) (ho : ops[i]? = some o) (hg : o.guard = none) (h : PE P W n o F H fun p H' => PA P W n ops K fuel (listed.setIfInBounds i true) (F.put o.dst p) H') : PA P W n ops K (fuel + 1) listed F H :=
  ⟨fun h0 => (by rw [hr] at h0; cases h0), fun j hj => by
    rw [hr] at hj
    simp at hj; subst hj
    exact ⟨o, ho, by unfold wantedP; rw [hg], h⟩⟩
theorem PA.two {i i' : Nat} {o o' : Oper} (hr : Region.ready .any ops listed = [i, i']) (ho : ops[i]? = some o) (ho' : ops[i']? = some o') (hg : o.guard = none) (hg' : o'.guard = none) (h : PE P W n o F H fun p H' => PA P W n ops K fuel (listed.setIfInBounds i true) (F.put o.dst p) H')
    (h' : PE P W n o' F H fun p H' => PA P W n ops K fuel (listed.setIfInBounds i' true) (F.put o'.dst p) H') : PA P W n ops K (fuel + 1) listed F H :=
  ⟨fun h0 => (by rw [hr] at h0; cases h0), fun j hj => by
    rw [hr] at hj
    simp at hj
    rcases hj with rfl | rfl
    · exact ⟨o, ho, by unfold wantedP; rw [hg], h⟩
    · exact ⟨o', ho', by unfold wantedP; rw [hg'], h'⟩⟩
theorem PE.k {o : Oper} {p : PV} {k : PV → PHeap → Prop} (hd : dstOk n o) (hp : pstep P H F o = some p) (hk : k p H) : PE P W n o F H k := PE.quiet hd (pstep_sound hp) hk
theorem PE.storeA {o : Oper} {t T : TypeId} {x y : Operand} {id off ver k : Nat} {ag : Bool} {cs cs' ps : List PV} {v : PV} {K : PV → PHeap → Prop} (ho : o.op = .store t x y) (hd : dstOk n o) (hx : evP F x = .pp id off ver) (hH : H id = ⟨ver, some (.box T cs)⟩) (ht : asz P t = some (ag, k)) (hv : evP F y = v) (hok : okC H v = true) (hvc : v.cells = ps) (hlen : ps.length = k) (hfit : off + k ≤ cs.length) (hcs : setMany cs off ps = cs')
    (h : ∀ H', H' id = ⟨ver, some (.box T cs')⟩ → (∀ j, j ≠ id → H' j = H j) → K (.u undef) H') : PE P W n o F H K := by
  subst hv; subst hvc; subst hcs
  exact PE.store ho hd hx (cs := cs) (by simp [liveCells, hH]) ht hok hlen hfit (bd := .box T cs) (by rw [hH]) (absH h)
theorem PA.done (hr : Region.ready .any ops listed = []) (h : K F H) : PA P W n ops K 0 listed F H := ⟨hr, h⟩
end
end Go.Proofs.Ytficeeaaaijgcaa
