/-
  The operations that only read or make a value, told by pure values: one function 'pstep', and that the model's operation does just what it says.
-/
import Derived.Test.YtficeeaaaijgcaaLb
namespace Go.Proofs.Ytficeeaaaijgcaa.L
open Go Go.RowKit
set_option linter.unusedVariables false
set_option linter.unusedSimpArgs false

/-- what a computation yields that asks the world nothing -/
def _root_.Go.Sem.val {α : Type} (P : Program) : Sem α → Option α
  | .pure a => some a
  | .program k => (k P).val P
  | .mark _ k => k.val P
  | _ => none

theorem val_sound {α : Type} {P : Program} {s : Sem α} {a : α} (h : s.val P = some a) (w : World) : s.run P w = .ok a w := by
  induction s with
  | pure b => simp only [Sem.val, Option.some.injEq] at h; subst h; rfl
  | program k ih => simp only [Sem.val] at h; simp only [Sem.run]; exact ih P h
  | mark m k ih => simp only [Sem.val] at h; simp only [Sem.run]; exact ih h
  | _ => simp [Sem.val] at h

theorem val_bind {α β : Type} {P : Program} (s : Sem α) (f : α → Sem β) : (s >>= f).val P = (s.val P).bind fun a => (f a).val P := by
  show (s.bind f).val P = _
  induction s with
  | pure b => rfl
  | program k ih => simp only [Sem.bind, Sem.val]; exact ih P
  | mark m k ih => simp only [Sem.bind, Sem.val]; exact ih
  | _ => simp [Sem.bind, Sem.val]
theorem val_map {α β : Type} {P : Program} (s : Sem α) (f : α → β) : (f <$> s).val P = (s.val P).map f := by
  rw [← bind_pure_comp, val_bind]
  cases s.val P <;> rfl
theorem val_pure {α : Type} {P : Program} (a : α) : (Pure.pure a : Sem α).val P = some a := rfl
theorem val_ite {α : Type} {P : Program} (c : Prop) [Decidable c] (x y : Sem α) : (if c then x else y).val P = if c then x.val P else y.val P := by split <;> rfl

/-! what the table of types says -/
def esz (P : Program) (t : TypeId) : Option Nat := match P.underlying t with | some (.slice e) => (P.info? e).map (·.size) | _ => none
def arr (P : Program) (t : TypeId) : Option (Nat × Nat) := match P.underlying t with | some (.array n e) => (P.info? e).map fun i => (n, i.size) | _ => none
def isAggD : TypeDesc → Bool | .struct _ | .array _ _ => true | _ => false
def asz (P : Program) (t : TypeId) : Option (Bool × Nat) := match P.underlying t with | some d => (P.info? t).map fun i => (isAggD d, i.size) | none => none
/-- a field's place, and its type -/
def fof (P : Program) (s : TypeId) (f : Nat) : Option (Nat × TypeId) := match P.underlying s with | some (.struct fs) => (fs[f]?).map fun x => (x.offset, x.type) | _ => none
def aelem (P : Program) (t : TypeId) : Option TypeId := match P.underlying t with | some (.array _ e) => some e | _ => none

theorem run_isAgg {P : Program} {t : TypeId} {d : TypeDesc} (h : P.underlying t = some d) (w : World) : (isAgg t).run P w = .ok (isAggD d) w := by
  unfold isAgg
  rw [Sem.run_bind, run_underlying h w]
  cases d <;> simp [isAggD]

theorem asz_spec {P : Program} {t : TypeId} {g : Bool} {k : Nat} (h : asz P t = some (g, k)) (w : World) : (isAgg t).run P w = .ok g w ∧ (sizeOf t).run P w = .ok k w := by
  unfold asz at h
  cases hu : P.underlying t with
  | none => rw [hu] at h; cases h
  | some d =>
    rw [hu] at h
    simp only at h
    cases hi : P.info? t with
    | none => rw [hi] at h; cases h
    | some i =>
      rw [hi] at h
      simp only [Option.map_some, Option.some.injEq, Prod.mk.injEq] at h
      obtain ⟨h1, h2⟩ := h
      exact ⟨by rw [run_isAgg hu w, h1], by simp [sizeOf, typeInfo, hi, h2]⟩

theorem esz_spec {P : Program} {t : TypeId} {k : Nat} (h : esz P t = some k) : ∃ e i, P.underlying t = some (.slice e) ∧ P.info? e = some i ∧ i.size = k := by
  unfold esz at h
  split at h
  · rename_i e hu
    cases hi : P.info? e with
    | none => rw [hi] at h; cases h
    | some i => rw [hi] at h; exact ⟨e, i, hu, hi, by simpa using h⟩
  · cases h
theorem arr_spec {P : Program} {t : TypeId} {n k : Nat} (h : arr P t = some (n, k)) : ∃ e i, P.underlying t = some (.array n e) ∧ P.info? e = some i ∧ i.size = k := by
  unfold arr at h
  split at h
  · rename_i m e hu
    cases hi : P.info? e with
    | none => rw [hi] at h; cases h
    | some i =>
      rw [hi] at h
      simp only [Option.map_some, Option.some.injEq, Prod.mk.injEq] at h
      obtain ⟨rfl, h2⟩ := h
      exact ⟨e, i, hu, hi, h2⟩
  · cases h

/-! the quiet operations -/
section
variable {P : Program} {W : Env} {H : PHeap} {F : PFrame}

theorem PQ.of_run {o : Oper} {p : PV} (h : ∀ (V : Nat → Value) (a : Act) (w : World), HRel P W H V w → (∀ x ∈ o.op.operands, Rp W.Z H V w (evP F x) (a.eval x)) → ∃ v, (execOp a.eval o).run P w = .ok (.value v) w ∧ Rp W.Z H V w p v) : PQ P W o F H p := by
  intro V a w hr hs
  obtain ⟨v, hv, hp⟩ := h V a w hr fun x hx => Rp.eval (P := P) x fun t ht => hs t (by rw [← ht]; exact hx)
  unfold Oper.wp
  rw [hv]
  exact ⟨v, rfl, hp, Below.refl _ _⟩

/-- what is told of a value just as it is -/
def PV.val? : PV → Option Value
  | .u v => some v
  | _ => none
theorem Rp.val {V : Nat → Value} {w : World} {p : PV} {v u : Value} (h : Rp W.Z H V w p v) (hp : p.val? = some u) : v = u := by
  cases h <;> simp [PV.val?] at hp
  exact hp

/-- the cells of an own block, if it is still the one -/
def liveCells (H : PHeap) (id ver : Nat) : Option (List PV) :=
  match (H id).body with
  | some (.row _ _ _ cs) => if (H id).ver = ver then some cs else none
  | some (.box _ cs) => if (H id).ver = ver then some cs else none
  | none => none
def liveRow (H : PHeap) (id ver : Nat) : Option (TypeId × Nat × Nat × List PV) :=
  match (H id).body with
  | some (.row t k n cs) => if (H id).ver = ver then some (t, k, n, cs) else none
  | _ => none

theorem liveRow_spec {id ver : Nat} {t k n cs} (h : liveRow H id ver = some (t, k, n, cs)) : (H id).body = some (.row t k n cs) ∧ (H id).ver = ver := by
  unfold liveRow at h
  split at h
  · rename_i t' k' n' cs' hb
    split at h
    · rename_i hv
      cases h
      exact ⟨hb, hv⟩
    · cases h
  · cases h

theorem liveCells_live {id ver : Nat} {cs : List PV} (hl : liveCells H id ver = some cs) : (H id).body.isSome = true ∧ (H id).ver = ver := by
  unfold liveCells at hl
  split at hl
  · rename_i hb; split at hl
    · rename_i hvv; exact ⟨by rw [hb]; rfl, hvv⟩
    · cases hl
  · rename_i hb; split at hl
    · rename_i hvv; exact ⟨by rw [hb]; rfl, hvv⟩
    · cases hl
  · cases hl

/-- an own cell, read through the model -/
theorem own_cell {V : Nat → Value} {w : World} (hr : HRel P W H V w) {id ver g : Nat} {cs : List PV} (hl : liveCells H id ver = some cs) (hg : blockOf (V id) = some g) :
    (H id).body.isSome = true ∧ (H id).ver = ver ∧ ∀ (i : Nat) (p : PV), cs[i]? = some p → ∃ v, w.cell? ⟨g, i, none⟩ = some v ∧ Rp W.Z H V w p v := by
  unfold liveCells at hl
  split at hl
  · rename_i t k n cs' hb
    split at hl
    · rename_i hv
      cases hl
      refine ⟨by rw [hb]; rfl, hv, fun i p hi => ?_⟩
      obtain ⟨vals, ho, hR, _⟩ := hr.row id t k n cs hb
      have hlt := (List.getElem?_eq_some_iff.1 hi).1
      have hlv : i < vals.length := by rw [← hR.1]; exact hlt
      refine ⟨vals[i], ?_, hR.2 i p _ hi (List.getElem?_eq_getElem hlv)⟩
      have hob : (V id).ownBlock = some g := by
        rcases ho.2 with ⟨e, _⟩ | ⟨g', cap, cur, e, _⟩
        · rw [e] at hg; cases hg
        · rw [e] at hg ⊢; exact hg
      have := ho.cells hob i _ (List.getElem?_eq_getElem hlv)
      have hadd : (⟨g, 0, none⟩ : Addr).add i = ⟨g, i, none⟩ := by unfold Addr.add; split <;> simp_all
      rwa [hadd] at this
    · cases hl
  · rename_i t cs' hb
    split at hl
    · rename_i hv
      cases hl
      refine ⟨by rw [hb]; rfl, hv, fun i p hi => ?_⟩
      obtain ⟨g', ar, e, _, hh, hR, _⟩ := hr.box id t cs hb
      have hgg : g' = g := by rw [e] at hg; simpa [blockOf] using hg
      subst hgg
      have hlt := (List.getElem?_eq_some_iff.1 hi).1
      have hlv : i < ar.toList.length := by rw [← hR.1]; exact hlt
      have hlv' : i < ar.size := by simpa using hlv
      refine ⟨ar.toList[i], ?_, hR.2 i p _ hi (List.getElem?_eq_getElem hlv)⟩
      rw [cell_of_row w g' i ar t (0, 0) hh, Array.getElem?_eq_getElem hlv']
      simp
    · cases hl
  · cases hl

theorem addr_add (b o n : Nat) : (⟨b, o, none⟩ : Addr).add n = ⟨b, o + n, none⟩ := by unfold Addr.add; split <;> simp_all

/-- cells from a place on -/
def loadP (ag : Bool) (k : Nat) (cs : List PV) : Option PV :=
  if ag then (if k ≤ cs.length then some (.agg (cs.take k)) else none) else cs[0]?

theorem run_loadP {V : Nat → Value} {w : World} {t : TypeId} {ag : Bool} {k : Nat} (ht : asz P t = some (ag, k)) {cs : List PV} {b o : Nat} (hc : ∀ (i : Nat) (p : PV), cs[i]? = some p → ∃ v, w.cell? ⟨b, o + i, none⟩ = some v ∧ Rp W.Z H V w p v) {q : PV} (hq : loadP ag k cs = some q) :
    ∃ v, (loadVar t ⟨b, o, none⟩).run P w = .ok v w ∧ Rp W.Z H V w q v := by
  obtain ⟨h1, h2⟩ := asz_spec ht w
  unfold loadP at hq
  cases ag with
  | false =>
    simp only [Bool.false_eq_true, if_false] at hq
    obtain ⟨v, hv, hp⟩ := hc 0 q hq
    refine ⟨v, ?_, hp⟩
    rw [Nat.add_zero] at hv
    unfold loadVar
    simp [Sem.run_bind, h1, hv]
  | true =>
    simp only [if_true] at hq
    split at hq
    · rename_i hk
      cases hq
      have hcell : ∀ i, i < k → ∃ v, w.cell? ⟨b, o + i, none⟩ = some v ∧ ∀ p, cs[i]? = some p → Rp W.Z H V w p v := fun i hi => by
        obtain ⟨v, hv, hp⟩ := hc i cs[i] (List.getElem?_eq_getElem (by omega))
        exact ⟨v, hv, fun p hp' => by rw [List.getElem?_eq_getElem (by omega)] at hp'; cases hp'; exact hp⟩
      have hf : ∃ f : Nat → Value, ∀ i, i < k → w.cell? ⟨b, o + i, none⟩ = some (f i) ∧ ∀ p, cs[i]? = some p → Rp W.Z H V w p (f i) := by
        refine ⟨fun i => ((w.cell? ⟨b, o + i, none⟩).getD undef), fun i hi => ?_⟩
        obtain ⟨v, hv, hp⟩ := hcell i hi
        simp only [hv, Option.getD_some]
        exact ⟨trivial, hp⟩
      obtain ⟨f, hf⟩ := hf
      have hl := run_loadCells (P := P) w ⟨b, o, none⟩ k f (fun j hj => by rw [addr_add]; exact (hf j hj).1)
      refine ⟨.agg ((List.range k).map f).toArray, by unfold loadVar; simp [Sem.run_bind, h1, h2, hl], .agg _ _ (by simp; omega) fun i p v h3 h4 => ?_⟩
      rw [List.getElem?_take] at h3
      split at h3
      · rename_i hi
        have h5 : v = f i := by
          simp [hi] at h4
          exact h4.symm
        rw [h5]
        exact (hf i hi).2 p h3
      · cases h3
    · cases hq

def loadAtP (P : Program) (H : PHeap) (t : TypeId) (x : PV) : Option PV :=
  match asz P t with
  | none => none
  | some (ag, k) =>
    match x with
    | .rp cs => loadP ag k cs
    | .pp id off ver => (liveCells H id ver).bind fun cs => loadP ag k (cs.drop off)
    | _ => none

theorem run_loadAtP {V : Nat → Value} {w : World} (hr : HRel P W H V w) {t : TypeId} {y q : PV} {v : Value} (hx : Rp W.Z H V w y v) (hq : loadAtP P H t y = some q) : ∃ u, (Instr.loadAt t v).run P w = .ok u w ∧ Rp W.Z H V w q u := by
  unfold loadAtP at hq
  cases ha : asz P t with
  | none => rw [ha] at hq; cases hq
  | some gk =>
    obtain ⟨ag, k⟩ := gk
    rw [ha] at hq
    simp only at hq
    split at hq
    · rename_i cs
      cases hx with
      | rp _ b o g hz hb h1 h2 =>
        obtain ⟨u, hu, hp⟩ := run_loadP ha (fun i p hi => ⟨g i, h1 i p hi, h2 i p hi⟩) hq
        exact ⟨u, by simp [Instr.loadAt, Instr.sureAddr, hu], hp⟩
    · rename_i id off ver
      cases hl : liveCells H id ver with
      | none => rw [hl] at hq; cases hq
      | some cs =>
        rw [hl] at hq
        simp only [Option.bind_some] at hq
        cases hx with
        | pp _ _ _ _ hv h =>
          have hlive := liveCells_live hl
          obtain ⟨g, hg, rfl⟩ := h hlive.1 hlive.2
          obtain ⟨_, _, hc⟩ := own_cell hr hl hg
          obtain ⟨u, hu, hp⟩ := run_loadP (P := P) (W := W) (H := H) (V := V) (w := w) (b := g) (o := off) ha (cs := cs.drop off) (fun i p hi => by
            rw [List.getElem?_drop] at hi
            exact hc _ p hi) hq
          exact ⟨u, by simp [Instr.loadAt, Instr.sureAddr, hu], hp⟩
    · cases hq

def fieldAddrP (P : Program) (H : PHeap) (s : TypeId) (f : Nat) (x : PV) : Option PV :=
  match fof P s f with
  | none => none
  | some (off, t) =>
    match asz P t with
    | some (_, k) => if k = 0 then none else
      match x with
      | .rp cs => some (.rp (cs.drop off))
      | .pp id o ver => (liveCells H id ver).map fun _ => .pp id (o + off) ver
      | _ => none
    | none => none

theorem fof_spec {s : TypeId} {f off : Nat} {t : TypeId} (h : fof P s f = some (off, t)) : ∃ fs x, P.underlying s = some (.struct fs) ∧ fs[f]? = some x ∧ x.offset = off ∧ x.type = t := by
  unfold fof at h
  split at h
  · rename_i fs hu
    cases hx : fs[f]? with
    | none => rw [hx] at h; cases h
    | some x =>
      rw [hx] at h
      simp only [Option.map_some, Option.some.injEq, Prod.mk.injEq] at h
      exact ⟨fs, x, hu, hx, h.1, h.2⟩
  · cases h

theorem Rp.rp_drop {V : Nat → Value} {w : World} {cs : List PV} {b o : Nat} (h : Rp W.Z H V w (.rp cs) (.pointer (some ⟨b, o, none⟩))) (d : Nat) : Rp W.Z H V w (.rp (cs.drop d)) (.pointer (some ⟨b, o + d, none⟩)) := by
  cases h with
  | rp _ _ _ g hz hb h1 h2 =>
    exact .rp _ b (o + d) (fun i => g (d + i)) hz hb (fun i p hi => by rw [List.getElem?_drop] at hi; rw [Nat.add_assoc]; exact h1 _ p hi) (fun i p hi => by rw [List.getElem?_drop] at hi; exact h2 _ p hi)

theorem run_fieldAddrP {V : Nat → Value} {w : World} {s : TypeId} {f : Nat} {y q : PV} {v : Value} (hx : Rp W.Z H V w y v) (hq : fieldAddrP P H s f y = some q) :
    ∃ u, (Instr.fieldAt s v f).run P w = .ok u w ∧ Rp W.Z H V w q u := by
  unfold fieldAddrP at hq
  cases hf : fof P s f with
  | none => rw [hf] at hq; cases hq
  | some ot =>
    obtain ⟨off, t⟩ := ot
    rw [hf] at hq
    simp only at hq
    obtain ⟨fs, fx, hu, hfx, rfl, rfl⟩ := fof_spec hf
    cases ha : asz P fx.type with
    | none => rw [ha] at hq; cases hq
    | some gk =>
      obtain ⟨ag, k⟩ := gk
      rw [ha] at hq
      simp only at hq
      split at hq
      · cases hq
      · rename_i hk
        have hsz := (asz_spec ha w).2
        have hrun : ∀ b o, (Instr.fieldAt s (.pointer (some ⟨b, o, none⟩)) f).run P w = .ok (.pointer (some ⟨b, o + fx.offset, none⟩)) w := fun b o => by
          simp [Instr.fieldAt, run_underlying hu, hfx, Instr.sureAddr, fieldPlace, hsz, hk, addr_add]
        split at hq
        · rename_i cs
          cases hq
          cases hx with
          | rp _ b o g hz hb h1 h2 => exact ⟨_, hrun b o, Rp.rp_drop (.rp cs b o g hz hb h1 h2) _⟩
        · rename_i id o ver
          cases hl : liveCells H id ver with
          | none => rw [hl] at hq; cases hq
          | some cs =>
            rw [hl] at hq
            cases hq
            obtain ⟨h1, h2⟩ := liveCells_live hl
            cases hx with
            | pp _ _ _ _ hv' h =>
              obtain ⟨g, hg, rfl⟩ := h h1 h2
              exact ⟨_, hrun g o, .pp _ _ _ _ hv' fun _ _ => ⟨g, hg, rfl⟩⟩
        · cases hq
end
end Go.Proofs.Ytficeeaaaijgcaa.L
