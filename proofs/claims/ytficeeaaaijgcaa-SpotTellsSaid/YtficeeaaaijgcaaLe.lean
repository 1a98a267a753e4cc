/-
  The rest of the quiet operations; the function 'pstep' over all of them; what a call owns, when a block of it is made anew, or written.
-/
import Derived.Test.YtficeeaaaijgcaaLd
namespace Go.Proofs.Ytficeeaaaijgcaa.L
open Go Go.RowKit
set_option linter.unusedVariables false
set_option linter.unusedSimpArgs false
section
variable {P : Program} {W : Env} {n : Nat} {H : PHeap} {F : PFrame}

/-! a value out of parts -/
def setMany {α : Type} (cs : List α) (off : Nat) (ps : List α) : List α := cs.take off ++ ps ++ cs.drop (off + ps.length)

theorem setMany_get {α : Type} (cs ps : List α) (off : Nat) (h : off + ps.length ≤ cs.length) (i : Nat) : (setMany cs off ps)[i]? = if off ≤ i ∧ i < off + ps.length then ps[i - off]? else cs[i]? := by
  unfold setMany
  have hl : (cs.take off).length = off := by simp; omega
  by_cases h1 : i < off
  · rw [if_neg (by omega), List.append_assoc, List.getElem?_append_left (by omega), List.getElem?_take, if_pos h1]
  · by_cases h2 : i < off + ps.length
    · rw [if_pos ⟨by omega, h2⟩, List.append_assoc, List.getElem?_append_right (by omega), hl, List.getElem?_append_left (by omega)]
    · rw [if_neg (by omega), List.getElem?_append_right (by simp; omega), List.getElem?_drop]
      congr 1
      simp
      omega
theorem setMany_length {α : Type} (cs ps : List α) (off : Nat) (h : off + ps.length ≤ cs.length) : (setMany cs off ps).length = cs.length := by
  unfold setMany; simp; omega

theorem fold_set (off : Nat) : ∀ (l : List Value) (k : Nat) (cells : Array Value), off + k + l.length ≤ cells.size →
    ((l.zipIdx k).foldl (fun cs (x : Value × Nat) => cs.setIfInBounds (off + x.2) x.1) cells).toList = setMany cells.toList (off + k) l
  | [], k, cells, h => by simp [setMany]
  | v :: l, k, cells, h => by
    simp only [List.zipIdx_cons, List.foldl_cons]
    rw [fold_set off l (k + 1) _ (by simp at h ⊢; omega)]
    simp only [List.length_cons] at h
    apply List.ext_getElem?
    intro i
    rw [setMany_get _ _ _ (by simp; omega), setMany_get _ _ _ (by simp; omega)]
    simp only [List.length_cons, Array.toList_setIfInBounds]
    by_cases h1 : i = off + k
    · subst h1
      rw [if_neg (by omega), if_pos (by omega), List.getElem?_set, if_pos rfl, if_pos (by simp; omega), Nat.sub_self]
      simp
    · by_cases h2 : off + (k + 1) ≤ i ∧ i < off + (k + 1) + l.length
      · rw [if_pos h2, if_pos (by omega), show i - (off + k) = (i - (off + (k + 1))) + 1 by omega, List.getElem?_cons_succ]
      · rw [if_neg h2, if_neg (by omega), List.getElem?_set, if_neg (by omega)]

def fillP (H : PHeap) (places : List (Nat × Nat)) : List PV → List (Nat × PV) → Option (List PV)
  | cs, [] => some cs
  | cs, (i, p) :: rest =>
    match places[i]? with
    | none => none
    | some (off, size) => if p.cells.length = size ∧ off + size ≤ cs.length ∧ okC H p = true then fillP H places (setMany cs off p.cells) rest else none

theorem RpL.setMany {V : Nat → Value} {w : World} {cs ps : List PV} {vs us : List Value} (h : RpL W.Z H V w cs vs) (h2 : RpL W.Z H V w ps us) {off : Nat} (hl : off + ps.length ≤ cs.length) : RpL W.Z H V w (setMany cs off ps) (setMany vs off us) := by
  have e1 := h.1
  have e2 := h2.1
  refine ⟨by rw [setMany_length _ _ _ hl, setMany_length _ _ _ (by omega), e1], fun i p v h3 h4 => ?_⟩
  rw [setMany_get _ _ _ hl] at h3
  rw [setMany_get _ _ _ (by omega), ← e2] at h4
  split at h3
  · rename_i hc; rw [if_pos hc] at h4; exact h2.2 _ p v h3 h4
  · rename_i hc; rw [if_neg hc] at h4; exact h.2 _ p v h3 h4

theorem mem_setMany {α : Type} {cs ps : List α} {off : Nat} {x : α} (h : x ∈ setMany cs off ps) : x ∈ cs ∨ x ∈ ps := by
  unfold setMany at h
  simp only [List.mem_append] at h
  rcases h with (h | h) | h
  · exact .inl (List.mem_of_mem_take h)
  · exact .inr h
  · exact .inl (List.mem_of_mem_drop h)

/-- parts told, with the values that they are -/
def RpParts (Z : Nat → Prop) (H : PHeap) (V : Nat → Value) (w : World) (ps : List (Nat × PV)) (vs : List (Nat × Value)) : Prop := ps.length = vs.length ∧ ∀ (i : Nat) (p : Nat × PV) (v : Nat × Value), ps[i]? = some p → vs[i]? = some v → p.1 = v.1 ∧ Rp Z H V w p.2 v.2

theorem fill_sound {V : Nat → Value} {w : World} (hr : HRel P W H V w) {place : Nat → Option (Nat × Nat)} {places : List (Nat × Nat)} (hp : ∀ (i : Nat) (x : Nat × Nat), places[i]? = some x → place i = some x) : ∀ (ps : List (Nat × PV)) (vs : List (Nat × Value)) (cs : List PV) (arr : Array Value) (q : List PV),
    RpParts W.Z H V w ps vs → RpL W.Z H V w cs arr.toList → (∀ v ∈ arr.toList, v.oneCell' = true) → fillP H places cs ps = some q → ∃ r, Instr.fill place arr vs = some r ∧ RpL W.Z H V w q r.toList ∧ ∀ v ∈ r.toList, v.oneCell' = true
  | [], [], cs, arr, q, _, hc, h1, hq => by simp only [fillP, Option.some.injEq] at hq; subst hq; exact ⟨arr, rfl, hc, h1⟩
  | [], _ :: _, _, _, _, h, _, _, _ => by have := h.1; simp at this
  | _ :: _, [], _, _, _, h, _, _, _ => by have := h.1; simp at this
  | (i, p) :: ps, (j, v) :: vs, cs, arr, q, h, hc, h1, hq => by
    obtain ⟨e, hpv⟩ := h.2 0 _ _ rfl rfl
    simp only at e hpv
    subst e
    simp only [fillP] at hq
    split at hq
    · cases hq
    · rename_i off size hpl
      split at hq
      · rename_i hcond
        obtain ⟨hk, hoff, hok⟩ := hcond
        obtain ⟨hcells, hone⟩ := hpv.cells hr hok
        have hvs : v.cells.size = size := by rw [← hk]; have := hcells.1; simpa using this.symm
        have hasz : arr.size = cs.length := by have := hc.1; simpa using this.symm
        have hfold : (v.cells.zipIdx.foldl (fun cs (x : Value × Nat) => cs.setIfInBounds (off + x.2) x.1) arr).toList = setMany arr.toList off v.cells.toList := by
          have := fold_set off v.cells.toList 0 arr (by simp; omega)
          rw [Nat.add_zero] at this
          rw [← this, ← Array.foldl_toList, Array.toList_zipIdx]
        obtain ⟨r, hr1, hr2, hr3⟩ := fill_sound hr hp ps vs _ (v.cells.zipIdx.foldl (fun cs (x : Value × Nat) => cs.setIfInBounds (off + x.2) x.1) arr) q ⟨by have := h.1; simpa using this, fun k a b ha hb => h.2 (k + 1) a b (by simpa using ha) (by simpa using hb)⟩
          (by rw [hfold]; exact hc.setMany hcells (by omega)) (by rw [hfold]; intro u hu; rcases mem_setMany hu with hu | hu; exact h1 u hu; exact hone u hu) hq
        refine ⟨r, ?_, hr2, hr3⟩
        simp only [Instr.fill, hp i _ hpl]
        rw [if_neg (by simp [hvs]; omega)]
        exact hr1
      · cases hq

/-- a type's zero cells, and the places of its parts -/
def bldT (P : Program) (t : TypeId) : Option (List PV × List (Nat × Nat)) :=
  match (P.info? t).bind (·.zero) with
  | none => none
  | some z =>
    match P.underlying t with
    | some (.struct fs) => (fs.toList.mapM fun f => (P.info? f.type).map fun i => (f.offset, i.size)).map fun l => (z.cells.toList.map .u, l)
    | some (.array m e) => (P.info? e).map fun i => (z.cells.toList.map .u, (List.range m).map fun j => (j * i.size, i.size))
    | _ => none

theorem val_mapM {α β : Type} (f : α → Sem β) : ∀ l : List α, (l.mapM f).val P = l.mapM fun a => (f a).val P
  | [] => by simp [val_pure]
  | a :: l => by
    simp only [List.mapM_cons, val_bind, val_pure, val_mapM f l]
    rfl

theorem RpL.us {V : Nat → Value} {w : World} (vs : List Value) : RpL W.Z H V w (vs.map .u) vs := ⟨by simp, fun i p v h1 h2 => by
  rw [List.getElem?_map, h2] at h1
  cases h1
  exact .u _⟩

def buildP (P : Program) (H : PHeap) (t : TypeId) (parts : List (Nat × PV)) : Option PV :=
  match bldT P t with
  | none => none
  | some (zs, places) => if zs.all (leafOk H) then (fillP H places zs parts).map .agg else none

theorem run_buildP {V : Nat → Value} {w : World} (hr : HRel P W H V w) {t : TypeId} {ps : List (Nat × PV)} {vs : Array (Nat × Value)} {q : PV} (hp : RpParts W.Z H V w ps vs.toList) (hq : buildP P H t ps = some q) : ∃ r, (Instr.build t vs).run P w = .ok r w ∧ Rp W.Z H V w q r := by
  unfold buildP at hq
  cases hb : bldT P t with
  | none => rw [hb] at hq; cases hq
  | some zp =>
    obtain ⟨zs, places⟩ := zp
    rw [hb] at hq
    simp only at hq
    split at hq
    rotate_left
    · cases hq
    rename_i hall
    cases hf : fillP H places zs ps with
    | none => rw [hf] at hq; cases hq
    | some cs =>
      rw [hf] at hq
      cases hq
      unfold bldT at hb
      cases hz : (P.info? t).bind (·.zero) with
      | none => rw [hz] at hb; cases hb
      | some z =>
        rw [hz] at hb
        simp only at hb
        obtain ⟨ti, hti, htz⟩ := Option.bind_eq_some_iff.1 hz
        have hzero : (zeroValue t).run P w = .ok z w := by simp [zeroValue, typeInfo, hti, htz]
        have hone : ∀ cs' : List Value, zs = cs'.map .u → ∀ v ∈ cs', v.oneCell' = true := fun cs' e v hv => by
          rw [List.all_eq_true] at hall
          exact hall (.u v) (by rw [e]; exact List.mem_map_of_mem hv)
        split at hb
        · rename_i fs hu
          obtain ⟨l, hl, he⟩ := Option.map_eq_some_iff.1 hb
          cases he
          have hpl : (fs.mapM fun f => (do pure (f.offset, ← sizeOf f.type) : Sem (Nat × Nat))).run P w = .ok places.toArray w := by
            refine val_sound ?_ w
            rw [Array.mapM_eq_mapM_toList]
            show (List.toArray <$> _ : Sem _).val P = _
            rw [← bind_pure_comp, val_bind, val_mapM]
            have : (fun f : Field => (do pure (f.offset, ← sizeOf f.type) : Sem (Nat × Nat)).val P) = fun f => (P.info? f.type).map fun i => (f.offset, i.size) := by
              funext f
              cases hi : P.info? f.type with
              | none => simp [sizeOf, typeInfo, program, val_bind, val_map, Sem.val, hi, stuck]
              | some i => simp [sizeOf, typeInfo, program, val_bind, val_map, val_pure, Sem.val, hi]
            rw [this, hl]
            rfl
          obtain ⟨r, hr1, hr2, _⟩ := fill_sound hr (place := (places.toArray[·]?)) (places := places) (fun i x hx => by simpa using hx) ps vs.toList _ z.cells cs hp (RpL.us _) (hone _ rfl) hf
          refine ⟨.agg r, ?_, .agg _ _ (by simpa using hr2.1) fun i p v h1 h2 => hr2.2 i p v h1 (by simpa using h2)⟩
          unfold Instr.build
          simp only [Sem.run_bind, hzero, Result.andThen_ok, run_underlying hu, hpl, hr1, Sem.run_pure]
        · rename_i m e hu
          obtain ⟨i, hi, he⟩ := Option.map_eq_some_iff.1 hb
          cases he
          obtain ⟨r, hr1, hr2, _⟩ := fill_sound hr (place := fun j => some (j * i.size, i.size)) (places := (List.range m).map fun j => (j * i.size, i.size)) (fun j x hx => by
            rw [List.getElem?_map] at hx
            cases hj : (List.range m)[j]? with
            | none => rw [hj] at hx; cases hx
            | some j' =>
              rw [hj] at hx
              have : j' = j := by
                have := List.getElem?_eq_some_iff.1 hj
                obtain ⟨h1, h2⟩ := this
                simpa using h2.symm
              subst this
              simpa using hx) ps vs.toList _ z.cells cs hp (RpL.us _) (hone _ rfl) hf
          refine ⟨.agg r, ?_, .agg _ _ (by simpa using hr2.1) fun i p v h1 h2 => hr2.2 i p v h1 (by simpa using h2)⟩
          unfold Instr.build
          simp [Sem.run_bind, hzero, run_underlying hu, sizeOf, typeInfo, hi, hr1]
        · cases hb
end
end Go.Proofs.Ytficeeaaaijgcaa.L
