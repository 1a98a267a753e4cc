/-
  A run of pure values: a function that carries code out, and that what it comes to is the function's contract. For closed calls: the kernel carries them out.
-/
import Derived.Test.YtficeeaaaijgcaaLm
namespace Go.Proofs.Ytficeeaaaijgcaa.L
open Go Go.RowKit
set_option linter.unusedVariables false
set_option linter.unusedSimpArgs false

/-! what a slot tells, without the call's own heap -/
mutual
def noPB : PV → Bool
  | .u _ => true
  | .agg cs => noPBs cs
  | .tup cs => noPBs cs
  | .sl _ cs => noPBs cs
  | .rp cs => noPBs cs
  | .fn _ a b => noPBs a && noPBs b
  | _ => false
def noPBs : List PV → Bool
  | [] => true
  | c :: cs => noPB c && noPBs cs
end
mutual
theorem noPB_sound : ∀ {p : PV}, noPB p = true → NoP p
  | .u v, _ => .u v
  | .agg cs, h => .agg cs (noPBs_sound (by simpa [noPB] using h))
  | .tup cs, h => .tup cs (noPBs_sound (by simpa [noPB] using h))
  | .sl k cs, h => .sl k cs (noPBs_sound (by simpa [noPB] using h))
  | .rp cs, h => .rp cs (noPBs_sound (by simpa [noPB] using h))
  | .fn f a b, h => by
    simp only [noPB, Bool.and_eq_true] at h
    exact .fn f a b (noPBs_sound h.1) (noPBs_sound h.2)
  | .unk, h => by simp [noPB] at h
  | .ps _ _, h => by simp [noPB] at h
  | .pp _ _ _, h => by simp [noPB] at h
theorem noPBs_sound : ∀ {cs : List PV}, noPBs cs = true → ∀ c ∈ cs, NoP c
  | [], _, c, hc => by cases hc
  | d :: cs, h, c, hc => by
    simp only [noPBs, Bool.and_eq_true] at h
    rcases List.mem_cons.1 hc with e | hc
    · rw [e]; exact noPB_sound h.1
    · exact noPBs_sound h.2 c hc
end
def scB : PV → Bool
  | .u _ => true
  | .agg cs => cs.all fun c => match c with | .u _ => true | _ => false
  | .tup cs => cs.all fun c => match c with | .u _ => true | .agg ds => (ds.all fun d => match d with | .u _ => true | _ => false) | _ => false
  | _ => false
theorem allU {cs : List PV} (h : (cs.all fun c => match c with | .u _ => true | _ => false) = true) : ∀ c ∈ cs, Sc c := fun c hc => by
  have := List.all_eq_true.1 h c hc
  cases c <;> first | exact .u _ | simp at this
theorem scB_sound {p : PV} (h : scB p = true) : Sc p := by
  cases p <;> simp only [scB] at h
  case u v => exact .u v
  case agg cs => exact .agg cs (allU h)
  case tup cs =>
    refine .tup cs fun c hc => ?_
    have := List.all_eq_true.1 h c hc
    cases c <;> first | exact .u _ | (simp only at this; exact .agg _ (allU this)) | simp at this
  all_goals cases h

/-- cells in pieces of k -/
def chunk (k : Nat) : Nat → List PV → List PV
  | 0, _ => []
  | m + 1, cs => .agg (cs.take k) :: chunk k m (cs.drop k)
theorem chunk_flat (k : Nat) : ∀ (m : Nat) (cs : List PV), cs.length = m * k → (chunk k m cs).flatMap PV.cells = cs ∧ (∀ y ∈ chunk k m cs, y.cells.length = k) ∧ (chunk k m cs).length = m
  | 0, cs, h => by simp at h; subst h; simp [chunk]
  | m + 1, cs, h => by
    rw [Nat.add_mul, Nat.one_mul] at h
    obtain ⟨h1, h2, h3⟩ := chunk_flat k m (cs.drop k) (by simp; omega)
    refine ⟨?_, fun y hy => ?_, by simp [chunk, h3]⟩
    · rw [chunk, List.flatMap_cons, h1]; simp [PV.cells]
    · rw [chunk, List.mem_cons] at hy
      rcases hy with rfl | hy
      · simp [PV.cells]; omega
      · exact h2 y hy

def viewC (H : PHeap) : Nat → PV → Option PV
  | 0, _ => none
  | d + 1, p =>
    if noPB p then some p else
    match p with
    | .agg cs => (cs.mapM (viewC H d)).map .agg
    | .tup cs => (cs.mapM (viewC H d)).map .tup
    | .ps id ver =>
      match (H id).body with
      | some (.row t k m cs) =>
        if (H id).ver = ver ∧ cs.length = m * k then
          match cs.mapM (viewC H d) with
          | some ds => if k = 1 then (if ds.all (fun q => match q with | .agg _ => false | _ => true) then some (.sl 1 ds) else none) else some (.sl k (chunk k m ds))
          | none => none
        else none
      | _ => none
    | .pp id off ver =>
      match liveCells H id ver with
      | some cs => if off ≤ cs.length then ((cs.drop off).mapM (viewC H d)).map .rp else none
      | none => none
    | _ => none

theorem mapM_len {f : PV → Option PV} : ∀ {cs ds : List PV}, cs.mapM f = some ds → cs.length = ds.length ∧ ∀ (i : Nat) (p q : PV), cs[i]? = some p → ds[i]? = some q → f p = some q
  | [], ds, h => by simp at h; subst h; exact ⟨rfl, fun i p q h => by simp at h⟩
  | c :: cs, ds, h => by
    simp only [List.mapM_cons, bind_pure_comp, Option.bind_eq_bind] at h
    cases h1 : f c with
    | none => rw [h1] at h; cases h
    | some d =>
      cases h2 : cs.mapM f with
      | none => rw [h1, h2] at h; cases h
      | some ds' =>
        rw [h1, h2] at h
        simp at h
        subst h
        obtain ⟨a, b⟩ := mapM_len h2
        refine ⟨by simp [a], fun i p q h3 h4 => ?_⟩
        cases i with
        | zero => simp at h3 h4; subst h3 h4; exact h1
        | succ i => exact b i p q (by simpa using h3) (by simpa using h4)

theorem cells_leaf {ds : List PV} (h : (ds.all fun q => match q with | .agg _ => false | _ => true) = true) : (∀ y ∈ ds, y.cells = [y]) ∧ ds.flatMap PV.cells = ds := by
  have h1 : ∀ y ∈ ds, y.cells = [y] := fun y hy => by
    have := List.all_eq_true.1 h y hy
    cases y <;> first | rfl | simp at this
  refine ⟨h1, ?_⟩
  clear h
  induction ds with
  | nil => rfl
  | cons d ds ih => rw [List.flatMap_cons, h1 d (by simp), ih fun y hy => h1 y (by simp [hy])]; rfl

theorem viewC_sound {H : PHeap} : ∀ (d : Nat) (p q : PV), viewC H d p = some q → View H p q ∧ NoP q
  | 0, p, q, h => by simp [viewC] at h
  | d + 1, p, q, h => by
    unfold viewC at h
    split at h
    · rename_i hn
      cases h
      exact ⟨View.noP (noPB_sound hn), noPB_sound hn⟩
    · split at h
      · rename_i cs _
        obtain ⟨ds, hds, rfl⟩ := Option.map_eq_some_iff.1 h
        obtain ⟨a, b⟩ := mapM_len hds
        refine ⟨View.agg a fun i p q h1 h2 => (viewC_sound d p q (b i p q h1 h2)).1, .agg _ fun c hc => ?_⟩
        obtain ⟨i, hi, rfl⟩ := List.getElem_of_mem hc
        exact (viewC_sound d _ _ (b i _ _ (List.getElem?_eq_getElem (by omega)) (List.getElem?_eq_getElem hi))).2
      · rename_i cs _
        obtain ⟨ds, hds, rfl⟩ := Option.map_eq_some_iff.1 h
        obtain ⟨a, b⟩ := mapM_len hds
        refine ⟨View.tup a fun i p q h1 h2 => (viewC_sound d p q (b i p q h1 h2)).1, .tup _ fun c hc => ?_⟩
        obtain ⟨i, hi, rfl⟩ := List.getElem_of_mem hc
        exact (viewC_sound d _ _ (b i _ _ (List.getElem?_eq_getElem (by omega)) (List.getElem?_eq_getElem hi))).2
      · rename_i id ver _
        split at h
        · rename_i t k m cs hb
          split at h
          · rename_i hv
            cases hds : cs.mapM (viewC H d) with
            | none => rw [hds] at h; cases h
            | some ds =>
              rw [hds] at h
              simp only at h
              obtain ⟨a, b⟩ := mapM_len hds
              have hl : liveRow H id ver = some (t, k, m, cs) := by unfold liveRow; rw [hb]; simp [hv.1]
              have hno : ∀ c ∈ ds, NoP c := fun c hc => by
                obtain ⟨i, hi, rfl⟩ := List.getElem_of_mem hc
                exact (viewC_sound d _ _ (b i _ _ (List.getElem?_eq_getElem (by omega)) (List.getElem?_eq_getElem hi))).2
              split at h
              · rename_i hk
                subst hk
                split at h
                · rename_i hleaf
                  cases h
                  obtain ⟨c1, c2⟩ := cells_leaf hleaf
                  refine ⟨View.row hl ds (by omega) (fun y hy => by rw [c1 y hy]; rfl) fun i p q h1 h2 => ?_, .sl _ _ hno⟩
                  rw [c2] at h2
                  exact (viewC_sound d p q (b i p q h1 h2)).1
                · cases h
              · cases h
                obtain ⟨c1, c2, c3⟩ := chunk_flat k m ds (by omega)
                refine ⟨View.row hl _ c3 c2 fun i p q h1 h2 => ?_, .sl _ _ fun c hc => ?_⟩
                · rw [c1] at h2
                  exact (viewC_sound d p q (b i p q h1 h2)).1
                · have : ∀ (m : Nat) (ds : List PV), (∀ c ∈ ds, NoP c) → ∀ c ∈ chunk k m ds, NoP c := by
                    intro m
                    induction m with
                    | zero => intro ds _ c hc; simp [chunk] at hc
                    | succ m ih =>
                      intro ds hd c hc
                      rw [chunk, List.mem_cons] at hc
                      rcases hc with rfl | hc
                      · exact .agg _ fun x hx => hd x (List.mem_of_mem_take hx)
                      · exact ih _ (fun x hx => hd x (List.mem_of_mem_drop hx)) c hc
                  exact this m ds hno c hc
          · cases h
        · cases h
      · rename_i id off ver _
        cases hl : liveCells H id ver with
        | none => rw [hl] at h; cases h
        | some cs =>
          rw [hl] at h
          simp only at h
          split at h
          · rename_i hoff
            obtain ⟨ds, hds, rfl⟩ := Option.map_eq_some_iff.1 h
            obtain ⟨a, b⟩ := mapM_len hds
            refine ⟨View.pp hl (by simp at a; omega) fun i p q h1 h2 => (viewC_sound d p q (b i p q (by rw [List.getElem?_drop]; exact h1) h2)).1, .rp _ fun c hc => ?_⟩
            obtain ⟨i, hi, rfl⟩ := List.getElem_of_mem hc
            exact (viewC_sound d _ _ (b i _ _ (List.getElem?_eq_getElem (by omega)) (List.getElem?_eq_getElem hi))).2
          · cases h
      · cases h
end Go.Proofs.Ytficeeaaaijgcaa.L
