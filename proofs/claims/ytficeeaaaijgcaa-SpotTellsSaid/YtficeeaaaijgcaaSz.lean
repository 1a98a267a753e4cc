/-
  The package spot: what its functions tell of an expression; the reference's functions over pure values.
-/
import Derived.Test.YtficeeaaaijgcaaSx
import Derived.Test.YtficeeaaaijgcaaSy
import Derived.Test.YtficeeaaaijgcaaR10e
namespace Go.Proofs.Ytficeeaaaijgcaa
open Go Go.RowKit L
set_option linter.unusedVariables false
set_option linter.unusedSimpArgs false

theorem L.PCallOwn.roK {P : Program} {f : FuncId} {qs : List PV} {t : TypeId} {k : Nat} {R : Nat → List Value → Prop} (h : PCallOwn P f qs t k R) (xs : List PV) (hR : ∀ n us, R n us → n = xs.length ∧ us.map PV.u = xs.flatMap PV.cells) (hc : ∀ y ∈ xs, y.cells.length = k) (hk : 0 < k) (hnp : ∀ y ∈ xs, NoP y) : PCall P f qs (· = .sl k xs) := fun Z w vs hz ha =>
  (h w vs ⟨ha.1, fun i p v h1 h2 => (ha.2 i p v h1 h2).mono (fun b hb hlt => ⟨fun hq => (pz_empty.1 hq).elim, hlt, fun _ => rfl⟩) (fun _ => Nat.le_refl _) (fun id ver _ h1 h2 => ⟨h1, h2, rfl⟩)⟩).mono fun e w' ⟨v, n, us, h1, h2, ho, h4, hb⟩ => by
    obtain ⟨rfl, hus⟩ := hR n us h2
    refine ⟨v, _, h1, rfl, .sl _ _ hnp, ?_, hb⟩
    · rcases ho.2 with ⟨e, h0⟩ | ⟨g, cap, cur, e, hg, hh, hcap, _, _, htake⟩
      · have : xs = [] := List.eq_nil_of_length_eq_zero h0
        subst this
        rw [e]
        exact .nil _ _ _
      · rw [e]
        have := Rp.sl (Z := Z) (H := PHeap.empty) (V := V0) (w := w') k xs g 0 cap (fun i => (us[i]?).getD undef) hc (by simpa using hcap) (fun hq => by have := hz g (pz_empty.1 hq); omega) (Array.getElem?_eq_some_iff.1 hh).1 (fun i p hi => by
          rw [← hus, List.getElem?_map] at hi
          cases hu : us[i]? with
          | none => rw [hu] at hi; cases hi
          | some u =>
            have := ho.cells (g := g) (by rw [e]; rfl) i u hu
            rw [addr_add] at this
            simpa using this) (fun i p hi => by
          rw [← hus, List.getElem?_map] at hi
          cases hu : us[i]? with
          | none => rw [hu] at hi; cases hi
          | some u => rw [hu] at hi; cases hi; exact .u _)
        exact this

theorem owI_pcall {f : FuncId} {qs : List PV} {L : List Int} (h : PCallOwn Try.prog f qs 3 1 (fun n us => n = L.length ∧ us = L.map (.int .i64))) : PCall Try.prog f qs (· = slI L) :=
  h.ro.weak fun p ⟨us, ⟨_, h⟩, hp⟩ => by rw [hp, h, List.map_map]; rfl

theorem refFirst_good (l : List Rx) (e : E) (he : WfX l e) : PCall Try.prog 17 [slX l] (· = slI (firstT e 0)) := owI_pcall fun w vs h => by
  obtain ⟨v, rfl, h1⟩ := rpl1 h
  exact (ref10_First_any v l e w (rdX_of h1) he).mono fun e' w' ⟨v', he, ho, hb⟩ => ⟨v', _, _, he, ⟨rfl, rfl⟩, ho, fun u hu => by obtain ⟨z, _, rfl⟩ := List.mem_map.1 hu; rfl, hb⟩
theorem refLast_good (l : List Rx) (e : E) (he : WfX l e) : PCall Try.prog 19 [slX l] (· = slI (lastT e 0)) := owI_pcall fun w vs h => by
  obtain ⟨v, rfl, h1⟩ := rpl1 h
  exact (ref10_Last_any v l e w (rdX_of h1) he).mono fun e' w' ⟨v', he, ho, hb⟩ => ⟨v', _, _, he, ⟨rfl, rfl⟩, ho, fun u hu => by obtain ⟨z, _, rfl⟩ := List.mem_map.1 hu; rfl, hb⟩
theorem refFree_good (l : List Rx) (e : E) (he : WfX l e) : PCall Try.prog 23 [slX l] (· = B (freeT e)) := fun Z w vs hz h => by
  obtain ⟨v, rfl, h1⟩ := rpl1 h
  exact (ref10_Free_any v l e w (rdX_of h1) he).mono fun e' w' ⟨he, hw⟩ => ⟨_, _, he, rfl, .u _, .u _, by subst hw; exact Below.refl _ _⟩
theorem refFollow_good (l : List Rx) (e : E) (i : Int) (he : WfX l e) : PCall Try.prog 21 [slX l, I i] (· = slI (folR e i)) := owI_pcall fun w vs h => by
  obtain ⟨v, u, rfl, h1, h2⟩ := rpl2 h
  rw [rpu h2]
  exact (ref10_Follow_any v l e i w (rdX_of h1) he).mono fun e' w' ⟨v', he, ho, hb⟩ => ⟨v', _, _, he, ⟨rfl, rfl⟩, ho, fun u hu => by obtain ⟨z, _, rfl⟩ := List.mem_map.1 hu; rfl, hb⟩
theorem refSets_ok (l : List Rx) : PCall Try.prog 14 [slX l] (· = slS (setsL l)) :=
  L.PCallOwn.roK (t := 28) (R := fun n us => n = (setsL l).length ∧ us = (setsL l).flatMap setCells) (fun w vs h => by
    obtain ⟨v, rfl, h1⟩ := rpl1 h
    exact (ref10_Sets_any v l w (rdX_of h1)).mono fun e' w' ⟨v', he, ho, hb⟩ => ⟨v', _, _, he, ⟨rfl, rfl⟩, ho, fun u hu => by
      obtain ⟨z, _, hz⟩ := List.mem_flatMap.1 hu
      simp [setCells] at hz
      rcases hz with rfl | rfl | rfl | rfl <;> rfl, hb⟩) ((setsL l).map encS) (fun n us ⟨h1, h2⟩ => ⟨by simp [h1], by
        rw [h2, setCs_map]
        generalize setsL l = m
        induction m with
        | nil => rfl
        | cons x m ih => simp only [List.flatMap_cons, List.map_append, setCs] at *; rw [ih]; rfl⟩) (fun y hy => by obtain ⟨z, _, rfl⟩ := List.mem_map.1 hy; rfl) (by decide) (fun y hy => by
          obtain ⟨z, _, rfl⟩ := List.mem_map.1 hy
          exact .agg _ (fun c hc => by simp at hc; rcases hc with rfl | rfl | rfl | rfl <;> exact .u _))

/-! what spot tells -/
theorem sp_of {l : List Rx} {e : E} (he : WfX l e) : spSets l = setsT e ∧ spFirst l = firstT e 0 ∧ spLast l = lastT e 0 ∧ spFree l = freeT e ∧ ∀ i, spFollow l i = folR e i := by
  have hc := he.check
  obtain ⟨_, rfl⟩ := he
  obtain ⟨fol, hr, hf⟩ := runS_post e
  refine ⟨?_, ?_, ?_, ?_, fun i => ?_⟩
  · unfold spSets; rw [if_pos hc, hr]
  · unfold spFirst topS; rw [if_pos hc, hr]; rfl
  · unfold spLast topS; rw [if_pos hc, hr]; rfl
  · unfold spFree topS; rw [if_pos hc, hr]; rfl
  · have htn : (topS (post e)).n = nset e := by unfold topS; rw [hr]; rfl
    unfold folR
    by_cases hi : 0 ≤ i ∧ i < nset e
    · rw [if_pos hi]
      unfold spFollow
      rw [if_pos ⟨hc, hi.1, by rw [htn]; exact hi.2⟩, hr]
      obtain ⟨u, rfl⟩ : ∃ u : Nat, i = (u : Int) := ⟨i.toNat, by omega⟩
      have hu : u < fol.length := by rw [hf.len]; omega
      obtain ⟨r, m⟩ := hf.new u _ (by omega) (List.getElem?_eq_getElem hu)
      simp only [Int.toNat_natCast, List.getElem?_eq_getElem hu, Option.getD_some]
      refine rise_ext r ?_ fun j => ?_
      · unfold folL
        refine List.Pairwise.sublist List.filter_sublist ?_
        rw [List.pairwise_map]
        exact List.pairwise_lt_range.imp fun h => by omega
      · rw [m]
        simp only [folL, List.mem_filter, List.mem_map, List.mem_range]
        constructor
        · intro h
          have := (fol_in e _ _ _ h).2
          exact ⟨⟨j.toNat, by omega, by omega⟩, (folB_iff e _ _ _).2 h⟩
        · rintro ⟨_, h⟩
          exact (folB_iff e _ _ _).1 h
    · rw [if_neg hi]; unfold spFollow; rw [if_neg (fun h => hi ⟨h.2.1, by rw [← htn]; exact h.2.2⟩)]
end Go.Proofs.Ytficeeaaaijgcaa
