/-
  Contracts of the kit's style, told by pure values.
-/
import Derived.Test.YtficeeaaaijgcaaLTab
import Derived.Test.YtficeeaaaijgcaaLq
import Derived.Test.YtficeeaaaijgcaaSpM
import Derived.Test.YtficeeaaaijgcaaRxA
namespace Go.Proofs.Ytficeeaaaijgcaa
open Go Go.RowKit L
set_option linter.unusedVariables false
set_option linter.unusedSimpArgs false

theorem rd_of {α : Type} {f : α → PV} {enc : α → Value} (hf : ∀ x, f x = .u (enc x)) {Z : Nat → Prop} {w : World} {l : List α} {v : Value} (h : Rp Z PHeap.empty V0 w (.sl 1 (l.map f)) v) : Rd enc w v l := by
  have hfl : (l.map f).flatMap PV.cells = l.map f := by
    clear h
    induction l with
    | nil => rfl
    | cons x l ih => rw [List.map_cons, List.flatMap_cons, ih, hf x]; rfl
  generalize hx : l.map f = xs at h hfl
  cases h with
  | nil k a c =>
    have : l = [] := List.map_eq_nil_iff.1 hx
    subst this
    exact Rd_nil _ _ _
  | sl k xs b o c g hu hlen hz hb h1 h2 =>
    subst hx
    refine ⟨_, c, by rw [List.length_map], fun j hj => ⟨b, o, rfl, ?_⟩⟩
    have hj' : ((l.map f).flatMap PV.cells)[j]? = some (f l[j]) := by rw [hfl]; simp [hj]
    rw [h1 j _ hj']
    have := h2 j _ hj'
    rw [hf] at this
    generalize g j = q at this
    cases this
    rfl

def W64 (z : Int) : PV := .u (.int .u64 z)
def encS (x : Rx) : PV := .agg [W64 x.s0, W64 x.s1, W64 x.s2, W64 x.s3]
def encX (x : Rx) : PV := .agg [I x.kind, W64 x.s0, W64 x.s1, W64 x.s2, W64 x.s3]
def slI (l : List Int) : PV := .sl 1 (l.map I)
def slX (l : List Rx) : PV := .sl 5 (l.map encX)

theorem rpu {Z : Nat → Prop} {H : PHeap} {V : Nat → Value} {w : World} {u v : Value} (h : Rp Z H V w (.u u) v) : v = u := by cases h; rfl

theorem rdX_of {Z : Nat → Prop} {w : World} {l : List Rx} {v : Value} (h : Rp Z PHeap.empty V0 w (slX l) v) : RdX w v l := by
  unfold slX at h
  generalize hx : l.map encX = xs at h
  cases h with
  | nil k a c =>
    have : l = [] := List.map_eq_nil_iff.1 hx
    subst this
    exact ⟨a, c, rfl, fun j hj => by cases hj⟩
  | sl k xs b o c g hu hlen hz hb h1 h2 =>
    subst hx
    refine ⟨_, c, by rw [List.length_map], fun j hj => ⟨b, o, rfl, ?_⟩⟩
    have hy : (l.map encX)[j]? = some (encX l[j]) := by simp [hj]
    have key : ∀ (i : Nat) (q : Value), i < 5 → (encX l[j]).cells[i]? = some (.u q) → w.cell? ⟨b, o + (j * 5 + i), none⟩ = some q := fun i q hi hq => by
      have e := flat_at hu j i _ hy hi
      rw [hq] at e
      rw [h1 _ _ e]
      have := h2 _ _ e
      rw [rpu this]
    refine ⟨?_, ?_, ?_, ?_, ?_⟩
    · have := key 0 _ (by omega) rfl; rw [show o + j * 5 = o + (j * 5 + 0) by omega]; exact this
    · have := key 1 _ (by omega) rfl; rw [show o + j * 5 + 1 = o + (j * 5 + 1) by omega]; exact this
    · have := key 2 _ (by omega) rfl; rw [show o + j * 5 + 1 + 1 = o + (j * 5 + 2) by omega]; exact this
    · have := key 3 _ (by omega) rfl; rw [show o + j * 5 + 1 + 2 = o + (j * 5 + 3) by omega]; exact this
    · have := key 4 _ (by omega) rfl; rw [show o + j * 5 + 1 + 3 = o + (j * 5 + 4) by omega]; exact this

theorem rpl1 {Z : Nat → Prop} {H : PHeap} {V : Nat → Value} {w : World} {p : PV} {vs : List Value} (h : RpL Z H V w [p] vs) : ∃ v, vs = [v] ∧ Rp Z H V w p v := by
  have h1 := h.1
  match vs, h1 with
  | [v], _ => exact ⟨v, rfl, h.2 0 p v rfl rfl⟩
theorem rpl2 {Z : Nat → Prop} {H : PHeap} {V : Nat → Value} {w : World} {p q : PV} {vs : List Value} (h : RpL Z H V w [p, q] vs) : ∃ v u, vs = [v, u] ∧ Rp Z H V w p v ∧ Rp Z H V w q u := by
  have h1 := h.1
  match vs, h1 with
  | [v, u], _ => exact ⟨v, u, rfl, h.2 0 p v rfl rfl, h.2 1 q u rfl rfl⟩
theorem rpl3 {Z : Nat → Prop} {H : PHeap} {V : Nat → Value} {w : World} {p q r : PV} {vs : List Value} (h : RpL Z H V w [p, q, r] vs) : ∃ v u x, vs = [v, u, x] ∧ Rp Z H V w p v ∧ Rp Z H V w q u ∧ Rp Z H V w r x := by
  have h1 := h.1
  match vs, h1 with
  | [v, u, x], _ => exact ⟨v, u, x, rfl, h.2 0 p v rfl rfl, h.2 1 q u rfl rfl, h.2 2 r x rfl rfl⟩

theorem unionO_ok (l m : List Int) (hl : l.length + m.length ≤ 10000000) : PCallOwn Try.prog 92 [slI l, slI m] 3 1 (fun n us => n = (riseL (l ++ m)).length ∧ us = (riseL (l ++ m)).map (.int .i64)) := fun w vs h => by
  obtain ⟨v, u, rfl, h1, h2⟩ := rpl2 h
  exact (spot_union_any v u l m w (rd_of (fun _ => rfl) h1) (rd_of (fun _ => rfl) h2) hl).mono fun e w' ⟨v', he, ho, hb⟩ => ⟨v', _, _, he, ⟨rfl, rfl⟩, ho, fun u hu => by obtain ⟨z, _, rfl⟩ := List.mem_map.1 hu; rfl, hb⟩
theorem union_ok (l m : List Int) (hl : l.length + m.length ≤ 10000000) : PCall Try.prog 92 [slI l, slI m] (· = slI (riseL (l ++ m))) :=
  (unionO_ok l m hl).ro.weak fun p ⟨us, ⟨_, h⟩, hp⟩ => by rw [hp, h, List.map_map]; rfl

theorem rxCheck_ok (l : List Rx) : PCall Try.prog 88 [slX l] (· = I (checkL l)) := fun Z w vs hz h => by
  obtain ⟨v, rfl, h1⟩ := rpl1 h
  exact (rx_Check_any v l w (rdX_of h1)).mono fun e w' ⟨he, hb⟩ => ⟨_, _, he, rfl, .u _, .u _, hb⟩
theorem ref7Check_ok (l : List Rx) : PCall Try.prog 24 [slX l] (· = I (checkL l)) := fun Z w vs hz h => by
  obtain ⟨v, rfl, h1⟩ := rpl1 h
  exact (ref7_Check_any v l w (rdX_of h1)).mono fun e w' ⟨he, hw⟩ => ⟨_, _, he, rfl, .u _, .u _, by subst hw; exact Below.refl _ _⟩
end Go.Proofs.Ytficeeaaaijgcaa
