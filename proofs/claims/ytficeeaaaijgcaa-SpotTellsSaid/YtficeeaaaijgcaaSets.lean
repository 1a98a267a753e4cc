/-
  Slices of sets of bytes (four words each): how they read, what a call owns.
-/
import Derived.Test.YtficeeaaaijgcaaR7b
namespace Go.Proofs.Ytficeeaaaijgcaa
open Go.RowKit
set_option linter.unusedVariables false

def setCells (x : Rx) : List Value := [.int .u64 x.s0, .int .u64 x.s1, .int .u64 x.s2, .int .u64 x.s3]
/-- v owns the sets of l, from block B on -/
def OwSet (w : World) (B : Nat) (v : Value) (l : List Rx) : Prop := w.ownsRow B 28 4 v l.length (l.flatMap setCells)
/-- v reads as the sets of l -/
def RdSet (w : World) (v : Value) (l : List Rx) : Prop :=
  ∃ (a : Option Addr) (c : Nat), v = .slice a l.length c ∧ ∀ (j : Nat) (h : j < l.length), ∃ b o, a = some ⟨b, o, none⟩ ∧
    w.cell? ⟨b, o + j * 4, none⟩ = some (.int .u64 l[j].s0) ∧ w.cell? ⟨b, o + j * 4 + 1, none⟩ = some (.int .u64 l[j].s1) ∧ w.cell? ⟨b, o + j * 4 + 2, none⟩ = some (.int .u64 l[j].s2) ∧ w.cell? ⟨b, o + j * 4 + 3, none⟩ = some (.int .u64 l[j].s3)

theorem RdSet.below {w w' : World} {v : Value} {l : List Rx} (h : RdSet w v l) (hb : Below w.heap.size w w') : RdSet w' v l := by
  obtain ⟨a, c, rfl, hc⟩ := h
  refine ⟨a, c, rfl, fun j hj => ?_⟩
  obtain ⟨b, o, ha, h0, h1, h2, h3⟩ := hc j hj
  have hlt := World.block_lt_of_cell? w _ h0
  have hk : ∀ p, w'.cell? ⟨b, p, none⟩ = w.cell? ⟨b, p, none⟩ := fun p => hb.cell (p := ⟨b, p, none⟩) hlt
  exact ⟨b, o, ha, by rw [hk]; exact h0, by rw [hk]; exact h1, by rw [hk]; exact h2, by rw [hk]; exact h3⟩
theorem RdSet.shape {w : World} {v : Value} {l : List Rx} (h : RdSet w v l) : ∃ a c, v = .slice a l.length c := by
  obtain ⟨a, c, rfl, _⟩ := h
  exact ⟨a, c, rfl⟩

theorem flat4_len (l : List Rx) : (l.flatMap setCells).length = l.length * 4 := by
  induction l with
  | nil => rfl
  | cons x r ih => simp [setCells, ih]; omega
theorem flat4_get (l : List Rx) (j : Nat) (hj : j < l.length) (i : Nat) (hi : i < 4) : (l.flatMap setCells)[j * 4 + i]? = (setCells l[j])[i]? := by
  induction l generalizing j with
  | nil => cases hj
  | cons x r ih =>
    cases j with
    | zero =>
      rw [List.flatMap_cons, List.getElem?_append_left (by simp [setCells]; omega)]
      simp
    | succ j =>
      rw [List.flatMap_cons, List.getElem?_append_right (by simp [setCells]; omega)]
      have e : (j + 1) * 4 + i - (setCells x).length = j * 4 + i := by simp [setCells]; omega
      rw [e, ih j (by simpa using hj)]
      simp
theorem OwSet.rd {w : World} {B : Nat} {v : Value} {l : List Rx} (h : OwSet w B v l) : RdSet w v l := by
  rcases h.2 with ⟨rfl, h0⟩ | ⟨g, cap, cur, rfl, hb, hg, hnc, hcm, hcs, htake⟩
  · have : l = [] := List.eq_nil_of_length_eq_zero h0
    subst this
    exact ⟨none, 0, rfl, fun j h => by cases h⟩
  · refine ⟨_, cap, rfl, fun j hj => ⟨g, 0, rfl, ?_⟩⟩
    have hc : ∀ i, i < 4 → w.cell? ⟨g, j * 4 + i, none⟩ = (setCells l[j])[i]? := fun i hi => by
      rw [World.ownsRow.cellAt h (j * 4 + i) (by omega), flat4_get l j hj i hi]
    refine ⟨?_, ?_, ?_, ?_⟩
    · rw [Nat.zero_add]; exact hc 0 (by omega)
    · rw [Nat.zero_add]; exact hc 1 (by omega)
    · rw [Nat.zero_add]; exact hc 2 (by omega)
    · rw [Nat.zero_add]; exact hc 3 (by omega)
theorem OwSet.below {w w' : World} {B C : Nat} {v : Value} {l : List Rx} (h : OwSet w B v l) (hb : Below C w w') (hC : w.heap.size ≤ C) : OwSet w' B v l := by
  refine ⟨h.1, ?_⟩
  rcases h.2 with h2 | ⟨g, cap, cur, hv, hg, hh, r⟩
  · exact Or.inl h2
  · exact Or.inr ⟨g, cap, cur, hv, hg, by rw [hb.block g (by have := (Array.getElem?_eq_some_iff.1 hh).1; omega)]; exact hh, r⟩
theorem OwSet.shape {w : World} {B : Nat} {v : Value} {l : List Rx} (h : OwSet w B v l) : ∃ a c, v = .slice a l.length c := h.rd.shape
theorem OwSet_nil (w : World) (B : Nat) : OwSet w B (.slice none 0 0) [] := World.ownsRow_nil w B _ 4
theorem OwSet_empty (w : World) : OwSet (w.alloc (.cells #[] 28)) w.heap.size (.slice (some ⟨w.heap.size, 0, none⟩) 0 0) [] :=
  World.ownsRow_made w #[] 0 (Nat.le_refl _) (by simp [maxLen]) rfl

theorem iSet : (Try.prog.info? 28).map (fun i => (i.zero, i.size, i.bytes)) = some (some (.agg #[.int .u64 0, .int .u64 0, .int .u64 0, .int .u64 0]), 4, 32) := by kernel_rfl
theorem uSets : Try.prog.underlying 24 = some (.slice 28) := by kernel_rfl

/-- 's = append(s, set)', s of the call's own -/
theorem wpList_append_set {w : World} {ops : Array Oper} {rest : List Oper} {o : Oper} {a : Act} {Q : Exit → Act → World → Prop} (hgd : o.guard = none) (s x : Operand)
    (ho : o.op = .call { callee := .builtin .append, args := #[s, x], argTypes := #[24, 24] })
    (B : Nat) (v : Value) (l : List Rx) (hs : a.eval s = v) (hown : OwSet w B v l) (y : Rx) (hx : a.eval x = .slice (some ⟨w.heap.size, 0, none⟩) 1 1)
    (hl : l.length ≤ 1000000) (hB : B ≤ w.heap.size)
    (h : ∀ v' w', OwSet w' B v' (l ++ [y]) → Below B w w' → wpList Try.prog ops Q rest (a.put o.dst v') w') :
    wpList Try.prog ops Q (o :: rest) a (w.alloc (.cells #[.int .u64 y.s0, .int .u64 y.s1, .int .u64 y.s2, .int .u64 y.s3] 28)) := by
  obtain ⟨i0, hi, hz0, hz1, hz2⟩ := info_parts iSet
  have hown' := World.ownsRow.alloc hown (.cells #[.int .u64 y.s0, .int .u64 y.s1, .int .u64 y.s2, .int .u64 y.s3] 28)
  refine wpList_append_own _ hgd s x 24 ho B 28 i0 _ 4 32 uSets hi hz0 hz1 hz2 rfl (by decide) v l.length (l.flatMap setCells) hs hown'
    ⟨w.heap.size, 0, none⟩ 1 1 (setCells y) hx rfl ?_ ?_ (by simp [maxLen]; omega) (by omega) (by simp; omega) ?_
  · intro j u hu
    have hadd : (⟨w.heap.size, 0, none⟩ : Addr).add j = ⟨w.heap.size, j, none⟩ := by unfold Addr.add; split <;> simp_all
    rw [hadd, World.cell?_alloc_at _ _ _ _ rfl]
    rw [← hu]
    simp [setCells]
  · intro u hu
    simp [setCells] at hu
    rcases hu with rfl | rfl | rfl | rfl <;> rfl
  · intro v' w' hown2 hgrow _
    refine h v' w' ?_ ?_
    · unfold OwSet
      rw [List.length_append, List.flatMap_append]
      simpa using hown2
    · exact ((Below.refl B w).alloc hB _).grown hgrow (by simp; omega) fun k hk => (World.ownsRow.lt hown' k hk).1
end Go.Proofs.Ytficeeaaaijgcaa
