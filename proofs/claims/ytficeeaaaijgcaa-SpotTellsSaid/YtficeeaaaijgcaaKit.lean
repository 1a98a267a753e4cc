/-
  General words of this family's contracts: how a slice of one-cell elements reads, what a call owns, and what follows of it. Nothing here names a function of the program.
-/
import Derived.Test.YtficeeaaaijgcaaRows
import Derived.WalkKit
import Derived.Lib.Hide
import Derived.Outline
import Derived.Deep.QuietTactic
import Derived.BigQuiet
import Derived.WalkSmall
import Derived.StillTailTactics
namespace Go.Proofs.Ytficeeaaaijgcaa
open Go.RowKit

section
variable {α : Type}

/-- slice value v reads as the elements l in w, each one cell, by enc -/
def Rd (enc : α → Value) (w : World) (v : Value) (l : List α) : Prop :=
  ∃ (a : Option Addr) (c : Nat), v = .slice a l.length c ∧ ∀ (j : Nat) (h : j < l.length), ∃ b o, a = some ⟨b, o, none⟩ ∧ w.cell? ⟨b, o + j, none⟩ = some (enc l[j])

/-- v owns the elements l (of type e), from block B on -/
def Ow (enc : α → Value) (e : TypeId) (w : World) (B : Nat) (v : Value) (l : List α) : Prop := w.ownsRow B e 1 v l.length (l.map enc)

/-- what v reads stands below B -/
def RdLo (enc : α → Value) (w : World) (B : Nat) (v : Value) (l : List α) : Prop :=
  ∃ (a : Option Addr) (c : Nat), v = .slice a l.length c ∧ ∀ (j : Nat) (h : j < l.length), ∃ b o, a = some ⟨b, o, none⟩ ∧ b < B ∧ w.cell? ⟨b, o + j, none⟩ = some (enc l[j])

variable {enc : α → Value} {e : TypeId}

theorem Rd.below {w w' : World} {v : Value} {l : List α} (h : Rd enc w v l) (hb : Below w.heap.size w w') : Rd enc w' v l := by
  obtain ⟨a, c, rfl, hc⟩ := h
  refine ⟨a, c, rfl, fun j hj => ?_⟩
  obtain ⟨b, o, ha, hcell⟩ := hc j hj
  exact ⟨b, o, ha, by rw [hb.cell (World.block_lt_of_cell? w _ hcell)]; exact hcell⟩

theorem Rd.lo {w : World} {v : Value} {l : List α} (h : Rd enc w v l) : RdLo enc w w.heap.size v l := by
  obtain ⟨a, c, rfl, hc⟩ := h
  refine ⟨a, c, rfl, fun j hj => ?_⟩
  obtain ⟨b, o, ha, hcell⟩ := hc j hj
  exact ⟨b, o, ha, World.block_lt_of_cell? w _ hcell, hcell⟩

theorem RdLo.rd {w w' : World} {B : Nat} {v : Value} {l : List α} (h : RdLo enc w B v l) (hb : Below B w w') : Rd enc w' v l := by
  obtain ⟨a, c, rfl, hc⟩ := h
  refine ⟨a, c, rfl, fun j hj => ?_⟩
  obtain ⟨b, o, ha, hlt, hcell⟩ := hc j hj
  exact ⟨b, o, ha, by rw [hb.cell hlt]; exact hcell⟩

theorem RdLo.below {w w' : World} {B : Nat} {v : Value} {l : List α} (h : RdLo enc w B v l) (hb : Below B w w') : RdLo enc w' B v l := by
  obtain ⟨a, c, rfl, hc⟩ := h
  refine ⟨a, c, rfl, fun j hj => ?_⟩
  obtain ⟨b, o, ha, hlt, hcell⟩ := hc j hj
  exact ⟨b, o, ha, hlt, by rw [hb.cell hlt]; exact hcell⟩

theorem RdLo.mono {w : World} {B B' : Nat} {v : Value} {l : List α} (h : RdLo enc w B v l) (hB : B ≤ B') : RdLo enc w B' v l := by
  obtain ⟨a, c, rfl, hc⟩ := h
  refine ⟨a, c, rfl, fun j hj => ?_⟩
  obtain ⟨b, o, ha, hlt, hcell⟩ := hc j hj
  exact ⟨b, o, ha, by omega, hcell⟩

/-- nil, or whatever slice of no element -/
theorem Rd_nil (w : World) (a : Option Addr) (c : Nat) : Rd enc w (.slice a 0 c) [] := ⟨a, c, rfl, fun j h => by cases h⟩

theorem Rd.drewN {w : World} {v : Value} {l : List α} (h : Rd enc w v l) (n : Nat) : Rd enc (w.drewN n) v l := h

theorem Ow.rd {w : World} {B : Nat} {v : Value} {l : List α} (h : Ow enc e w B v l) : Rd enc w v l := by
  rcases h.2 with ⟨rfl, h0⟩ | ⟨g, cap, cur, rfl, hb, hg, hnc, hcm, hcs, htake⟩
  · have : l = [] := List.eq_nil_of_length_eq_zero h0
    subst this
    exact Rd_nil w _ _
  · refine ⟨_, cap, rfl, fun j hj => ⟨g, 0, rfl, ?_⟩⟩
    have := World.ownsRow.cellAt h j (by simpa using hj)
    rw [Nat.zero_add, this]
    simp [hj]

theorem Ow.below {w w' : World} {B C : Nat} {v : Value} {l : List α} (h : Ow enc e w B v l) (hb : Below C w w') (hC : w.heap.size ≤ C) : Ow enc e w' B v l := by
  refine ⟨h.1, ?_⟩
  rcases h.2 with h2 | ⟨g, cap, cur, hv, hg, hh, r⟩
  · exact Or.inl h2
  · exact Or.inr ⟨g, cap, cur, hv, hg, by rw [hb.block g (by have := (Array.getElem?_eq_some_iff.1 hh).1; omega)]; exact hh, r⟩

theorem Ow.mono {w : World} {B B' : Nat} {v : Value} {l : List α} (h : Ow enc e w B v l) (hB : B' ≤ B) : Ow enc e w B' v l := by
  refine ⟨h.1, ?_⟩
  rcases h.2 with h2 | ⟨g, cap, cur, hv, hg, r⟩
  · exact Or.inl h2
  · exact Or.inr ⟨g, cap, cur, hv, by omega, r⟩

theorem Ow.drewN {w : World} {B : Nat} {v : Value} {l : List α} (h : Ow enc e w B v l) (n : Nat) : Ow enc e (w.drewN n) B v l := h

theorem Ow.shape {w : World} {B : Nat} {v : Value} {l : List α} (h : Ow enc e w B v l) : ∃ a c, v = .slice a l.length c := by
  rcases h.2 with ⟨rfl, h0⟩ | ⟨g, cap, cur, rfl, _⟩
  · exact ⟨none, 0, by rw [h0]⟩
  · exact ⟨_, _, rfl⟩

/-- length at most capacity -/
def CapOK : Value → Prop | .slice _ n c => n ≤ c | _ => True
theorem Ow.cap {w : World} {B : Nat} {v : Value} {l : List α} (h : Ow enc e w B v l) : CapOK v := by
  rcases h.2 with ⟨rfl, h0⟩ | ⟨g, cap, cur, rfl, _, _, hc, _⟩
  · exact Nat.le_refl _
  · exact hc

theorem Rd.shape {w : World} {v : Value} {l : List α} (h : Rd enc w v l) : ∃ a c, v = .slice a l.length c := by
  obtain ⟨a, c, rfl, _⟩ := h
  exact ⟨_, _, rfl⟩

theorem Ow.alloc {w : World} {B : Nat} {v : Value} {l : List α} (h : Ow enc e w B v l) (o : Obj) : Ow enc e (w.alloc o) B v l := World.ownsRow.alloc h o

/-- a cell of a slice that is read, at a slice that is spelt out -/
theorem Rd.at {w : World} {a : Option Addr} {n c : Nat} {l : List α} (h : Rd enc w (.slice a n c) l) (j : Nat) (hj : j < l.length) : ∃ b o, a = some ⟨b, o, none⟩ ∧ w.cell? ⟨b, o + j, none⟩ = some (enc l[j]) := by
  obtain ⟨a', c', hv, hc⟩ := h
  cases hv
  exact hc j hj

/-- '[]E{}' -/
theorem Ow_empty (w : World) : Ow enc e (w.alloc (.cells #[] e)) w.heap.size (.slice (some ⟨w.heap.size, 0, none⟩) 0 0) [] :=
  World.ownsRow_made w #[] 0 (Nat.le_refl _) (by simp [maxLen]) rfl
theorem Ow_nil (w : World) (B : Nat) : Ow enc e w B (.slice none 0 0) [] := World.ownsRow_nil w B _ 1

/-- What the table of types says of an element type of one cell. -/
structure ElemTy (P : Program) (t e : TypeId) (z : Value) (bytes : Nat) : Prop where
  under : P.underlying t = some (.slice e)
  info : ∃ i, P.info? e = some i ∧ i.zero = some z ∧ i.size = 1 ∧ i.bytes = bytes
  cells : z.cells.size = 1
  small : bytes ≤ 64

theorem elemTy {P : Program} {t e : TypeId} {z : Value} {bytes : Nat} (h : P.underlying t = some (.slice e)) (hi : (P.info? e).map (fun i => (i.zero, i.size, i.bytes)) = some (some z, 1, bytes)) (hz : z.cells.size = 1) (hb : bytes ≤ 64) : ElemTy P t e z bytes :=
  ⟨h, by obtain ⟨i0, h0, h1, h2, h3⟩ := info_parts hi; exact ⟨i0, h0, h1, h2, h3⟩, hz, hb⟩

/-- the new cell of 'append(s, x)' -/
theorem one_new (w : World) (T : TypeId) (u : Value) : ∀ (j : Nat) (x : Value), [u][j]? = some x → (w.alloc (.cells #[u] T)).cell? ((⟨w.heap.size, 0, none⟩ : Addr).add j) = some x := by
  intro j x hx
  cases j with
  | zero => simp at hx; subst hx; simp [Addr.add]
  | succ j => simp at hx

/-- 's = append(s, x)', s of the call's own: as a law of the walk -/
theorem wpList_append_E {P : Program} {t : TypeId} {z : Value} {bytes : Nat} (ET : ElemTy P t e z bytes) {w : World} {ops : Array Oper} {rest : List Oper} {o : Oper} {a : Act} {Q : Exit → Act → World → Prop} (hgd : o.guard = none) (s x : Operand)
    (ho : o.op = .call { callee := .builtin .append, args := #[s, x], argTypes := #[t, t] })
    (B : Nat) (v : Value) (l : List α) (hs : a.eval s = v) (hown : Ow enc e w B v l) (u : α) (h1c : (enc u).oneCell' = true) (hx : a.eval x = .slice (some ⟨w.heap.size, 0, none⟩) 1 1)
    (hl : l.length ≤ 10000000) (hB : B ≤ w.heap.size)
    (h : ∀ v' w', Ow enc e w' B v' (l ++ [u]) → Below B w w' → wpList P ops Q rest (a.put o.dst v') w') :
    wpList P ops Q (o :: rest) a (w.alloc (.cells #[enc u] e)) := by
  obtain ⟨hu, ⟨i0, hi, hz0, hz1, hz2⟩, hzc, hsm⟩ := ET
  have hmul : (l.length + 1) * bytes ≤ 10000001 * 64 := Nat.mul_le_mul (by omega) hsm
  refine wpList_append_own _ hgd s x t ho B e i0 z 1 bytes hu hi hz0 hz1 hz2 hzc (by decide) v l.length (l.map enc) hs (hown.alloc _)
    ⟨w.heap.size, 0, none⟩ 1 1 [enc u] hx rfl (one_new w _ _) (by intro y hy; simp at hy; subst hy; exact h1c) (by simp [maxLen]; omega) (by omega) (by simp; omega) ?_
  intro v' w' hown' hgrow _
  refine h v' w' ?_ ?_
  · unfold Ow; simpa using hown'
  · have hb : Below B w (w.alloc (.cells #[enc u] e)) := (Below.refl _ _).alloc hB _
    refine hb.grown hgrow (by simp; omega) ?_
    intro k hk
    have := (hown.alloc (.cells #[enc u] e)).lt k hk
    exact this.1
/-- 's = append(s, xs...)', s of the call's own, xs whatever reads as a list -/
theorem wpList_append_R {P : Program} {t : TypeId} {z : Value} {bytes : Nat} (ET : ElemTy P t e z bytes) {w : World} {ops : Array Oper} {rest : List Oper} {o : Oper} {a : Act} {Q : Exit → Act → World → Prop} (hgd : o.guard = none) (s x : Operand)
    (ho : o.op = .call { callee := .builtin .append, args := #[s, x], argTypes := #[t, t] })
    (B : Nat) (v u : Value) (l m : List α) (hs : a.eval s = v) (hown : Ow enc e w B v l) (hx : a.eval x = u) (hrd : Rd enc w u m) (h1c : ∀ y : α, (enc y).oneCell' = true)
    (hl : l.length + m.length ≤ 10000000) (hB : B ≤ w.heap.size)
    (h : ∀ v' w', Ow enc e w' B v' (l ++ m) → Below B w w' → wpList P ops Q rest (a.put o.dst v') w') :
    wpList P ops Q (o :: rest) a w := by
  obtain ⟨hu, ⟨i0, hi, hz0, hz1, hz2⟩, hzc, hsm⟩ := ET
  obtain ⟨ad, c, rfl, hc⟩ := hrd
  have hmul : (l.length + m.length) * bytes ≤ 10000000 * 64 := Nat.mul_le_mul (by omega) hsm
  have main : ∀ b : Addr, ad = some b → (∀ j u, (m.map enc)[j]? = some u → w.cell? (b.add j) = some u) → wpList P ops Q (o :: rest) a w := by
    rintro b rfl hcell
    refine wpList_append_own _ hgd s x t ho B e i0 z 1 bytes hu hi hz0 hz1 hz2 hzc (by decide) v l.length (l.map enc) hs hown
      b m.length c (m.map enc) hx (by simp) hcell (by intro y hy; obtain ⟨q, _, rfl⟩ := List.mem_map.1 hy; exact h1c q) (by simp [maxLen]; omega) (by omega) hB ?_
    intro v' w' hown' hgrow _
    refine h v' w' ?_ ?_
    · unfold Ow; simpa using hown'
    · exact (Below.refl B w).grown hgrow hB fun k hk => (hown.lt k hk).1
  by_cases h0 : m = []
  · subst h0
    cases ad with
    | some b => exact main b rfl (by intro j u hu; simp at hu)
    | none =>
      refine wpList_plain hgd fun K hK => ?_
      have hrun : (Builtin.append_ #[t, t] o.type #[v, .slice none 0 c]).run P w = .ok v w := by
        rcases hown.2 with ⟨rfl, _⟩ | ⟨g, cap, cur, rfl, _, _, hnc, _⟩
        · simp [Builtin.append_, run_underlying hu, sizeOf, typeInfo, hi, Builtin.lenOf, Builtin.firstCells]
        · simp [Builtin.append_, run_underlying hu, sizeOf, typeInfo, hi, Builtin.lenOf, Builtin.firstCells, hnc, storeCells]
      simp only [List.length_nil] at hx
      unfold Oper.wp
      simp [execOp, ho, resolve, invoke, builtin, hs, hx, hrun, Result.andThen]
      exact hK _ _ (h v w (by simpa using hown) (Below.refl _ _))
  · obtain ⟨b, o', rfl, _⟩ := hc 0 (List.length_pos_iff.2 h0)
    refine main _ rfl fun j u hu => ?_
    have hj : j < m.length := by
      have := (List.getElem?_eq_some_iff.1 hu).1
      simpa using this
    obtain ⟨b2, o2, hab, hcell⟩ := hc j hj
    cases hab
    have hadd : (⟨b, o', none⟩ : Addr).add j = ⟨b, o' + j, none⟩ := by unfold Addr.add; split <;> simp_all
    rw [hadd, hcell]
    simp [hj] at hu
    rw [← hu]
end

/-- below B all but block X is as it was -/
structure BelowBut (B X : Nat) (w w' : World) : Prop where
  os : w'.os = w.os
  tape : w'.tape = w.tape
  output : w'.output = w.output
  size : w.heap.size ≤ w'.heap.size
  block : ∀ k, k < B → k ≠ X → w'.heap[k]? = w.heap[k]?
theorem BelowBut.refl (B X : Nat) (w : World) : BelowBut B X w w := ⟨rfl, rfl, rfl, Nat.le_refl _, fun _ _ _ => rfl⟩
theorem BelowBut.trans {B X : Nat} {a b c : World} (h : BelowBut B X a b) (k : BelowBut B X b c) : BelowBut B X a c :=
  ⟨k.os.trans h.os, k.tape.trans h.tape, k.output.trans h.output, Nat.le_trans h.size k.size, fun i hi hx => (k.block i hi hx).trans (h.block i hi hx)⟩
theorem BelowBut.of_below {B X : Nat} {w w' : World} (h : Below B w w') : BelowBut B X w w' := ⟨h.os, h.tape, h.output, h.size, fun k hk _ => h.block k hk⟩
theorem BelowBut.below {B X C : Nat} {w w' : World} (h : BelowBut B X w w') (hB : C ≤ B) (hX : C ≤ X) : Below C w w' := ⟨h.os, h.tape, h.output, h.size, fun k hk => h.block k (by omega) (by omega)⟩
theorem BelowBut.cell {B X : Nat} {w w' : World} (h : BelowBut B X w w') {p : Addr} (hp : p.block < B) (hx : p.block ≠ X) : w'.cell? p = w.cell? p := World.cell?_of_block (w := w) (h.block p.block hp hx)
theorem BelowBut.setCell {B X : Nat} {a w : World} (h : BelowBut B X a w) (u : Value) : BelowBut B X a (w.setCell ⟨X, 0, none⟩ u) :=
  h.trans ⟨rfl, rfl, rfl, by simp [World.setCell], fun k _ hx => Below.heap_setCell _ _ _ _ hx⟩

/-- a region that draws its order, whose last operations stand in one forced order behind n that only read -/
theorem region_tail {P : Program} {id : Nat} {Q : Exit → Act → World → Prop} {a : Act} {w : World} {l : List Oper} (n : Nat) (hm : P.follows .mixedOrders = true) (hB : Region.lexTailB .any l.toArray n = true)
    (h : wpStill P l.toArray (w.drewN 1) (fun a' => wpList P l.toArray Q (l.drop n) a' (w.drewN 1)) (l.take n) a) : (Code.region id l.toArray true).wp P Q a w :=
  wp_region_still_tail n hm hB h

/-- a call that only draws changes nothing below -/
theorem asBelow {P : Program} {f : FuncId} {args : Array Value} {w : World} {A : Ending → Prop} (h : Calls P f args w fun e w' => A e ∧ ∃ n, w' = w.drewN n) : Calls P f args w fun e w' => A e ∧ Below w.heap.size w w' :=
  h.mono fun e w' ⟨he, n, hn⟩ => ⟨he, by rw [hn]; exact below_drewN (Below.refl _ _) n⟩

theorem ret_bool {a b : Bool} (h : a = b) : Ending.returned (.bool a) = .returned (.bool b) := by rw [h]
theorem ret_int {k : IntKind} {a b : Int} (h : a = b) : Ending.returned (.int k a) = .returned (.int k b) := by rw [h]
theorem qd (w : World) (a b : Nat) : ∃ n, (w.drewN a).drewN b = w.drewN n := ⟨_, World.drewN_drewN _ _ _⟩

theorem take_succ {α : Type} (l : List α) (k : Nat) (h : k < l.length) : l.take (k + 1) = l.take k ++ [l[k]] := by
  rw [List.take_succ_eq_append_getElem h]

/- ints -/
theorem tInt : Try.prog.underlying 3 = some (.int .i64) := by kernel_rfl
theorem eInt : ElemTy Try.prog 30 3 (.int .i64 0) 8 := elemTy (by kernel_rfl) (by kernel_rfl) rfl (by decide)
abbrev RdI := Rd (Value.int .i64)
abbrev OwI := Ow (Value.int .i64) 3
abbrev RdLoI := RdLo (Value.int .i64)
theorem OwI_empty (w : World) : OwI (w.alloc (.cells #[] 3)) w.heap.size (.slice (some ⟨w.heap.size, 0, none⟩) 0 0) [] := Ow_empty w
theorem wpList_append_I {w : World} {ops : Array Oper} {rest : List Oper} {o : Oper} {a : Act} {Q : Exit → Act → World → Prop} (hgd : o.guard = none) (s x : Operand)
    (ho : o.op = .call { callee := .builtin .append, args := #[s, x], argTypes := #[30, 30] })
    (B : Nat) (v : Value) (l : List Int) (hs : a.eval s = v) (hown : OwI w B v l) (u : Int) (hx : a.eval x = .slice (some ⟨w.heap.size, 0, none⟩) 1 1)
    (hl : l.length ≤ 10000000) (hB : B ≤ w.heap.size)
    (h : ∀ v' w', OwI w' B v' (l ++ [u]) → Below B w w' → wpList Try.prog ops Q rest (a.put o.dst v') w') :
    wpList Try.prog ops Q (o :: rest) a (w.alloc (.cells #[.int .i64 u] 3)) :=
  wpList_append_E eInt hgd s x ho B v l hs hown u rfl hx hl hB h

end Go.Proofs.Ytficeeaaaijgcaa
