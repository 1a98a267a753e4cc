/-
  A logic of pure values over the kit's walk: what a slot holds is told without a world (PV), what a call owns by a small heap of its own (PHeap); 'Rp' says when a value of the model is what is told. Nothing here names a function of the program.
-/
import Derived.WalkKit
import Derived.StillTail
import Derived.Deep.Quiet
namespace Go.Proofs.Ytficeeaaaijgcaa.L
open Go Go.RowKit
set_option linter.unusedVariables false
set_option linter.unusedSimpArgs false

inductive PV where
  | u (v : Value)
  | unk
  | agg (cs : List PV)
  | tup (cs : List PV)
  | sl (k : Nat) (xs : List PV)
  | rp (cs : List PV)
  | ps (id ver : Nat)
  | pp (id off ver : Nat)
  | fn (f : Fn) (a b : List PV)
  deriving Inhabited

/-- the cells of a value -/
def PV.cells : PV → List PV
  | .agg cs => cs
  | p => [p]

inductive PBody where
  | row (t : TypeId) (k n : Nat) (cs : List PV)
  | box (t : TypeId) (cs : List PV)

structure PBlk where
  ver : Nat
  body : Option PBody

abbrev PHeap := Nat → PBlk
abbrev PFrame := Nat → PV

def PHeap.empty : PHeap := fun _ => ⟨0, none⟩
def PHeap.set (H : PHeap) (id : Nat) (b : PBlk) : PHeap := fun i => if i = id then b else H i
def PFrame.put (F : PFrame) (d : Option Nat) (p : PV) : PFrame := fun t => if d = some t then p else F t

def blockOf : Value → Option Nat
  | .slice (some a) _ _ => some a.block
  | .pointer (some a) => some a.block
  | _ => none

/-- block b is one of the call's own -/
def PZ (Z : Nat → Prop) (H : PHeap) (V : Nat → Value) (b : Nat) : Prop := Z b ∨ ∃ id, (H id).body.isSome = true ∧ blockOf (V id) = some b

inductive Rp (Z : Nat → Prop) (H : PHeap) (V : Nat → Value) (w : World) : PV → Value → Prop
  | u (v : Value) : Rp Z H V w (.u v) v
  | unk (v : Value) : Rp Z H V w .unk v
  | agg (cs : List PV) (vs : Array Value) (hl : cs.length = vs.size) (h : ∀ (i : Nat) (p : PV) (v : Value), cs[i]? = some p → vs[i]? = some v → Rp Z H V w p v) : Rp Z H V w (.agg cs) (.agg vs)
  | tup (cs : List PV) (vs : Array Value) (hl : cs.length = vs.size) (h : ∀ (i : Nat) (p : PV) (v : Value), cs[i]? = some p → vs[i]? = some v → Rp Z H V w p v) : Rp Z H V w (.tup cs) (.tuple vs)
  | nil (k : Nat) (a : Option Addr) (c : Nat) : Rp Z H V w (.sl k []) (.slice a 0 c)
  | sl (k : Nat) (xs : List PV) (b o c : Nat) (g : Nat → Value) (hu : ∀ y ∈ xs, y.cells.length = k) (hlen : xs.length ≤ c)
      (hz : ¬ PZ Z H V b) (hb : b < w.heap.size)
      (h1 : ∀ (i : Nat) (p : PV), (xs.flatMap PV.cells)[i]? = some p → w.cell? ⟨b, o + i, none⟩ = some (g i))
      (h2 : ∀ (i : Nat) (p : PV), (xs.flatMap PV.cells)[i]? = some p → Rp Z H V w p (g i)) : Rp Z H V w (.sl k xs) (.slice (some ⟨b, o, none⟩) xs.length c)
  | rp (cs : List PV) (b o : Nat) (g : Nat → Value) (hz : ¬ PZ Z H V b) (hb : b < w.heap.size)
      (h1 : ∀ (i : Nat) (p : PV), cs[i]? = some p → w.cell? ⟨b, o + i, none⟩ = some (g i))
      (h2 : ∀ (i : Nat) (p : PV), cs[i]? = some p → Rp Z H V w p (g i)) : Rp Z H V w (.rp cs) (.pointer (some ⟨b, o, none⟩))
  | ps (id ver : Nat) (v : Value) (hv : ver ≤ (H id).ver) (h : (H id).body.isSome = true → (H id).ver = ver → v = V id) : Rp Z H V w (.ps id ver) v
  | pp (id off ver : Nat) (v : Value) (hv : ver ≤ (H id).ver) (h : (H id).body.isSome = true → (H id).ver = ver → ∃ g, blockOf (V id) = some g ∧ v = .pointer (some ⟨g, off, none⟩)) : Rp Z H V w (.pp id off ver) v
  | fn (f : Fn) (a b : List PV) (va vb : Array Value) (hla : a.length = va.size) (hlb : b.length = vb.size)
      (ha : ∀ (i : Nat) (p : PV) (v : Value), a[i]? = some p → va[i]? = some v → Rp Z H V w p v) (hb : ∀ (i : Nat) (p : PV) (v : Value), b[i]? = some p → vb[i]? = some v → Rp Z H V w p v) : Rp Z H V w (.fn f a b) (.func f va vb)

/-- what is told stays told -/
theorem Rp.mono {Z Z' : Nat → Prop} {H H' : PHeap} {V V' : Nat → Value} {w w' : World} {p : PV} {v : Value} (h : Rp Z H V w p v)
    (hc : ∀ b, ¬ PZ Z H V b → b < w.heap.size → ¬ PZ Z' H' V' b ∧ b < w'.heap.size ∧ ∀ o, w'.cell? ⟨b, o, none⟩ = w.cell? ⟨b, o, none⟩)
    (hv : ∀ id, (H id).ver ≤ (H' id).ver)
    (hl : ∀ id ver, ver ≤ (H id).ver → (H' id).body.isSome = true → (H' id).ver = ver → (H id).body.isSome = true ∧ (H id).ver = ver ∧ V' id = V id) : Rp Z' H' V' w' p v := by
  induction h with
  | u v => exact .u v
  | unk v => exact .unk v
  | agg cs vs hl' h ih => exact .agg cs vs hl' ih
  | tup cs vs hl' h ih => exact .tup cs vs hl' ih
  | nil k a c => exact .nil k a c
  | sl k xs b o c g hu hlen hz hb h1 h2 ih =>
    obtain ⟨a1, a2, a3⟩ := hc b hz hb
    exact .sl k xs b o c g hu hlen a1 a2 (fun i p hi => by rw [a3]; exact h1 i p hi) ih
  | rp cs b o g hz hb h1 h2 ih =>
    obtain ⟨a1, a2, a3⟩ := hc b hz hb
    exact .rp cs b o g a1 a2 (fun i p hi => by rw [a3]; exact h1 i p hi) ih
  | ps id ver v hv' h =>
    refine .ps id ver v (Nat.le_trans hv' (hv id)) fun h1 h2 => ?_
    obtain ⟨a, b, c⟩ := hl id ver hv' h1 h2
    rw [c]; exact h a b
  | pp id off ver v hv' h =>
    refine .pp id off ver v (Nat.le_trans hv' (hv id)) fun h1 h2 => ?_
    obtain ⟨a, b, c⟩ := hl id ver hv' h1 h2
    rw [c]; exact h a b
  | fn f a b va vb hla hlb ha hb iha ihb => exact .fn f a b va vb hla hlb iha ihb

/-- nothing below the heap's size has turned -/
theorem Rp.grow {Z : Nat → Prop} {H : PHeap} {V : Nat → Value} {w w' : World} {p : PV} {v : Value} (h : Rp Z H V w p v) (hb : Below w.heap.size w w') : Rp Z H V w' p v :=
  h.mono (fun b hz hlt => ⟨hz, Nat.lt_of_lt_of_le hlt hb.size, fun o => hb.cell (p := ⟨b, o, none⟩) hlt⟩) (fun _ => Nat.le_refl _) (fun _ _ _ h1 h2 => ⟨h1, h2, rfl⟩)

/-- a list of cells -/
def RpL (Z : Nat → Prop) (H : PHeap) (V : Nat → Value) (w : World) (cs : List PV) (vs : List Value) : Prop :=
  cs.length = vs.length ∧ ∀ (i : Nat) (p : PV) (v : Value), cs[i]? = some p → vs[i]? = some v → Rp Z H V w p v

theorem RpL.mono {Z Z' : Nat → Prop} {H H' : PHeap} {V V' : Nat → Value} {w w' : World} {cs : List PV} {vs : List Value} (h : RpL Z H V w cs vs)
    (hm : ∀ p v, Rp Z H V w p v → Rp Z' H' V' w' p v) : RpL Z' H' V' w' cs vs := ⟨h.1, fun i p v h1 h2 => hm p v (h.2 i p v h1 h2)⟩

/-- a call's start: the world, and blocks of its caller's that it doesn't know -/
structure Env where
  w : World
  Z : Nat → Prop
  hZ : ∀ b, Z b → b < w.heap.size
  /-- what waits: the slots of those that called, who share the own heap -/
  G : Nat → PV := fun _ => .unk
  gv : Nat → Value := fun _ => undef

/-- what the call owns -/
structure HRel (P : Program) (W : Env) (H : PHeap) (V : Nat → Value) (w : World) : Prop where
  below : Below W.w.heap.size W.w w
  row : ∀ id t k n cs, (H id).body = some (.row t k n cs) → ∃ vals, w.ownsRow W.w.heap.size t k (V id) n vals ∧ RpL W.Z H V w cs vals ∧ ∀ v ∈ vals, v.oneCell' = true
  box : ∀ id t cs, (H id).body = some (.box t cs) → ∃ g arr, V id = .pointer (some ⟨g, 0, none⟩) ∧ W.w.heap.size ≤ g ∧ w.heap[g]? = some (.cells arr t (0, 0)) ∧ RpL W.Z H V w cs arr.toList ∧ ∀ v ∈ arr.toList, v.oneCell' = true
  ghost : ∀ i, Rp W.Z H V w (W.G i) (W.gv i)
  apart : ∀ id id' g, (H id).body.isSome = true → (H id').body.isSome = true → blockOf (V id) = some g → blockOf (V id') = some g → id = id'

theorem HRel.own_lt {P : Program} {W : Env} {H : PHeap} {V : Nat → Value} {w : World} (h : HRel P W H V w) {id b : Nat} (hs : (H id).body.isSome = true) (hb : blockOf (V id) = some b) : W.w.heap.size ≤ b ∧ b < w.heap.size := by
  cases hbd : (H id).body with
  | none => rw [hbd] at hs; cases hs
  | some bd =>
    cases bd with
    | row t k n cs =>
      obtain ⟨vals, ho, _⟩ := h.row id t k n cs hbd
      have : (V id).ownBlock = some b := by
        rcases ho.2 with ⟨e, _⟩ | ⟨g, cap, cur, e, _⟩
        · rw [e] at hb; cases hb
        · rw [e] at hb ⊢; exact hb
      exact ho.lt b this
    | box t cs =>
      obtain ⟨g, arr, e, hg, hh, _⟩ := h.box id t cs hbd
      rw [e] at hb
      cases hb
      exact ⟨hg, (Array.getElem?_eq_some_iff.1 hh).1⟩

/-- the world has grown above what there was -/
theorem HRel.grow {P : Program} {W : Env} {H : PHeap} {V : Nat → Value} {w w' : World} (h : HRel P W H V w) (hb : Below w.heap.size w w') : HRel P W H V w' := by
  have hsz := h.below.size
  refine ⟨h.below.trans (hb.mono hsz), fun id t k n cs hbd => ?_, fun id t cs hbd => ?_, fun i => (h.ghost i).grow hb, h.apart⟩
  · obtain ⟨vals, ho, hr, h1⟩ := h.row id t k n cs hbd
    refine ⟨vals, ?_, hr.mono fun p v => fun hh => hh.grow hb, h1⟩
    exact ho.kept (row := none) ⟨hb.os, hb.tape, hb.output, hb.size, fun k hk _ => hb.block k hk⟩ (by cases (V id).ownBlock <;> simp)
  · obtain ⟨g, arr, e, hg, hh, hr, h1⟩ := h.box id t cs hbd
    exact ⟨g, arr, e, hg, by rw [hb.block g (Array.getElem?_eq_some_iff.1 hh).1]; exact hh, hr.mono fun p v => fun hh => hh.grow hb, h1⟩

structure Rel (P : Program) (W : Env) (n : Nat) (F : PFrame) (H : PHeap) (V : Nat → Value) (a : Act) (w : World) : Prop where
  heap : HRel P W H V w
  size : a.tmps.size = n
  defers : a.defers = []
  slot : ∀ t, Rp W.Z H V w (F t) (a.tmps.getD t undef)

def ofV : Value → PV
  | .agg vs => .agg (vs.toList.map .u)
  | v => .u v
def evP (F : PFrame) : Operand → PV
  | .tmp t => F t
  | .const v => ofV v
  | .global _ => .unk
  | .func f => .fn (.func f) [] []

theorem Rp.ofV (Z : Nat → Prop) (H : PHeap) (V : Nat → Value) (w : World) (v : Value) : Rp Z H V w (ofV v) v := by
  cases v <;> first
    | exact .u _
    | (refine .agg _ _ (by simp) fun i p v h1 h2 => ?_
       simp only [List.getElem?_map, Option.map_eq_some_iff] at h1
       obtain ⟨q, hq, rfl⟩ := h1
       rw [Array.getElem?_toList, h2] at hq
       cases hq
       exact .u _)

theorem Rp.eval {P : Program} {Z : Nat → Prop} {H : PHeap} {V : Nat → Value} {w : World} {F : PFrame} {a : Act} (x : Operand) (h : ∀ t, x = .tmp t → Rp Z H V w (F t) (a.tmps.getD t undef)) : Rp Z H V w (evP F x) (a.eval x) := by
  cases x with
  | tmp t => exact h t rfl
  | const v => exact Rp.ofV Z H V w v
  | global g => exact .unk _
  | func f => exact .fn _ [] [] #[] #[] rfl rfl (fun i p v h => by simp at h) (fun i p v h => by simp at h)

theorem Rel.put {P : Program} {W : Env} {n : Nat} {F : PFrame} {H : PHeap} {V : Nat → Value} {a : Act} {w w' : World} (h : Rel P W n F H V a w) (hb : Below w.heap.size w w') (d : Option Nat) (hd : ∀ t, d = some t → t < n) {p : PV} {v : Value} (hp : Rp W.Z H V w' p v) : Rel P W n (F.put d p) H V (a.put d v) w' := by
  refine ⟨h.heap.grow hb, ?_, ?_, fun t => ?_⟩
  · cases d <;> simp [Act.put, h.size]
  · cases d <;> simp [Act.put, h.defers]
  · cases d with
    | none => simpa [Act.put, PFrame.put] using (h.slot t).grow hb
    | some d =>
      by_cases e : d = t
      · subst e
        have := hd d rfl
        simpa [Act.put, PFrame.put, h.size, this] using hp
      · have e2 : ¬ (some d = some t) := by simpa using e
        simp only [PFrame.put, if_neg e2]
        have := (h.slot t).grow hb
        simpa [Act.put, Array.getElem?_setIfInBounds_ne e] using this
end Go.Proofs.Ytficeeaaaijgcaa.L
