/-
  An argument of type []api.Rx, as the rows read it.
-/
import Derived.Test.YtficeeaaaijgcaaSa3
import Derived.Test.YtficeeaaaijgcaaRow
import Derived.Deep.Slices
namespace Go.Proofs.Ytficeeaaaijgcaa
open Go Go.RowKit Go.ChangeShapes Go.WideShapes L
set_option linter.unusedVariables false
set_option linter.unusedSimpArgs false

theorem cellsRx : Try.prog.cellsOf 88 = 5 := by kernel_rfl
theorem cellsSetA : Try.prog.cellsOf 28 = 4 := by kernel_rfl
theorem cellsKd : Try.prog.cellsOf 86 = 1 := by kernel_rfl
theorem cellsU64 : Try.prog.cellsOf 26 = 1 := by kernel_rfl

instance : Inhabited Rx := ⟨⟨0, 0, 0, 0, 0⟩⟩
set_option maxRecDepth 20000 in
theorem open_rxcells {H : Type} {enc : TypeId × Value → H} {w : World} {base fuel : Nat} {spare : Nat → Bool} {held : Bool} {cs : List Value} {x : DataW H × List MemPlace} (h : DataW.trod enc Try.prog w base spare held fuel 88 cs = some x) :
    ∃ r : Rx, cs = [.int .i64 r.kind, .int .u64 r.s0, .int .u64 r.s1, .int .u64 r.s2, .int .u64 r.s3] := by
  obtain ⟨xs, n, _, _, hcl, hxl, hf⟩ := DataW.trod_struct Try.underlying88 h
  rw [cellsRx] at hcl
  match cs, hcl with
  | [v0, v1, v2, v3, v4], _ =>
    have g0 := hf 0 _ rfl
    have g1 := hf 1 _ rfl
    have hx2 : xs.length = 2 := hxl
    match xs, hx2 with
    | [y0, y1], _ =>
      simp [cellsKd, cellsSetA] at g0 g1
      obtain ⟨k, hk, _, _⟩ := DataW.trod_int Try.underlying86 g0
      obtain ⟨zs, m, _, _, _, hzl, hz⟩ := DataW.trod_array Try.underlying28 g1
      have e := fun (i : Nat) (hi : i < 4) => hz i hi
      match zs, hzl with
      | [z0, z1, z2, z3], _ =>
        have e0 := e 0 (by decide)
        have e1 := e 1 (by decide)
        have e2 := e 2 (by decide)
        have e3 := e 3 (by decide)
        simp [cellsU64] at e0 e1 e2 e3
        obtain ⟨s0, h0, _, _⟩ := DataW.trod_int Try.underlying26 e0
        obtain ⟨s1, h1, _, _⟩ := DataW.trod_int Try.underlying26 e1
        obtain ⟨s2, h2, _, _⟩ := DataW.trod_int Try.underlying26 e2
        obtain ⟨s3, h3, _, _⟩ := DataW.trod_int Try.underlying26 e3
        simp at hk h0 h1 h2 h3
        subst hk h0 h1 h2 h3
        exact ⟨⟨k, s0, s1, s2, s3⟩, rfl⟩

theorem open_Rx {H : Type} {enc : TypeId × Value → H} {w : World} {base fuel : Nat} {spare : Nat → Bool} {held : Bool} {a0 : Option Addr} {len cap : Nat} {d : DataW H} {p : List MemPlace}
    (h : DataW.trod enc Try.prog w base spare held fuel 22 (Value.slice a0 len cap).cells.toList = some (d, p)) :
    ∃ l : List Rx, Rp (fun _ => False) PHeap.empty V0 w (slX l) (.slice a0 len cap) := by
  rcases Go.Deep.open_slice Try.underlying22 h with ⟨hcs, _⟩ | ⟨a, len', cap', m, n, D, Pl, hcs, hb, hl, hm, hmm, _, hx⟩
  · simp [Value.cells] at hcs
    obtain ⟨rfl, rfl, rfl⟩ := hcs
    exact ⟨[], .nil _ _ _⟩
  · simp [Value.cells] at hcs
    obtain ⟨rfl, rfl, rfl⟩ := hcs
    have hlm : len ≤ m := by rw [hmm]; split <;> omega
    by_cases h0 : len = 0
    · subst h0; exact ⟨[], .nil _ _ _⟩
    have each : ∀ i, i < m → ∃ r : Rx, w.cell? (a.add (i * 5)) = some (.int .i64 r.kind) ∧ w.cell? (a.add (i * 5 + 1)) = some (.int .u64 r.s0) ∧ w.cell? (a.add (i * 5 + 2)) = some (.int .u64 r.s1) ∧ w.cell? (a.add (i * 5 + 3)) = some (.int .u64 r.s2) ∧ w.cell? (a.add (i * 5 + 4)) = some (.int .u64 r.s3) := fun i hi => by
      obtain ⟨cs', h1, h2⟩ := hx i hi
      rw [cellsRx] at h1
      obtain ⟨_, hlen, hcell⟩ := World.cells?_some h1
      obtain ⟨r, rfl⟩ := open_rxcells h2
      have e0 := hcell 0 (by decide)
      have e1 := hcell 1 (by decide)
      have e2 := hcell 2 (by decide)
      have e3 := hcell 3 (by decide)
      have e4 := hcell 4 (by decide)
      rw [Go.Deep.add_add] at e0 e1 e2 e3 e4
      exact ⟨r, e0, e1, e2, e3, e4⟩
    obtain ⟨q, hq⟩ := Go.Deep.choose_lt each
    obtain ⟨b, o, spot⟩ := a
    have hspot : spot = none := by
      have := (hq 0 (by omega)).1
      simpa [Addr.add] using World.cell?_spot this
    subst hspot
    have hbl : b < w.heap.size := by
      have := (hq 0 (by omega)).1
      unfold World.cell? at this
      by_cases hlt : b < w.heap.size
      · exact hlt
      · simp [Addr.add, Array.getElem?_eq_none (by omega : w.heap.size ≤ b)] at this
    refine ⟨(List.range len).map q, ?_⟩
    have hu : ∀ y ∈ ((List.range len).map q).map encX, y.cells.length = 5 := fun y hy => by obtain ⟨z, _, rfl⟩ := List.mem_map.1 hy; rfl
    have hlx : (((List.range len).map q).map encX).length = len := by simp
    have hfl : ∀ (xs : List PV), (∀ y ∈ xs, y.cells.length = 5) → (xs.flatMap PV.cells).length = xs.length * 5 := fun xs hxs => flat_length xs hxs
    have key : ∀ (i : Nat) (p : PV), ((((List.range len).map q).map encX).flatMap PV.cells)[i]? = some p → ∃ v, p = .u v ∧ w.cell? ⟨b, o + i, none⟩ = some v := fun i p hp => by
      have hi : i < len * 5 := by
        have := (List.getElem?_eq_some_iff.1 hp).1
        rw [hfl _ hu, hlx] at this
        exact this
      have hj : i / 5 < len := by omega
      have hk : i % 5 < 5 := by omega
      have hy : (((List.range len).map q).map encX)[i / 5]? = some (encX (q (i / 5))) := by simp [hj]
      have e := flat_at hu (i / 5) (i % 5) _ hy hk
      rw [show i / 5 * 5 + i % 5 = i by omega, hp] at e
      obtain ⟨c0, c1, c2, c3, c4⟩ := hq (i / 5) (by omega)
      have hadd : ∀ k, w.cell? ((⟨b, o, none⟩ : Addr).add k) = w.cell? ⟨b, o + k, none⟩ := fun k => by rw [addr_add]
      rw [hadd] at c0 c1 c2 c3 c4
      have h5 : i % 5 = 0 ∨ i % 5 = 1 ∨ i % 5 = 2 ∨ i % 5 = 3 ∨ i % 5 = 4 := by omega
      rcases h5 with h5 | h5 | h5 | h5 | h5 <;> rw [h5] at e <;> simp [encX, PV.cells] at e <;> subst e
      · exact ⟨_, rfl, by rw [show o + i = o + i / 5 * 5 by omega]; exact c0⟩
      · exact ⟨_, rfl, by rw [show o + i = o + (i / 5 * 5 + 1) by omega]; exact c1⟩
      · exact ⟨_, rfl, by rw [show o + i = o + (i / 5 * 5 + 2) by omega]; exact c2⟩
      · exact ⟨_, rfl, by rw [show o + i = o + (i / 5 * 5 + 3) by omega]; exact c3⟩
      · exact ⟨_, rfl, by rw [show o + i = o + (i / 5 * 5 + 4) by omega]; exact c4⟩
    have hsl := Rp.sl (Z := fun _ => False) (H := PHeap.empty) (V := V0) (w := w) 5 (((List.range len).map q).map encX) b o cap (fun i => (w.cell? ⟨b, o + i, none⟩).getD undef) hu (by simpa using hl) (fun h => (pz_empty.1 h).elim) hbl
      (fun i p hp => by obtain ⟨v, _, hv⟩ := key i p hp; rw [hv]; rfl) (fun i p hp => by obtain ⟨v, rfl, hv⟩ := key i p hp; simp only [hv, Option.getD_some]; exact .u v)
    rwa [hlx] at hsl

/-- a law's contract over pure values, as a row takes it -/
theorem law_calls {f : FuncId} {qs : List PV} (h : PCall Try.prog f qs (· = B true)) {w : World} {vs : List Value} (hr : RpL (fun _ => False) PHeap.empty V0 w qs vs) : Calls Try.prog f vs.toArray w fun e w' => e = .returned (.bool true) ∧ Below w.heap.size w w' :=
  (h (fun _ => False) w vs (fun b hb => hb.elim) hr).mono fun e w' ⟨v, p, he, hp, _, hR, hb⟩ => by
    subst hp
    rw [rpu hR] at he
    exact ⟨he, hb⟩
theorem rpl_nil {Z : Nat → Prop} {H : PHeap} {V : Nat → Value} {w : World} : RpL Z H V w [] [] := ⟨rfl, fun i p v h => by simp at h⟩
theorem rpl_cons {Z : Nat → Prop} {H : PHeap} {V : Nat → Value} {w : World} {p : PV} {v : Value} {ps : List PV} {vs : List Value} (h : Rp Z H V w p v) (hs : RpL Z H V w ps vs) : RpL Z H V w (p :: ps) (v :: vs) := ⟨by simp [hs.1], fun i a b h1 h2 => by
  cases i with
  | zero => simp at h1 h2; subst h1; subst h2; exact h
  | succ i => exact hs.2 i a b (by simpa using h1) (by simpa using h2)⟩
end Go.Proofs.Ytficeeaaaijgcaa
