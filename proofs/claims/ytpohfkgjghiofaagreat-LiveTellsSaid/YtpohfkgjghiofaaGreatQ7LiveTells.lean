/-
  Texts of this proof, put together: Op, O15, Po.
-/
import Derived.Deep.Slices
import Derived.Test.YtpohfkgjghiofaaGreatQ6LiveTells

namespace Go.Proofs.YtpohfkgjghiofaaGreat
open Go Go.RowKit Go.ChangeShapes Go.WideShapes L
set_option linter.unusedVariables false
set_option linter.unusedSimpArgs false
abbrev F0 : ZM := ⟨fun _ => False, 0⟩
def OkI (k : IntKind) (z : Int) : Prop := (Lit.int k z).wf = true
theorem OkI.u8 {z : Int} (h : OkI .u8 z) : 0 ≤ z ∧ z < 256 := by
  have : 0 ≤ z ∧ z ≤ 255 := by simpa [OkI, Lit.wf, IntKind.min, IntKind.max, IntKind.signed, IntKind.bits] using h
  omega
section
variable {w : World} {Z : ZM} {H : PHeap} {V : Nat → Value}
theorem rl_nil : RpL Z H V w [] [] := ⟨rfl, fun i p v h => by simp at h⟩
theorem rl_cons {p : PV} {v : Value} {ps : List PV} {vs : List Value} (h : Rp Z H V w p v) (hs : RpL Z H V w ps vs) : RpL Z H V w (p :: ps) (v :: vs) := ⟨by simp [hs.1], fun i a b h1 h2 => by
  cases i with
  | zero => simp at h1 h2; subst h1; subst h2; exact h
  | succ i => exact hs.2 i a b (by simpa using h1) (by simpa using h2)⟩
theorem rl_app {ps qs : List PV} {vs us : List Value} (h : RpL Z H V w ps vs) (hs : RpL Z H V w qs us) : RpL Z H V w (ps ++ qs) (vs ++ us) := by
  refine ⟨by simp [h.1, hs.1], fun i a b h1 h2 => ?_⟩
  by_cases hi : i < ps.length
  · rw [List.getElem?_append_left hi] at h1
    rw [List.getElem?_append_left (h.1 ▸ hi)] at h2
    exact h.2 i a b h1 h2
  · rw [List.getElem?_append_right (by omega)] at h1
    rw [List.getElem?_append_right (by rw [← h.1]; omega), ← h.1] at h2
    exact hs.2 _ a b h1 h2
theorem zlk {ps qs : List PV} {cs : List Value} (n : Nat) (h : RpL Z H V w ps (cs.take n)) (hs : RpL Z H V w qs (cs.drop n)) : RpL Z H V w (ps ++ qs) cs := by
  have := rl_app h hs
  rwa [List.take_append_drop] at this
theorem rl_all {ps : List PV} {cs : List Value} {n : Nat} (hn : cs.length ≤ n) (h : RpL Z H V w ps (cs.take n)) : RpL Z H V w ps cs := by rwa [List.take_of_length_le hn] at h
theorem zoq {ps : List PV} {cs : List Value} {m n k : Nat} (e : m + n = k) (h : RpL Z H V w ps (cs.drop k)) : RpL Z H V w ps ((cs.drop m).drop n) := by rw [List.drop_drop, e]; exact h
theorem rl_one {p : PV} {v : Value} (h : RpL Z H V w [p] [v]) : Rp Z H V w p v := h.2 0 p v rfl rfl
theorem rl_agg {ps : List PV} {cs : Array Value} (h : RpL Z H V w ps (Value.agg cs).cells.toList) : Rp Z H V w (.agg ps) (.agg cs) :=
  .agg _ _ (by simpa [Value.cells] using h.1) fun i p u h1 h2 => h.2 i p u h1 (by simpa [Value.cells] using h2)
end
section
variable {H : Type} {enc : TypeId × Value → H} {P : Program} {w : World} {base : Nat} {spare : Nat → Bool} {held : Bool}
def zbz (enc : TypeId × Value → H) (P : Program) (w : World) (base : Nat) (spare : Nat → Bool) (held : Bool) (t : TypeId) {α : Type} (rep : α → PV) (C : α → Prop) : Prop :=
  ∀ (fuel : Nat) (cs : List Value) (x : DataW H × List MemPlace), DataW.trod enc P w base spare held fuel t cs = some x → ∃ a, RpL F0 PHeap.empty V0 w (rep a).cells cs ∧ C a
theorem zil {t : TypeId} {k : IntKind} (ht : P.underlying t = some (.int k)) : zbz enc P w base spare held t (fun z => .u (.int k z)) (OkI k) := fun fuel cs x h => by
  obtain ⟨n, rfl, _, hw⟩ := DataW.trod_int ht h
  exact ⟨n, rl_cons (.u _) rl_nil, hw⟩
theorem zkw {α : Type} [Inhabited α] {t e : TypeId} {k : Nat} {rep : α → PV} {C : α → Prop} (ht : P.underlying t = some (.slice e)) (hk : P.cellsOf e = k) (hpos : 0 < k) (hcell : ∀ a, (rep a).cells.length = k)
    (he : zbz enc P w base spare held e rep C) : zbz enc P w base spare held t (fun (l : List α) => .sl k (l.map rep)) (fun l => l.length ≤ maxLen ∧ ∀ a ∈ l, C a) := fun fuel cs x h => by
  have helem := he
  suffices hs : ∃ (l : List α) (v : Value), cs = [v] ∧ Rp F0 PHeap.empty V0 w (.sl k (l.map rep)) v ∧ l.length ≤ maxLen ∧ ∀ a ∈ l, C a by
    obtain ⟨l, v, rfl, h1, h2⟩ := hs
    exact ⟨l, rl_cons h1 rl_nil, h2⟩
  rcases Go.Deep.open_slice ht h with ⟨hcs, _⟩ | ⟨a, len, cap, m, n, D, Pl, hcs, hb, hl, hm, hmm, _, hx⟩
  · exact ⟨[], _, hcs, .nil _ _ _, Nat.zero_le _, fun a ha => by cases ha⟩
  · have hlm : len ≤ m := by rw [hmm]; split <;> omega
    by_cases h0 : len = 0
    · subst h0; exact ⟨[], _, hcs, .nil _ _ _, Nat.zero_le _, fun a ha => by cases ha⟩
    have each : ∀ i, i < m → ∃ q : α, (∀ r, r < k → ∃ u p, w.cell? (a.add (i * k + r)) = some u ∧ (rep q).cells[r]? = some p ∧ Rp F0 PHeap.empty V0 w p u) ∧ C q := fun i hi => by
      obtain ⟨cs', h1, h2⟩ := hx i hi
      rw [hk] at h1
      obtain ⟨_, hlen, hcl⟩ := World.cells?_some h1
      obtain ⟨q, hq, hC⟩ := helem n cs' _ h2
      refine ⟨q, fun r hr => ?_, hC⟩
      have e0 := hcl r hr
      rw [Go.Deep.add_add] at e0
      have h3 : r < cs'.length := by omega
      have h4 : r < (rep q).cells.length := by rw [hcell]; exact hr
      rw [List.getElem?_eq_getElem h3] at e0
      exact ⟨_, _, e0, List.getElem?_eq_getElem h4, hq.2 r _ _ (List.getElem?_eq_getElem h4) (List.getElem?_eq_getElem h3)⟩
    obtain ⟨q, hq⟩ := Go.Deep.choose_lt each
    obtain ⟨b, o, spot⟩ := a
    obtain ⟨u0, _, hu0, _, _⟩ := (hq 0 (by omega)).1 0 hpos
    have hspot : spot = none := by simpa [Addr.add] using World.cell?_spot hu0
    subst hspot
    have hbl : b < w.heap.size := by
      unfold World.cell? at hu0
      by_cases hlt : b < w.heap.size
      · exact hlt
      · simp [Addr.add, Array.getElem?_eq_none (by omega : w.heap.size ≤ b)] at hu0
    refine ⟨(List.range len).map q, _, hcs, ?_, by simp; omega, fun z hz => by obtain ⟨i, hi, rfl⟩ := List.mem_map.1 hz; exact (hq i (by have := List.mem_range.1 hi; omega)).2⟩
    have hu : ∀ y ∈ ((List.range len).map q).map rep, y.cells.length = k := fun y hy => by obtain ⟨z, _, rfl⟩ := List.mem_map.1 hy; exact hcell z
    have hlx : (((List.range len).map q).map rep).length = len := by simp
    have hadd : ∀ k, w.cell? ((⟨b, o, none⟩ : Addr).add k) = w.cell? ⟨b, o + k, none⟩ := fun k => by rw [zx]
    have key : ∀ (i : Nat) (p : PV), ((((List.range len).map q).map rep).flatMap PV.cells)[i]? = some p → ∃ v, w.cell? ⟨b, o + i, none⟩ = some v ∧ Rp F0 PHeap.empty V0 w p v := fun i p hp => by
      have hi : i < len * k := by
        have := (List.getElem?_eq_some_iff.1 hp).1
        rw [L.flat_length _ hu, hlx] at this
        exact this
      have hj : i / k < len := by rw [Nat.div_lt_iff_lt_mul hpos]; exact hi
      have hr : i % k < k := Nat.mod_lt _ hpos
      have hy : (((List.range len).map q).map rep)[i / k]? = some (rep (q (i / k))) := by simp [hj]
      have e := zcw hu (i / k) (i % k) _ hy hr
      have hdm : i / k * k + i % k = i := by rw [Nat.mul_comm]; exact Nat.div_add_mod i k
      rw [hdm, hp] at e
      obtain ⟨u, p', h1, h2, h3⟩ := (hq (i / k) (by omega)).1 (i % k) hr
      rw [← e] at h2
      cases h2
      rw [hadd, hdm] at h1
      exact ⟨u, h1, h3⟩
    have hsl := Rp.sl (Z := F0) (H := PHeap.empty) (V := V0) (w := w) k (((List.range len).map q).map rep) b o cap (fun i => (w.cell? ⟨b, o + i, none⟩).getD undef) hu (by simpa using hl) (fun h => (Q0.1 h).elim) hbl
      (fun i p hp => by obtain ⟨v, hv, _⟩ := key i p hp; rw [hv]; rfl) (fun i p hp => by obtain ⟨v, hv, hr⟩ := key i p hp; simp only [hv, Option.getD_some]; exact hr)
    rwa [hlx] at hsl
theorem zmo {α : Type} [Inhabited α] {t e : TypeId} {n : Nat} {rep : α → PV} {C : α → Prop} (ht : P.underlying t = some (.array n e)) (hk : P.cellsOf e = 1) (hn : P.cellsOf t = n) (hcell : ∀ a, (rep a).cells = [rep a])
    (he : zbz enc P w base spare held e rep C) : zbz enc P w base spare held t (arV (n := n) rep) (fun a => ∀ x ∈ a.1, C x) := fun fuel cs x h => by
  obtain ⟨zs, m, _, _, hcl, hzl, hz⟩ := DataW.trod_array ht h
  rw [hn] at hcl
  have each : ∀ i, i < n → ∃ q : α, (∃ u, cs[i]? = some u ∧ Rp F0 PHeap.empty V0 w (rep q) u) ∧ C q := fun i hi => by
    have h1 := hz i hi
    rw [hk, Nat.mul_one, List.getElem?_eq_getElem (by omega)] at h1
    obtain ⟨q, hq, hC⟩ := he m _ _ h1
    have hd : (cs.drop i).take 1 = [cs[i]'(by omega)] := by rw [List.drop_eq_getElem_cons (by omega)]; rfl
    rw [hd, hcell] at hq
    exact ⟨q, ⟨_, List.getElem?_eq_getElem (by omega), rl_one hq⟩, hC⟩
  obtain ⟨q, hq⟩ := Go.Deep.choose_lt each
  refine ⟨⟨(List.range n).map q, by simp⟩, ?_, fun x hx => ?_⟩
  · refine ⟨by simp [arV, PV.cells, hcl], fun i p v h1 h2 => ?_⟩
    have hi : i < n := by have := (List.getElem?_eq_some_iff.1 h2).1; omega
    simp [arV, PV.cells, hi] at h1
    obtain ⟨u, h3, h4⟩ := (hq i hi).1
    rw [h3] at h2
    cases h2
    subst h1
    exact h4
  · obtain ⟨i, hi, rfl⟩ := List.mem_map.1 hx
    exact (hq i (List.mem_range.1 hi)).2
end
theorem row_calls {f : FuncId} {qs : List PV} (h : PCall Tryz.prog f qs (· = B true)) {w : World} {vs : List Value} (hr : RpL F0 PHeap.empty V0 w qs vs) : Calls Tryz.prog f vs.toArray w fun e w' => e = .returned (.bool true) ∧ Below w.heap.size w w' :=
  (h F0 w vs (fun b hb => False.elim hb) (Nat.zero_le _) hr).mono fun e w' ⟨v, p, he, hp, _, hR, hb⟩ => by
    subst hp
    rw [rpu hR] at he
    exact ⟨he, hb⟩
end Go.Proofs.YtpohfkgjghiofaaGreat

namespace Go.Proofs.YtpohfkgjghiofaaGreat
open Go Go.RowKit Go.ChangeShapes Go.WideShapes L
set_option linter.unusedVariables false
set_option linter.unusedSimpArgs false
section
variable {H : Type} {enc : TypeId × Value → H} {w : World} {base : Nat} {spare : Nat → Bool} {held : Bool}
theorem cl_5 : Tryz.prog.cellsOf 5 = 1 := by kernel_rfl
set_option maxRecDepth 20000 in
theorem op_5 : zbz enc Tryz.prog w base spare held 5 U8 (fun x => OkI .u8 x) := zil Tryz.underlying5
theorem zou : Tryz.prog.cellsOf 22 = 256 := by kernel_rfl
set_option maxRecDepth 20000 in
theorem op_22 : zbz enc Tryz.prog w base spare held 22 (arV (n := 256) U8) (fun x => ∀ y1 ∈ x.1, OkI .u8 y1) := zmo Tryz.underlying22 cl_5 zou (fun _ => rfl) op_5
theorem cl_3 : Tryz.prog.cellsOf 3 = 1 := by kernel_rfl
set_option maxRecDepth 20000 in
theorem op_3 : zbz enc Tryz.prog w base spare held 3 I (fun x => OkI .i64 x) := zil Tryz.underlying3
theorem zon : Tryz.prog.cellsOf 24 = 1 := by kernel_rfl
set_option maxRecDepth 20000 in
theorem zop : zbz enc Tryz.prog w base spare held 24 slI (fun x => x.length ≤ maxLen ∧ ∀ y1 ∈ x, OkI .i64 y1) := zkw Tryz.underlying24 cl_3 (by decide) (fun _ => rfl) op_3
theorem cl_23 : Tryz.prog.cellsOf 23 = 1 := by kernel_rfl
set_option maxRecDepth 20000 in
theorem op_23 : zbz enc Tryz.prog w base spare held 23 qd (fun x => x.length ≤ maxLen ∧ ∀ y1 ∈ x, y1.length ≤ maxLen ∧ ∀ y2 ∈ y1, OkI .i64 y2) := zkw Tryz.underlying23 zon (by decide) (fun _ => rfl) zop
theorem cl_26 : Tryz.prog.cellsOf 26 = 259 := by kernel_rfl
instance : Inhabited je := ⟨⟨(arZ 256 0), 0, [], []⟩⟩
structure zaz (x : je) : Prop where
  ji : ∀ y9 ∈ x.ji.1, OkI .u8 y9
  jf : OkI .i64 x.jf
  jd : x.jd.length ≤ maxLen ∧ ∀ y8 ∈ x.jd, y8.length ≤ maxLen ∧ ∀ y2 ∈ y8, OkI .i64 y2
  jl : x.jl.length ≤ maxLen ∧ ∀ y9 ∈ x.jl, OkI .i64 y9
set_option maxRecDepth 20000 in
theorem op_26 : zbz enc Tryz.prog w base spare held 26 jb (zaz) := fun fuel cs x h => by
  obtain ⟨xs, n, _, _, hcl, hxl, hf⟩ := DataW.trod_struct Tryz.underlying26 h
  rw [cl_26] at hcl
  have hx : xs.length = 4 := hxl
  have g0 : DataW.trod enc Tryz.prog w base spare held n 22 ((cs.drop 0).take (Tryz.prog.cellsOf 22)) = xs[0]? := hf 0 _ rfl
  rw [zou, List.getElem?_eq_getElem (by omega)] at g0
  obtain ⟨a0, r0, c0⟩ := op_22 _ _ _ g0
  have g1 : DataW.trod enc Tryz.prog w base spare held n 3 ((cs.drop 256).take (Tryz.prog.cellsOf 3)) = xs[1]? := hf 1 _ rfl
  rw [cl_3, List.getElem?_eq_getElem (by omega)] at g1
  obtain ⟨a1, r1, c1⟩ := op_3 _ _ _ g1
  have g2 : DataW.trod enc Tryz.prog w base spare held n 23 ((cs.drop 257).take (Tryz.prog.cellsOf 23)) = xs[2]? := hf 2 _ rfl
  rw [cl_23, List.getElem?_eq_getElem (by omega)] at g2
  obtain ⟨a2, r2, c2⟩ := op_23 _ _ _ g2
  have g3 : DataW.trod enc Tryz.prog w base spare held n 24 ((cs.drop 258).take (Tryz.prog.cellsOf 24)) = xs[3]? := hf 3 _ rfl
  rw [zon, List.getElem?_eq_getElem (by omega)] at g3
  obtain ⟨a3, r3, c3⟩ := zop _ _ _ g3
  exact ⟨⟨a0, a1, a2, a3⟩, (zlk 256 r0 (zlk 1 r1 (zoq (m := 256) (n := 1) (k := 257) rfl (zlk 1 r2 (zoq (m := 257) (n := 1) (k := 258) rfl (rl_all (n := 1) (by simp [hcl]) r3)))))), ⟨c0, c1, c2, c3⟩⟩
end
end Go.Proofs.YtpohfkgjghiofaaGreat

namespace Go.Proofs.YtpohfkgjghiofaaGreat
open Go Go.RowKit L
theorem dOk_of {d : je} (h : zaz d) : DOk d := ⟨fun x hx => (h.ji x hx).u8, Nat.le_trans h.jd.1 (by decide), fun r hr => Nat.le_trans (h.jd.2 r hr).1 (by decide)⟩
theorem LiveTells_tot (d : je) (h : zaz d) : Tot (g_law15_LiveTells d) (· = true) := zh2 d (dOk_of h) (Nat.le_trans h.jd.1 (by decide))
end Go.Proofs.YtpohfkgjghiofaaGreat
