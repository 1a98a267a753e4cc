/-
  Operations that make or write memory of the call's own: new variables, stores, literals, make, append.
-/
import Derived.Test.YtficeeaaaijgcaaLg
namespace Go.Proofs.Ytficeeaaaijgcaa.L
open Go Go.RowKit
set_option linter.unusedVariables false
set_option linter.unusedSimpArgs false
section
variable {P : Program} {W : Env} {n : Nat} {H : PHeap} {F : PFrame}

theorem wp_value {o : Oper} {a : Act} {w w' : World} {v : Value} {K : Act → World → Prop} {Q : Exit → Act → World → Prop} (he : (execOp a.eval o).run P w = .ok (.value v) w') (h : K (a.put o.dst v) w') : o.wp P a w K Q := by
  unfold Oper.wp
  rw [he]
  exact h

/-- a new variable out of cells -/
theorem Rel.newBox {V : Nat → Value} {a : Act} {w : World} (hr : Rel P W n F H V a w) {d id : Nat} (hd : d < n) {t : TypeId} {cs : List PV} {us : Array Value} (hR : RpL W.Z H V w cs us.toList) (h1 : ∀ v ∈ us.toList, v.oneCell' = true) :
    Rel P W n (F.put (some d) (.pp id 0 ((H id).ver + 1))) (H.set id ⟨(H id).ver + 1, some (.box t cs)⟩) (setV V id (.pointer (some ⟨w.heap.size, 0, none⟩))) (a.put (some d) (.pointer (some ⟨w.heap.size, 0, none⟩))) (w.alloc (.cells us t)) := by
  have hb : Below w.heap.size w (w.alloc (.cells us t)) := (Below.refl _ _).alloc (Nat.le_refl _) _
  have ht : Turn W H V w id ⟨(H id).ver + 1, some (.box t cs)⟩ (.pointer (some ⟨w.heap.size, 0, none⟩)) (w.alloc (.cells us t)) := Turn.new hr.heap hb rfl fun g hg => by cases hg; exact Nat.le_refl _
  refine hr.turn ht (fun bd hbd => ?_) (some d) (fun t ht => by cases ht; exact hd) ?_
  · cases hbd
    exact ⟨_, us, rfl, hr.heap.below.size, heap_alloc_new w _, hR.mono fun p v hp => ht.rp hp, h1⟩
  · refine .pp _ _ _ _ ?_ fun _ _ => ⟨w.heap.size, ?_, rfl⟩
    · simp [PHeap.set]
    · simp [setV, blockOf]

def zeroC (P : Program) (t : TypeId) : Option (List Value) := ((P.info? t).bind (·.zero)).map fun z => z.cells.toList

theorem PE.alloc {o : Oper} {t : TypeId} {d id : Nat} {us : List Value} {k : PV → PHeap → Prop} (ho : o.op = .alloc t) (hd : o.dst = some d) (hdn : d < n) (hz : zeroC P t = some us) (h1 : us.all Value.oneCell' = true) (hk : k (.pp id 0 ((H id).ver + 1)) (H.set id ⟨(H id).ver + 1, some (.box t (us.map .u))⟩)) : PE P W n o F H k := fun V a w hr => by
  obtain ⟨z, hz1, rfl⟩ := Option.map_eq_some_iff.1 hz
  obtain ⟨ti, hti, htz⟩ := Option.bind_eq_some_iff.1 hz1
  have hrun : (execOp a.eval o).run P w = .ok (.value (.pointer (some ⟨w.heap.size, 0, none⟩))) (w.alloc (.cells z.cells t)) := by
    simp only [execOp, ho]
    simp [Instr.alloc, zeroValue, typeInfo, hti, htz, newVar, newRow]
  refine wp_value hrun ⟨_, _, setV V id (.pointer (some ⟨w.heap.size, 0, none⟩)), hk, ?_⟩
  rw [hd]
  exact hr.newBox hdn (RpL.us _) (List.all_eq_true.1 h1)

theorem PE.box {o : Oper} {t : TypeId} {x : Operand} {d id : Nat} {k : PV → PHeap → Prop} (ho : o.op = .box t x) (hd : o.dst = some d) (hdn : d < n) (hok : okC H (evP F x) = true) (hk : k (.pp id 0 ((H id).ver + 1)) (H.set id ⟨(H id).ver + 1, some (.box t (evP F x).cells)⟩)) : PE P W n o F H k := fun V a w hr => by
  obtain ⟨hR, h1⟩ := (Rp.eval (P := P) (F := F) (a := a) x fun t _ => hr.slot t).cells hr.heap hok
  have hrun : (execOp a.eval o).run P w = .ok (.value (.pointer (some ⟨w.heap.size, 0, none⟩))) (w.alloc (.cells (a.eval x).cells t)) := by
    simp only [execOp, ho]
    simp [Instr.box, newVar, newRow]
  refine wp_value hrun ⟨_, _, setV V id (.pointer (some ⟨w.heap.size, 0, none⟩)), hk, ?_⟩
  rw [hd]
  exact hr.newBox hdn hR h1

/-- a store -/
def storeB (off : Nat) (ps : List PV) : PBody → PBody
  | .row t k n cs => .row t k n (setMany cs off ps)
  | .box t cs => .box t (setMany cs off ps)

theorem setMany_take {α : Type} (cs ps : List α) (off m : Nat) (h : off + ps.length ≤ m) (hm : m ≤ cs.length) : (setMany cs off ps).take m = setMany (cs.take m) off ps := by
  apply List.ext_getElem?
  intro i
  rw [List.getElem?_take, setMany_get _ _ _ (by omega), setMany_get _ _ _ (by simp; omega), List.getElem?_take]
  by_cases hi : i < m
  · simp [hi]
  · rw [if_neg hi, if_neg (by omega), if_neg hi]

theorem run_store_at {w : World} {t : TypeId} {ag : Bool} {k g off : Nat} {cur : Array Value} {T : TypeId} {v : Value} (ht : asz P t = some (ag, k)) (hg : w.heap[g]? = some (.cells cur T (0, 0))) (hk : v.cells.size = k) (hfit : off + k ≤ cur.size) (h1 : ∀ u ∈ v.cells.toList, u.oneCell' = true) :
    (Instr.storeAt t (.pointer (some ⟨g, off, none⟩)) v).run P w = .ok () (w.setRow g (setMany cur.toList off v.cells.toList).toArray) := by
  have h2 := (asz_spec ht w).2
  have h3 := run_storeCells_at (P := P) g off T v.cells.toList 0 cur w hg (by simp [hk]; omega) h1
  simp only [Instr.storeAt, Instr.sureAddr, storeVar, Sem.run_bind, Sem.run_pure, Result.andThen_ok, h2, hk, ne_eq, not_true_eq_false, if_false]
  simp only [Nat.add_zero] at h3
  simpa [setMany] using h3

theorem PE.store {o : Oper} {t : TypeId} {x y : Operand} {id off ver k : Nat} {ag : Bool} {cs : List PV} {bd : PBody} {K : PV → PHeap → Prop} (ho : o.op = .store t x y) (hd : dstOk n o) (hx : evP F x = .pp id off ver) (hl : liveCells H id ver = some cs) (ht : asz P t = some (ag, k)) (hok : okC H (evP F y) = true) (hlen : (evP F y).cells.length = k) (hfit : off + k ≤ cs.length) (hbd : (H id).body = some bd)
    (hk : K (.u undef) (H.set id ⟨ver, some (storeB off (evP F y).cells bd)⟩)) : PE P W n o F H K := fun V a w hr => by
  obtain ⟨hR, h1⟩ := (Rp.eval (P := P) (F := F) (a := a) y fun t _ => hr.slot t).cells hr.heap hok
  have hxv := Rp.eval (P := P) (F := F) (a := a) (Z := W.Z) (H := H) (V := V) (w := w) x fun t _ => hr.slot t
  obtain ⟨a1, a2⟩ := liveCells_live hl
  rw [hx] at hxv
  generalize hv : a.eval x = v at hxv
  cases hxv with
  | pp _ _ _ _ hvv hh =>
    obtain ⟨g, hg, rfl⟩ := hh a1 a2
    have hsz : (a.eval y).cells.size = k := by rw [← hlen]; have := hR.1; simpa using this.symm
    -- the block, and what it is behind the store
    have key : ∃ cur T, w.heap[g]? = some (.cells cur T (0, 0)) ∧ off + k ≤ cur.size ∧ W.w.heap.size ≤ g ∧
        ∀ H' V' w', (∀ p v, Rp W.Z H V w p v → Rp W.Z H' V' w' p v) → w'.heap[g]? = some (.cells (setMany cur.toList off (a.eval y).cells.toList).toArray T (0, 0)) → BodyRel W H' V' w' (V id) (storeB off (evP F y).cells bd) := by
      have hown := (hr.heap.own_lt a1 hg).1
      cases bd with
      | row T kk m cs' =>
        have hcs : cs' = cs := by unfold liveCells at hl; rw [hbd] at hl; simp only [a2, if_true, Option.some.injEq] at hl; exact hl
        subst hcs
        obtain ⟨vals, ho2, hR2, h12⟩ := hr.heap.row id T kk m cs' hbd
        rcases ho2.2 with ⟨e, _⟩ | ⟨g', cap, cur, e, hg', hh', hcap, hmax, hsize, htake⟩
        · rw [e] at hg; cases hg
        · have : g' = g := by rw [e] at hg; simpa [blockOf] using hg
          subst this
          have hvl : cs'.length = vals.length := hR2.1
          have hm1 : m * kk = vals.length := ho2.1.symm
          have hmc : m * kk ≤ cur.size := by rw [hsize]; exact Nat.mul_le_mul_right _ hcap
          refine ⟨cur, T, hh', by omega, hown, fun H' V' w' hm hw' => ?_⟩
          refine ⟨setMany vals off (a.eval y).cells.toList, ⟨by rw [setMany_length _ _ _ (by simp [hsz]; omega)]; exact ho2.1, .inr ⟨g', cap, _, e, hg', hw', hcap, hmax, by simp [setMany_length _ _ _ (show off + (a.eval y).cells.toList.length ≤ cur.toList.length by simp [hsz]; omega), hsize], ?_⟩⟩, ?_, ?_⟩
          · rw [setMany_take _ _ _ _ (by simp [hsz]; omega) (by simpa using hmc), htake]
          · have := RpL.setMany (W := W) (H := H) hR2 hR (off := off) (by omega)
            exact this.mono hm
          · intro u hu
            rcases mem_setMany hu with hu | hu
            · exact h12 u hu
            · exact h1 u hu
      | box T cs' =>
        have hcs : cs' = cs := by unfold liveCells at hl; rw [hbd] at hl; simp only [a2, if_true, Option.some.injEq] at hl; exact hl
        subst hcs
        obtain ⟨g', arr, e, hg', hh', hR2, h12⟩ := hr.heap.box id T cs' hbd
        have : g' = g := by rw [e] at hg; simpa [blockOf] using hg
        subst this
        have hvl : cs'.length = arr.size := by have := hR2.1; simpa using this
        refine ⟨arr, T, hh', by omega, hown, fun H' V' w' hm hw' => ?_⟩
        refine ⟨g', _, e, hg', hw', ?_, ?_⟩
        · simp only [List.toList_toArray]
          exact (RpL.setMany (W := W) (H := H) hR2 hR (off := off) (by omega)).mono hm
        · intro u hu
          rcases mem_setMany hu with hu | hu
          · exact h12 u hu
          · exact h1 u hu
    obtain ⟨cur, T, hcur, hfit2, hWg, hbody⟩ := key
    have hrun := run_store_at (P := P) (off := off) ht hcur hsz hfit2 h1
    have hturn : Turn W H V w id ⟨ver, some (storeB off (evP F y).cells bd)⟩ (V id) (w.setRow g (setMany cur.toList off (a.eval y).cells.toList).toArray) := by
      have hother : ∀ b, b ≠ g → (w.setRow g (setMany cur.toList off (a.eval y).cells.toList).toArray).heap[b]? = w.heap[b]? := fun b hb => setRow_other w g b _ hb
      refine ⟨hr.heap.below.trans ⟨rfl, rfl, rfl, by simp, fun b hb => hother b (by omega)⟩, by simp, fun b hb hn => hother b fun e => hn ⟨a1, by rw [e]; exact hg⟩, fun g' hg' => .inr ⟨a1, hg'⟩, .inr ⟨a2.symm, rfl, a1⟩⟩
    have : (execOp a.eval o).run P w = .ok .skip (w.setRow g (setMany cur.toList off (a.eval y).cells.toList).toArray) := by
      simp [execOp, ho, hv, hrun]
    unfold Oper.wp
    rw [this]
    exact ⟨.u undef, _, setV V id (V id), hk, hr.turn hturn (fun bd' hbd' => by
      cases hbd'
      exact hbody _ _ _ (fun p v hp => hturn.rp hp) (setRow_heap w g cur _ T (0, 0) hcur)) o.dst hd (.u _)⟩

/-- the element type of a slice type: its number, cells, bytes and zero -/
def selem (P : Program) (t : TypeId) : Option (TypeId × Nat × Nat × Value) :=
  match P.underlying t with
  | some (.slice e) =>
    match P.info? e with
    | some i => match i.zero with
      | some z => if z.cells.size = i.size ∧ 0 < i.size then some (e, i.size, i.bytes, z) else none
      | none => none
    | none => none
  | _ => none
theorem selem_spec {t e : TypeId} {k b : Nat} {z : Value} (h : selem P t = some (e, k, b, z)) : ∃ i, P.underlying t = some (.slice e) ∧ P.info? e = some i ∧ i.zero = some z ∧ i.size = k ∧ i.bytes = b ∧ z.cells.size = k ∧ 0 < k := by
  unfold selem at h
  split at h
  · rename_i e' hu
    split at h
    · rename_i i hi
      split at h
      · rename_i z' hz
        split at h
        · rename_i hc
          cases h
          exact ⟨i, hu, hi, hz, rfl, rfl, hc.1, hc.2⟩
        · cases h
      · cases h
    · cases h
  · cases h

/-- a slice's literal, all of its elements written -/
theorem fillP_seq {k : Nat} {places : List (Nat × Nat)} : ∀ (ps : List PV) (i : Nat) (cs : List PV), (∀ p ∈ ps, p.cells.length = k ∧ okC H p = true) → (∀ j, j < ps.length → places[i + j]? = some ((i + j) * k, k)) → (i + ps.length) * k = cs.length →
    fillP H places cs ((List.range' i ps.length).zip ps) = some (cs.take (i * k) ++ ps.flatMap PV.cells)
  | [], i, cs, _, _, hl => by
    simp only [List.length_nil, List.range'_zero, List.zip_nil_left, fillP, List.flatMap_nil, List.append_nil]
    rw [List.take_of_length_le (by simp at hl; omega)]
  | p :: ps, i, cs, hp, hpl, hl => by
    obtain ⟨h1, h2⟩ := hp p (by simp)
    have h3 := hpl 0 (by simp)
    simp only [Nat.add_zero] at h3
    have e : (i + (ps.length + 1)) * k = i * k + k + ps.length * k := by rw [Nat.add_mul, Nat.add_mul]; omega
    simp only [List.length_cons] at hl ⊢
    rw [e] at hl
    simp only [List.range'_succ, List.zip_cons_cons, fillP, h3]
    rw [if_pos ⟨h1, by omega, h2⟩, fillP_seq ps (i + 1) _ (fun q hq => hp q (by simp [hq])) (fun j hj => by have := hpl (j + 1) (by simp; omega); rwa [show i + (j + 1) = i + 1 + j by omega] at this) (by rw [setMany_length _ _ _ (by omega), ← hl, Nat.add_mul, Nat.add_mul]; omega)]
    congr 1
    rw [List.flatMap_cons, ← List.append_assoc]
    congr 1
    unfold setMany
    rw [h1, Nat.add_mul, Nat.one_mul, List.take_append_of_le_length (by simp; omega), List.take_of_length_le (by simp; omega)]

def litOk (H : PHeap) (k len : Nat) (ps : List (Nat × PV)) : Bool := decide (ps.map (·.1) = List.range len) && ps.all (fun p => decide (p.2.cells.length = k) && okC H p.2)

theorem run_buildSlice {V : Nat → Value} {w : World} (hr : HRel P W H V w) {t e : TypeId} {k b len : Nat} {z : Value} (ht : selem P t = some (e, k, b, z)) (hbig : len * k ≤ 16777216) {ps : List (Nat × PV)} {vs : Array (Nat × Value)} (hp : RpParts W.Z H V w ps vs.toList) (hlit : litOk H k len ps = true) (hz : z.cells.toList.all Value.oneCell' = true) :
    ∃ arr : Array Value, (Instr.buildSlice t len vs).run P w = .ok (.slice (some ⟨w.heap.size, 0, none⟩) len len) (w.alloc (.cells arr e)) ∧ RpL W.Z H V w ((ps.map (·.2)).flatMap PV.cells) arr.toList ∧ (∀ v ∈ arr.toList, v.oneCell' = true) ∧ arr.size = len * k ∧ ps.length = len := by
  obtain ⟨i, hu, hi, hzz, rfl, rfl, hzs, hpos⟩ := selem_spec ht
  simp only [litOk, Bool.and_eq_true, decide_eq_true_eq, List.all_eq_true] at hlit
  obtain ⟨hidx, hall⟩ := hlit
  have hlen : ps.length = len := by have := congrArg List.length hidx; simpa using this
  have hzip : ps = (List.range' 0 (ps.map (·.2)).length).zip (ps.map (·.2)) := by
    rw [List.length_map, hlen, ← List.range_eq_range', ← hidx]
    clear hidx hall hlen hp
    induction ps with
    | nil => rfl
    | cons p ps ih => simp only [List.map_cons, List.zip_cons_cons]; rw [← ih]
  let zs : Array Value := (Array.range (len * i.size)).map (z.cells[· % z.cells.size]!)
  have hzsz : zs.size = len * i.size := by simp [zs]
  have hone : ∀ v ∈ zs.toList, v.oneCell' = true := fun v hv => by
    simp only [zs, Array.toList_map, List.mem_map] at hv
    obtain ⟨j, _, rfl⟩ := hv
    have hj : j % z.cells.size < z.cells.size := Nat.mod_lt _ (by omega)
    rw [getElem!_pos z.cells _ hj]
    rw [List.all_eq_true] at hz
    exact hz _ (by simp)
  have hf : fillP H ((List.range len).map fun j => (j * i.size, i.size)) (zs.toList.map .u) ps = some ((ps.map (·.2)).flatMap PV.cells) := by
    have := fillP_seq (H := H) (k := i.size) (places := (List.range len).map fun j => (j * i.size, i.size)) (ps.map (·.2)) 0 (zs.toList.map .u) (fun p hp => by
      obtain ⟨q, hq, rfl⟩ := List.mem_map.1 hp
      have := hall q hq
      simpa using this) (fun j hj => by
      rw [List.length_map, hlen] at hj
      simp [hj]) (by simp [hzsz, hlen])
    rw [← hzip] at this
    simpa using this
  obtain ⟨r, hr1, hr2, hr3⟩ := fill_sound hr (place := fun j => some (j * i.size, i.size)) (places := (List.range len).map fun j => (j * i.size, i.size)) (fun j x hx => by
    rw [List.getElem?_map] at hx
    cases hj : (List.range len)[j]? with
    | none => rw [hj] at hx; cases hx
    | some j' =>
      rw [hj] at hx
      obtain ⟨h1, h2⟩ := List.getElem?_eq_some_iff.1 hj
      have : j' = j := by simpa using h2.symm
      subst this
      simpa using hx) ps vs.toList _ zs _ hp (RpL.us _) hone hf
  have hrsz : r.size = len * i.size := by
    have h1 := hr2.1
    have : ((ps.map (·.2)).flatMap PV.cells).length = len * i.size := by
      have : ∀ (ys : List PV), (∀ y ∈ ys, y.cells.length = i.size) → (ys.flatMap PV.cells).length = ys.length * i.size := by
        intro ys
        induction ys with
        | nil => intro _; simp
        | cons y ys ih => intro hy; rw [List.flatMap_cons, List.length_append, ih (fun z hz => hy z (by simp [hz])), hy y (by simp), List.length_cons, Nat.add_mul]; omega
      rw [this _ (fun y hy => by
        obtain ⟨q, hq, rfl⟩ := List.mem_map.1 hy
        exact (hall q hq).1), List.length_map, hlen]
    rw [this] at h1
    simpa using h1.symm
  refine ⟨r, ?_, hr2, hr3, hrsz, hlen⟩
  have hzv : (zeroValue e).run P w = .ok z w := by simp [zeroValue, typeInfo, hi, hzz]
  have hsz : (sizeOf e).run P w = .ok i.size w := by simp [sizeOf, typeInfo, hi]
  have hnb : ¬ (len * i.size > 16777216) := by omega
  by_cases h0 : len * i.size = 0
  · have hl0 : len = 0 := by rcases Nat.mul_eq_zero.1 h0 with h | h <;> omega
    subst hl0
    have hps : ps = [] := List.eq_nil_of_length_eq_zero hlen
    have hvs : vs = #[] := by apply Array.ext'; have := hp.1; rw [hps] at this; exact List.eq_nil_of_length_eq_zero this.symm
    subst hvs
    have hr0 : r = #[] := by apply Array.ext'; exact List.eq_nil_of_length_eq_zero (by simpa using hrsz)
    subst hr0
    unfold Instr.buildSlice
    have hra : Array.range 0 = #[] := rfl
    simp [run_underlying hu, hsz, newRow, Instr.fill, hra]
  · unfold Instr.buildSlice
    simp only [run_underlying hu, hsz, Sem.run_bind, Result.andThen_ok, hnb, h0, if_false, hzv, Sem.run_ite, Sem.run_pure]
    have : Instr.fill (fun i_1 => some (i_1 * i.size, i.size)) ((Array.range (len * i.size)).map (z.cells[· % z.cells.size]!)) vs.toList = some r := hr1
    simp [this, newRow]
end
end Go.Proofs.Ytficeeaaaijgcaa.L
