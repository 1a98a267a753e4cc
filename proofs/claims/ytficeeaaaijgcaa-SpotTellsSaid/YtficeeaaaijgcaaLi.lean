/-
  Literals of slices, make, append; lists of operations; code; a function's contract out of its code.
-/
import Derived.Test.YtficeeaaaijgcaaLh
namespace Go.Proofs.Ytficeeaaaijgcaa.L
open Go Go.RowKit
set_option linter.unusedVariables false
set_option linter.unusedSimpArgs false
section
variable {P : Program} {W : Env} {n : Nat} {H : PHeap} {F : PFrame}

theorem RpParts.eval {V : Nat → Value} {w : World} {a : Act} (parts : Array (Nat × Operand)) (h : ∀ x ∈ parts.toList, Rp W.Z H V w (evP F x.2) (a.eval x.2)) :
    RpParts W.Z H V w (parts.toList.map fun x => (x.1, evP F x.2)) (parts.map fun (x : Nat × Operand) => (x.1, a.eval x.2)).toList := ⟨by simp, fun i p v h1 h2 => by
  rw [List.getElem?_map] at h1
  rw [Array.toList_map, List.getElem?_map] at h2
  cases hi : parts.toList[i]? with
  | none => rw [hi] at h1; cases h1
  | some y =>
    rw [hi] at h1 h2
    cases h1
    cases h2
    exact ⟨rfl, h y (List.mem_of_getElem? hi)⟩⟩

/-- a row made anew -/
theorem Rel.newRow {V : Nat → Value} {a : Act} {w w' : World} (hr : Rel P W n F H V a w) {d id : Nat} (hd : d < n) {t : TypeId} {k m : Nat} {cs : List PV} {us : List Value} {v0 : Value} (hb : Below w.heap.size w w') (hv0 : ∀ g, blockOf v0 = some g → w.heap.size ≤ g) (ho : w'.ownsRow W.w.heap.size t k v0 m us)
    (hR : RpL W.Z H V w cs us) (h1 : ∀ v ∈ us, v.oneCell' = true) :
    Rel P W n (F.put (some d) (.ps id ((H id).ver + 1))) (H.set id ⟨(H id).ver + 1, some (.row t k m cs)⟩) (setV V id v0) (a.put (some d) v0) w' := by
  have ht : Turn W H V w id ⟨(H id).ver + 1, some (.row t k m cs)⟩ v0 w' := Turn.new hr.heap hb rfl hv0
  refine hr.turn ht (fun bd hbd => ?_) (some d) (fun t ht => by cases ht; exact hd) ?_
  · cases hbd
    exact ⟨us, ho, hR.mono fun p v hp => ht.rp hp, h1⟩
  · refine .ps _ _ _ ?_ fun _ _ => ?_
    · simp [PHeap.set]
    · simp [setV]

theorem PE.buildSlice {o : Oper} {t e : TypeId} {k b len d id : Nat} {z : Value} {parts : Array (Nat × Operand)} {K : PV → PHeap → Prop} (ho : o.op = .buildSlice t len parts) (hd : o.dst = some d) (hdn : d < n) (ht : selem P t = some (e, k, b, z)) (hz : z.cells.toList.all Value.oneCell' = true) (hbig : len * k ≤ 16777216) (hmax : len ≤ maxLen)
    (hlit : litOk H k len (parts.toList.map fun x => (x.1, evP F x.2)) = true) (hk : K (.ps id ((H id).ver + 1)) (H.set id ⟨(H id).ver + 1, some (.row e k len ((parts.toList.map fun x => evP F x.2).flatMap PV.cells))⟩)) : PE P W n o F H K := fun V a w hr => by
  have hp := RpParts.eval (W := W) (H := H) (V := V) (w := w) (F := F) (a := a) parts fun x _ => Rp.eval (P := P) x.2 fun t _ => hr.slot t
  obtain ⟨arr, hrun, hR, h1, hsz, hlen⟩ := run_buildSlice hr.heap ht hbig hp hlit hz
  have hex : (execOp a.eval o).run P w = .ok (.value (.slice (some ⟨w.heap.size, 0, none⟩) len len)) (w.alloc (.cells arr e)) := by
    simp [execOp, ho, hrun]
  refine wp_value hex ⟨_, _, setV V id (.slice (some ⟨w.heap.size, 0, none⟩) len len), hk, ?_⟩
  rw [hd]
  have hb : Below w.heap.size w (w.alloc (.cells arr e)) := (Below.refl _ _).alloc (Nat.le_refl _) _
  refine hr.newRow (us := arr.toList) hdn hb (fun g hg => by cases hg; exact Nat.le_refl _) ⟨by simp [hsz], .inr ⟨w.heap.size, len, arr, rfl, hr.heap.below.size, heap_alloc_new w _, Nat.le_refl _, hmax, hsz, by rw [List.take_of_length_le (by simp [hsz])]⟩⟩ ?_ h1
  simpa [List.map_map, Function.comp_def] using hR

/-- the same, only read afterwards -/
theorem PQ.buildSlice {o : Oper} {t e : TypeId} {k b len : Nat} {z : Value} {parts : Array (Nat × Operand)} (ho : o.op = .buildSlice t len parts) (ht : selem P t = some (e, k, b, z)) (hz : z.cells.toList.all Value.oneCell' = true) (hbig : len * k ≤ 16777216)
    (hlit : litOk H k len (parts.toList.map fun x => (x.1, evP F x.2)) = true) : PQ P W o F H (.sl k (parts.toList.map fun x => evP F x.2)) := fun V a w hr hx => by
  have hp := RpParts.eval (W := W) (H := H) (V := V) (w := w) (F := F) (a := a) parts fun x hx' => Rp.eval (P := P) x.2 fun t ht => hx t (by
    rw [ho]
    simp only [Op.operands, List.mem_toArray, List.mem_map]
    exact ⟨x, hx', ht⟩)
  obtain ⟨arr, hrun, hR, h1, hsz, hlen⟩ := run_buildSlice hr ht hbig hp hlit hz
  have hex : (execOp a.eval o).run P w = .ok (.value (.slice (some ⟨w.heap.size, 0, none⟩) len len)) (w.alloc (.cells arr e)) := by
    simp [execOp, ho, hrun]
  have hb : Below w.heap.size w (w.alloc (.cells arr e)) := (Below.refl _ _).alloc (Nat.le_refl _) _
  refine wp_value hex ⟨_, rfl, ?_, hb⟩
  have hps : (parts.toList.map fun x => (x.1, evP F x.2)).map (·.2) = parts.toList.map fun x => evP F x.2 := by simp [List.map_map, Function.comp_def]
  rw [hps] at hR
  have hl2 : (parts.toList.map fun x => evP F x.2).length = len := by simpa using hlen
  simp only [litOk, Bool.and_eq_true, decide_eq_true_eq, List.all_eq_true] at hlit
  have := Rp.sl (Z := W.Z) (H := H) (V := V) (w := w.alloc (.cells arr e)) k (parts.toList.map fun x => evP F x.2) w.heap.size 0 len (fun i => (arr[i]?).getD undef) (fun y hy => by
    obtain ⟨q, hq, rfl⟩ := List.mem_map.1 hy
    exact (hlit.2 (q.1, evP F q.2) (List.mem_map.2 ⟨q, hq, rfl⟩)).1) (by omega) (fun hz => by
    rcases hz with hz | ⟨id, h3, h4⟩
    · have := Env.z_lt hr _ hz; omega
    · have := (hr.own_lt h3 h4).2; omega) (by simp) (fun i p hi => by
    have hlt := (List.getElem?_eq_some_iff.1 hi).1
    have hia : i < arr.size := Nat.lt_of_lt_of_eq hlt (hR.1.trans Array.length_toList)
    rw [cell_of_row _ w.heap.size (0 + i) arr e (0, 0) (heap_alloc_new w _), Nat.zero_add]
    simp [hia]) (fun i p hi => by
    have hlt := (List.getElem?_eq_some_iff.1 hi).1
    have hia : i < arr.size := Nat.lt_of_lt_of_eq hlt (hR.1.trans Array.length_toList)
    have := hR.2 i p arr[i] hi (by simp [hia])
    simp only [hia, Array.getElem?_eq_getElem, Option.getD_some]
    exact this.grow hb)
  rwa [hl2] at this

theorem PE.makeSlice {o : Oper} {t e : TypeId} {b d m id : Nat} {z : Value} {x y : Operand} {kx ky : IntKind} {K : PV → PHeap → Prop} (ho : o.op = .makeSlice t x y) (hd : o.dst = some d) (hdn : d < n) (ht : selem P t = some (e, 1, b, z)) (h1z : z.oneCell' = true)
    (hx : evP F x = .u (.int kx (m : Int))) (hy : evP F y = .u (.int ky (m : Int))) (hmax : m ≤ maxLen) (hbytes : b * m ≤ 281474976710656) (hk : K (.ps id ((H id).ver + 1)) (H.set id ⟨(H id).ver + 1, some (.row e 1 m (List.replicate m (.u z)))⟩)) : PE P W n o F H K := fun V a w hr => by
  obtain ⟨i, hu, hi, hzz, hsz1, rfl, hzs, hpos⟩ := selem_spec ht
  have hx' : a.eval x = .int kx m := by
    have := Rp.eval (P := P) (F := F) (a := a) (Z := W.Z) (H := H) (V := V) (w := w) x fun t _ => hr.slot t
    rw [hx] at this; generalize a.eval x = q at this; cases this; rfl
  have hy' : a.eval y = .int ky m := by
    have := Rp.eval (P := P) (F := F) (a := a) (Z := W.Z) (H := H) (V := V) (w := w) y fun t _ => hr.slot t
    rw [hy] at this; generalize a.eval y = q at this; cases this; rfl
  have h63 : (m : Int) ≤ 9223372036854775807 := by have := hmax; simp [maxLen] at this; omega
  have hb2 : (i.bytes : Int) * (m : Int) ≤ 281474976710656 := by
    have h : ((i.bytes * m : Nat) : Int) ≤ 281474976710656 := by omega
    rwa [Int.natCast_mul] at h
  have hrun := run_make (P := P) w t e i z hu hi hzz kx ky m m (by omega) (Int.le_refl _) hb2 h63
  simp only [Int.toNat_natCast, hsz1, Nat.mul_one] at hrun
  have hex : (execOp a.eval o).run P w = .ok (.value (.slice (some ⟨w.heap.size, 0, none⟩) m m)) (w.alloc (.cells (madeCells z.cells m) e)) := by
    simp [execOp, ho, hx', hy', hrun]
  refine wp_value hex ⟨_, _, setV V id (.slice (some ⟨w.heap.size, 0, none⟩) m m), hk, ?_⟩
  rw [hd]
  have hb : Below w.heap.size w (w.alloc (.cells (madeCells z.cells m) e)) := (Below.refl _ _).alloc (Nat.le_refl _) _
  have hzc : z.cells = #[z] := by cases z <;> first | rfl | simp [Value.oneCell'] at h1z
  have hcells : (madeCells z.cells m).toList = List.replicate m z := by
    rw [hzc]
    simp only [madeCells, Array.toList_map, Array.toList_range]
    apply List.ext_getElem?
    intro j
    by_cases hj : j < m <;> simp [hj, Nat.mod_one]
  refine hr.newRow (us := List.replicate m z) hdn hb (fun g hg => by cases hg; exact Nat.le_refl _) ⟨by simp, .inr ⟨w.heap.size, m, _, rfl, hr.heap.below.size, heap_alloc_new w _, Nat.le_refl _, hmax, by simp [size_madeCells], by rw [hcells]; simp⟩⟩ ?_ ?_
  · have := RpL.us (W := W) (H := H) (V := V) (w := w) (List.replicate m z)
    simpa using this
  · intro v hv
    rw [List.mem_replicate] at hv
    rw [hv.2]; exact h1z
end
end Go.Proofs.Ytficeeaaaijgcaa.L
