/-
  The logic of pure values: rows that may be nil; steps that name the new heap by what it holds.
-/
import Derived.Test.YtficeeaaaijgcaaLr
namespace Go.Proofs.Ytficeeaaaijgcaa.L
open Go Go.RowKit
set_option linter.unusedVariables false
set_option linter.unusedSimpArgs false

section
variable {H : PHeap}
@[go_sem] theorem okC_u (v : Value) : okC H (.u v) = v.oneCell' := rfl
@[go_sem] theorem okC_sl (k : Nat) (xs : List PV) : okC H (.sl k xs) = true := rfl
@[go_sem] theorem okC_rp (xs : List PV) : okC H (.rp xs) = true := rfl
@[go_sem] theorem okC_agg (xs : List PV) : okC H (.agg xs) = xs.all (leafOk H) := rfl
@[go_sem] theorem leafOk_u (v : Value) : leafOk H (.u v) = v.oneCell' := rfl
@[go_sem] theorem leafOk_sl (k : Nat) (xs : List PV) : leafOk H (.sl k xs) = true := rfl
@[go_sem] theorem leafOk_rp (xs : List PV) : leafOk H (.rp xs) = true := rfl
@[go_sem] theorem oneCell'_int (k : IntKind) (z : Int) : (Value.int k z).oneCell' = true := rfl
@[go_sem] theorem oneCell'_bool (b : Bool) : (Value.bool b).oneCell' = true := rfl
@[go_sem] theorem oneCell'_str (s : ByteArray) : (Value.string s).oneCell' = true := rfl
@[go_sem] theorem oneCell'_slice (a : Option Addr) (m c : Nat) : (Value.slice a m c).oneCell' = true := rfl
@[go_sem] theorem oneCell'_pointer (a : Option Addr) : (Value.pointer a).oneCell' = true := rfl
@[go_sem] theorem nilOfP_pp (id off ver : Nat) : nilOfP H (.pp id off ver) = (liveCells H id ver).map fun _ => false := rfl
@[go_sem] theorem ofV_bool (b : Bool) : ofV (.bool b) = .u (.bool b) := rfl
@[go_sem] theorem ofV_int (k : IntKind) (z : Int) : ofV (.int k z) = .u (.int k z) := rfl
@[go_sem] theorem ofV_str (s : ByteArray) : ofV (.string s) = .u (.string s) := rfl
def fillB (H : PHeap) (o : Option (List PV × List (Nat × Nat))) (parts : List (Nat × PV)) : Option PV :=
  match o with
  | none => none
  | some (zs, places) => if zs.all (leafOk H) then (fillP H places zs parts).map .agg else none
@[go_sem] theorem buildP_t {P : Program} (t : TypeId) (parts : List (Nat × PV)) : buildP P H t parts = fillB H (bldT P t) parts := rfl
@[go_sem] theorem fillB_some (zs : List PV) (places : List (Nat × Nat)) (parts : List (Nat × PV)) : fillB H (some (zs, places)) parts = if zs.all (leafOk H) then (fillP H places zs parts).map .agg else none := rfl
@[go_sem] theorem fillP_nil (places : List (Nat × Nat)) (cs : List PV) : fillP H places cs [] = some cs := by unfold fillP; rfl
@[go_sem] theorem fillP_cons (places : List (Nat × Nat)) (cs : List PV) (i : Nat) (p : PV) (rest : List (Nat × PV)) : fillP H places cs ((i, p) :: rest) = (places[i]?).elim none fun q => if p.cells.length = q.2 ∧ q.1 + q.2 ≤ cs.length ∧ okC H p = true then fillP H places (cs.take q.1 ++ p.cells ++ cs.drop (q.1 + p.cells.length)) rest else none := by
  rw [fillP]
  cases places[i]? <;> rfl
end

theorem PC.seqM {P : Program} {W : Env} {n : Nat} {F : PFrame} {H : PHeap} {Q : Exit → PFrame → PHeap → Prop} {x y : Code} (M : PFrame → PHeap → Prop) (h1 : PC P W n x F H (thenP M Q)) (h2 : ∀ F H, M F H → PC P W n y F H Q) : PC P W n (.seq x y) F H Q :=
  PC.seq fun K hK => h1.mono fun e F H h => by
    cases e <;> first | exact hK _ _ (h2 _ _ h) | exact h

/-- a row of the call's own, or nil when there is nothing in it -/
def rowV (m id ver : Nat) : PV := if m = 0 then .u (.slice none 0 0) else .ps id ver
def RowAt (H : PHeap) (e : TypeId) (k m id ver : Nat) (cs : List PV) : Prop := cs.length = m * k ∧ (m ≠ 0 → H id = ⟨ver, some (.row e k m cs)⟩)
theorem rowV_cells (m id ver : Nat) : (rowV m id ver).cells = [rowV m id ver] := by unfold rowV; split <;> rfl
theorem rowV_pos {m : Nat} (h : m ≠ 0) (id ver : Nat) : rowV m id ver = .ps id ver := if_neg h
theorem RowAt.leaf {H : PHeap} {e : TypeId} {k m id ver : Nat} {cs : List PV} (h : RowAt H e k m id ver cs) : leafOk H (rowV m id ver) = true := by
  unfold rowV
  split
  · rfl
  · rename_i hm
    simp [leafOk, liveRow, h.2 hm]
theorem RowAt.len {P : Program} {t : TypeId} {H : PHeap} {e : TypeId} {k m id ver : Nat} {cs : List PV} (ht : isSlice P t = true) (h : RowAt H e k m id ver cs) : lenP P H t (rowV m id ver) = some (I m) := by
  unfold rowV
  split
  · rename_i hm; subst hm; simp [lenP, ht, I]
  · rename_i hm
    simp [lenP, liveRow, h.2 hm, ht, I]
theorem RowAt.mono {H H' : PHeap} {e : TypeId} {k m id ver : Nat} {cs : List PV} (h : RowAt H e k m id ver cs) (he : H' id = H id) : RowAt H' e k m id ver cs := ⟨h.1, fun hm => by rw [he]; exact h.2 hm⟩

theorem PE.appendAt {P : Program} {W : Env} {n : Nat} {F : PFrame} {H : PHeap} {o : Oper} {s x : Operand} {t e : TypeId} {k b d id ver m m2 : Nat} {z : Value} {cs cs2 : List PV} {K : PV → PHeap → Prop} (ho : o.op = .call { callee := .builtin .append, args := #[s, x], argTypes := #[t, t] }) (hd : o.dst = some d) (hdn : d < n) (ht : selem P t = some (e, k, b, z))
    (hs : evP F s = rowV m id ver) (hr : RowAt H e k m id ver cs) (hx : srcP H k (evP F x) = some (m2, cs2)) (hleaf : ∀ p ∈ cs2, leafOk H p = true) (h63 : m + m2 ≤ maxLen) (hbytes : (m + m2) * b ≤ 140737488355328)
    (hk : ∀ ver', K (.ps id ver') (H.set id ⟨ver', some (.row e k (m + m2) (cs ++ cs2))⟩)) : PE P W n o F H K := by
  by_cases hm : m = 0
  · subst hm
    have hc : cs = [] := List.eq_nil_of_length_eq_zero (by simpa using hr.1)
    subst hc
    refine PE.appendNil (id := id) ho hd hdn ht (by rw [hs]; rfl) hx hleaf (by omega) (by simpa using hbytes) ?_
    have := hk ((H id).ver + 1)
    rwa [Nat.zero_add, List.nil_append] at this
  · exact PE.append ho hd hdn ht (by rw [hs, rowV_pos hm]) (by simp [liveRow, hr.2 hm]) hx hleaf h63 hbytes (hk _)

/-! steps that name the new heap by what it holds -/
section
variable {P : Program} {W : Env} {n : Nat} {F : PFrame} {H : PHeap} {o : Oper} {l : List Oper} {ops : Array Oper} {K : PFrame → PHeap → Prop}
theorem absH {K : PHeap → Prop} {id : Nat} {b : PBlk} (h : ∀ H', H' id = b → (∀ j, j ≠ id → H' j = H j) → K H') : K (H.set id b) := h _ (by simp [PHeap.set]) (fun j hj => by simp [PHeap.set, hj])

theorem PL.allocA {t : TypeId} {d : Nat} {us : List Value} {cs : List PV} (id : Nat) (hg : o.guard = none) (ho : o.op = .alloc t) (hd : o.dst = some d) (hdn : d < n) (hz : zeroC P t = some us) (h1 : us.all Value.oneCell' = true) (hc : us.map PV.u = cs)
    (h : ∀ ver H', H' id = ⟨ver, some (.box t cs)⟩ → (∀ j, j ≠ id → H' j = H j) → PL P W n ops l (F.put (some d) (.pp id 0 ver)) H' K) : PL P W n ops (o :: l) F H K := by
  subst hc
  refine PL.pe hg (PE.alloc (id := id) ho hd hdn hz h1 ?_)
  rw [hd]
  exact absH (h _)

theorem PL.boxA {t : TypeId} {x : Operand} {d : Nat} {v : PV} {cs : List PV} (id : Nat) (hg : o.guard = none) (ho : o.op = .box t x) (hd : o.dst = some d) (hdn : d < n) (hv : evP F x = v) (hok : okC H v = true) (hc : v.cells = cs)
    (h : ∀ ver H', H' id = ⟨ver, some (.box t cs)⟩ → (∀ j, j ≠ id → H' j = H j) → PL P W n ops l (F.put (some d) (.pp id 0 ver)) H' K) : PL P W n ops (o :: l) F H K := by
  subst hv; subst hc
  refine PL.pe hg (PE.box (id := id) ho hd hdn hok ?_)
  rw [hd]
  exact absH (h _)

theorem PL.storeA {t T : TypeId} {x y : Operand} {id off ver k : Nat} {ag : Bool} {cs cs' ps : List PV} {v : PV} (hg : o.guard = none) (ho : o.op = .store t x y) (hd : dstOk n o) (hx : evP F x = .pp id off ver) (hH : H id = ⟨ver, some (.box T cs)⟩) (ht : asz P t = some (ag, k)) (hv : evP F y = v) (hok : okC H v = true) (hvc : v.cells = ps) (hlen : ps.length = k) (hfit : off + k ≤ cs.length) (hcs : setMany cs off ps = cs')
    (h : ∀ H', H' id = ⟨ver, some (.box T cs')⟩ → (∀ j, j ≠ id → H' j = H j) → PL P W n ops l (F.put o.dst (.u undef)) H' K) : PL P W n ops (o :: l) F H K := by
  subst hv; subst hvc; subst hcs
  exact PL.pe hg (PE.store ho hd hx (cs := cs) (by simp [liveCells, hH]) ht hok hlen hfit (bd := .box T cs) (by rw [hH]) (absH h))

theorem PL.appendA {s x : Operand} {t e : TypeId} {k b d id ver m m2 : Nat} {z : Value} {cs cs2 : List PV} {px : PV} (hg : o.guard = none) (ho : o.op = .call { callee := .builtin .append, args := #[s, x], argTypes := #[t, t] }) (hd : o.dst = some d) (hdn : d < n) (ht : selem P t = some (e, k, b, z))
    (hs : evP F s = rowV m id ver) (hr : RowAt H e k m id ver cs) (hp : evP F x = px) (hx : srcP H k px = some (m2, cs2)) (hleaf : ∀ p ∈ cs2, leafOk H p = true) (h63 : m + m2 ≤ maxLen) (hbytes : (m + m2) * b ≤ 140737488355328)
    (h : ∀ ver' H', H' id = ⟨ver', some (.row e k (m + m2) (cs ++ cs2))⟩ → (∀ j, j ≠ id → H' j = H j) → PL P W n ops l (F.put (some d) (.ps id ver')) H' K) : PL P W n ops (o :: l) F H K := by
  subst hp
  refine PL.pe hg (PE.appendAt ho hd hdn ht hs hr hx hleaf h63 hbytes fun ver' => ?_)
  rw [hd]
  exact absH (h _)

theorem PL.buildSliceA {t e : TypeId} {k b len d : Nat} {z : Value} {parts : Array (Nat × Operand)} {ips : List (Nat × PV)} {cs : List PV} (id : Nat) (hg : o.guard = none) (ho : o.op = .buildSlice t len parts) (hd : o.dst = some d) (hdn : d < n) (ht : selem P t = some (e, k, b, z)) (hz : z.cells.toList.all Value.oneCell' = true) (hbig : len * k ≤ 16777216) (hmax : len ≤ maxLen)
    (hp : (parts.toList.map fun x => (x.1, evP F x.2)) = ips) (hlit : litOk H k len ips = true) (hc : (ips.map (·.2)).flatMap PV.cells = cs)
    (h : ∀ ver H', H' id = ⟨ver, some (.row e k len cs)⟩ → (∀ j, j ≠ id → H' j = H j) → PL P W n ops l (F.put (some d) (.ps id ver)) H' K) : PL P W n ops (o :: l) F H K := by
  subst hp; subst hc
  refine PL.pe hg (PE.buildSlice (id := id) ho hd hdn ht hz hbig hmax hlit ?_)
  rw [hd]
  have h' := h
  simp only [List.map_map, Function.comp_def] at h'
  exact absH (h' _)

theorem QF.buildSliceA {Q : PFrame → Prop} {t e : TypeId} {k b len d : Nat} {z : Value} {parts : Array (Nat × Operand)} {ips : List (Nat × PV)} {ps : List PV} (hg : o.guard = none) (ho : o.op = .buildSlice t len parts) (hd : o.dst = some d) (hdn : d < n) (ht : selem P t = some (e, k, b, z)) (hz : z.cells.toList.all Value.oneCell' = true) (hbig : len * k ≤ 16777216)
    (hp : (parts.toList.map fun x => (x.1, evP F x.2)) = ips) (hlit : litOk H k len ips = true) (hc : ips.map (·.2) = ps)
    (h : wpQF P W n ops H Q l (F.put (some d) (.sl k ps))) : wpQF P W n ops H Q (o :: l) F := by
  subst hp; subst hc
  refine QF.call hg (by intro d' hd'; rw [hd] at hd'; cases hd'; exact hdn) (PQ.buildSlice ho ht hz hbig hlit) ?_
  rw [hd]
  simpa only [List.map_map, Function.comp_def] using h
/-- a literal that is only read afterwards, in a region of one order -/
theorem PL.buildSliceR {t e : TypeId} {k b len d : Nat} {z : Value} {parts : Array (Nat × Operand)} {ips : List (Nat × PV)} {ps : List PV} (hg : o.guard = none) (ho : o.op = .buildSlice t len parts) (hd : o.dst = some d) (hdn : d < n) (ht : selem P t = some (e, k, b, z)) (hz : z.cells.toList.all Value.oneCell' = true) (hbig : len * k ≤ 16777216)
    (hp : (parts.toList.map fun x => (x.1, evP F x.2)) = ips) (hlit : litOk H k len ips = true) (hc : ips.map (·.2) = ps)
    (h : PL P W n ops l (F.put (some d) (.sl k ps)) H K) : PL P W n ops (o :: l) F H K := by
  subst hp; subst hc
  refine PL.pe hg (PE.quiet (by intro d' hd'; rw [hd] at hd'; cases hd'; exact hdn) (PQ.buildSlice ho ht hz hbig hlit) ?_)
  rw [hd]
  simpa only [List.map_map, Function.comp_def] using h
end
theorem leafB (H : PHeap) (b : Bool) : leafOk H (B b) = true := rfl
theorem leafI (H : PHeap) (z : Int) : leafOk H (I z) = true := rfl
theorem leafSl (H : PHeap) (k : Nat) (xs : List PV) : leafOk H (.sl k xs) = true := rfl
theorem leafNil (H : PHeap) : leafOk H (.u (.slice none 0 0)) = true := rfl
end Go.Proofs.Ytficeeaaaijgcaa.L
