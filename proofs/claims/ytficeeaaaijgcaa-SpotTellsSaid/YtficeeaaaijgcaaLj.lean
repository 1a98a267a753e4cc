/-
  Append; lists of operations; code; a function's contract out of its code.
-/
import Derived.Test.YtficeeaaaijgcaaLi
namespace Go.Proofs.Ytficeeaaaijgcaa.L
open Go Go.RowKit
set_option linter.unusedVariables false
set_option linter.unusedSimpArgs false
section
variable {P : Program} {W : Env} {n : Nat} {H : PHeap} {F : PFrame}

/-- what is appended: how many elements, and their cells -/
def srcP (H : PHeap) (k : Nat) : PV → Option (Nat × List PV)
  | .sl k' xs => if k' = k then some (xs.length, xs.flatMap PV.cells) else none
  | .ps id ver =>
    match liveRow H id ver with
    | some (_, k', m, cs) => if k' = k then some (m, cs) else none
    | none => none
  | .u (.slice _ 0 _) => some (0, [])
  | _ => none

theorem flat_length {k : Nat} : ∀ (ys : List PV), (∀ y ∈ ys, y.cells.length = k) → (ys.flatMap PV.cells).length = ys.length * k
  | [], _ => by simp
  | y :: ys, h => by rw [List.flatMap_cons, List.length_append, flat_length ys (fun z hz => h z (by simp [hz])), h y (by simp), List.length_cons, Nat.add_mul]; omega

theorem src_spec {V : Nat → Value} {w : World} (hr : HRel P W H V w) {k m : Nat} {cs : List PV} {p : PV} {v : Value} (hx : Rp W.Z H V w p v) (h : srcP H k p = some (m, cs)) :
    ∃ ad c, v = .slice ad m c ∧ ((m = 0 ∧ cs = []) ∨ ∃ b news, ad = some b ∧ news.length = m * k ∧ RpL W.Z H V w cs news ∧ ∀ j u, news[j]? = some u → w.cell? (b.add j) = some u) := by
  unfold srcP at h
  split at h
  · rename_i k' xs
    split at h
    · rename_i hk
      subst hk
      cases h
      cases hx with
      | nil k a c => exact ⟨a, c, rfl, .inl ⟨rfl, rfl⟩⟩
      | sl k xs b o c g hu hlen hz hb h1 h2 =>
        have hfl := flat_length xs hu
        refine ⟨_, c, rfl, .inr ⟨⟨b, o, none⟩, (List.range (xs.length * k')).map g, rfl, by simp, ⟨by simp [hfl], fun i p v h3 h4 => ?_⟩, fun j u hu => ?_⟩⟩
        · have hlt := (List.getElem?_eq_some_iff.1 h3).1
          rw [hfl] at hlt
          simp [hlt] at h4
          rw [← h4]
          exact h2 i p h3
        · rw [addr_add]
          have hlt : j < xs.length * k' := by have := (List.getElem?_eq_some_iff.1 hu).1; simpa using this
          simp [hlt] at hu
          rw [← hu]
          have hj : j < (xs.flatMap PV.cells).length := by rw [hfl]; exact hlt
          exact h1 j _ (List.getElem?_eq_getElem hj)
    · cases h
  · rename_i id ver
    split at h
    · rename_i t k' m' cs' hl
      split at h
      · rename_i hk
        subst hk
        cases h
        obtain ⟨hb, hve⟩ := liveRow_spec hl
        cases hx with
        | ps _ _ _ hvv hh =>
          rw [hh (by rw [hb]; rfl) hve]
          obtain ⟨vals, ho, hR, _⟩ := hr.row id t _ _ _ hb
          rcases ho.2 with ⟨e, rfl⟩ | ⟨g, cap, cur, e, _⟩
          · refine ⟨none, 0, e, .inl ⟨rfl, ?_⟩⟩
            have h1 := ho.1
            have h2 := hR.1
            exact List.eq_nil_of_length_eq_zero (by omega)
          · refine ⟨_, cap, e, .inr ⟨_, vals, rfl, ho.1, hR, fun j u hu => ho.cells (g := g) (by rw [e]; rfl) j u hu⟩⟩
      · cases h
    · cases h
  · cases h
    cases hx
    exact ⟨_, _, rfl, .inl ⟨rfl, rfl⟩⟩
  · cases h

theorem run_append_any {w : World} {base : Nat} {t ty e : TypeId} {i : TypeInfo} {z : Value} {k : Nat} (ht : P.underlying t = some (.slice e)) (hi : P.info? e = some i) (hz : i.zero = some z) (hk : i.size = k) (hzs : z.cells.size = k) (hpos : 0 < k)
    {v : Value} {m : Nat} {xs : List Value} (hown : w.ownsRow base e k v m xs) {ad : Option Addr} {m2 c : Nat} {news : List Value} (hs : (m2 = 0 ∧ news = []) ∨ ∃ b, ad = some b ∧ news.length = m2 * k ∧ (∀ j u, news[j]? = some u → w.cell? (b.add j) = some u) ∧ ∀ u ∈ news, u.oneCell' = true)
    (h63 : m + m2 ≤ maxLen) (hbytes : (m + m2) * i.bytes ≤ 140737488355328) (hbase : base ≤ w.heap.size) :
    ∃ v' w', (Builtin.append_ #[t, t] ty #[v, .slice ad m2 c]).run P w = .ok v' w' ∧ w'.ownsRow base e k v' (m + m2) (xs ++ news) ∧ w.grownBy w' v.ownBlock ∧ ∀ g, blockOf v' = some g → w.heap.size ≤ g ∨ blockOf v = some g := by
  rcases hs with ⟨rfl, rfl⟩ | ⟨b, rfl, hl, hc, h1⟩
  · refine ⟨v, w, ?_, by simpa using hown, ⟨rfl, rfl, rfl, Nat.le_refl _, fun _ _ _ => rfl⟩, fun g hg => .inr hg⟩
    rcases hown.2 with ⟨rfl, rfl⟩ | ⟨g, cap, cur, rfl, _, _, hcap, _⟩
    · cases ad <;> simp [Builtin.append_, run_underlying ht, sizeOf, typeInfo, hi, Builtin.lenOf, Builtin.firstCells, loadCells, loadCellsFrom]
    · cases ad <;> simp [Builtin.append_, run_underlying ht, sizeOf, typeInfo, hi, Builtin.lenOf, Builtin.firstCells, loadCells, loadCellsFrom, hcap, storeCells]
  · obtain ⟨v', w', hr, h2, h3, _⟩ := run_append_own (P := P) w base t ty e i z k i.bytes ht hi hz hk rfl hzs hpos v m xs hown b m2 c news hl hc h1 h63 hbytes hbase
    refine ⟨v', w', hr, h2, h3, fun g hg => ?_⟩
    rcases hown.2 with ⟨rfl, rfl⟩ | ⟨g0, cap, cur, rfl, hbg, hg0, hcap, hcm, hcs, htake⟩
    · have hx : xs = [] := List.eq_nil_of_length_eq_zero (by simpa using hown.1)
      subst hx
      obtain ⟨v2, w2, hr2, h4, _⟩ := run_append_own (P := P) w w.heap.size t ty e i z k i.bytes ht hi hz hk rfl hzs hpos (.slice none 0 0) 0 [] (World.ownsRow_nil _ _ _ _) b m2 c news hl hc h1 h63 hbytes (Nat.le_refl _)
      rw [hr] at hr2
      cases hr2
      left
      refine (h4.lt g ?_).1
      rcases h4.2 with ⟨rfl, _⟩ | ⟨g', cap, cur, rfl, _⟩
      · cases hg
      · exact hg
    · subst hk
      by_cases hroom : m + m2 ≤ cap
      · have hr2 := run_append_room (P := P) w t ty e i ht hi g0 m cap cur hg0 b m2 c news hl hc h1 hroom (by rw [hl, hcs, ← Nat.add_mul]; exact Nat.mul_le_mul_right _ hroom)
        rw [hr] at hr2
        cases hr2
        exact .inr hg
      · have holds : ∀ j u, xs[j]? = some u → w.cell? ((⟨g0, 0, none⟩ : Addr).add j) = some u := hown.cells (g := g0) rfl
        have h63' : ((m + m2 : Nat) : Int) ≤ 9223372036854775807 := by simp only [maxLen] at h63; omega
        have hr2 := run_append_grow (P := P) w t ty e i z ht hi hz ⟨g0, 0, none⟩ m cap xs hown.1 holds b m2 c news hl hc (by omega) h63' (growslice_fits (by omega) hbytes)
        rw [hr] at hr2
        cases hr2
        cases hg
        exact .inl (Nat.le_refl _)

theorem ownBlock_blockOf {w : World} {base : Nat} {e : TypeId} {k m : Nat} {v : Value} {xs : List Value} (h : w.ownsRow base e k v m xs) : v.ownBlock = blockOf v := by
  rcases h.2 with ⟨rfl, _⟩ | ⟨g, cap, cur, rfl, _⟩ <;> rfl

/-- 'append', to a row of the call's own -/
theorem PE.append {o : Oper} {s x : Operand} {t e : TypeId} {k b d id ver m m2 : Nat} {z : Value} {cs cs2 : List PV} {K : PV → PHeap → Prop} (ho : o.op = .call { callee := .builtin .append, args := #[s, x], argTypes := #[t, t] }) (hd : o.dst = some d) (hdn : d < n) (ht : selem P t = some (e, k, b, z))
    (hs : evP F s = .ps id ver) (hl : liveRow H id ver = some (e, k, m, cs)) (hx : srcP H k (evP F x) = some (m2, cs2)) (hleaf : ∀ p ∈ cs2, leafOk H p = true) (h63 : m + m2 ≤ maxLen) (hbytes : (m + m2) * b ≤ 140737488355328)
    (hk : K (.ps id (ver + 1)) (H.set id ⟨ver + 1, some (.row e k (m + m2) (cs ++ cs2))⟩)) : PE P W n o F H K := fun V a w hr => by
  obtain ⟨i, hu, hi, hzz, hsz, rfl, hzs, hpos⟩ := selem_spec ht
  obtain ⟨hb, hve⟩ := liveRow_spec hl
  have hsv : a.eval s = V id := by
    have := Rp.eval (P := P) (F := F) (a := a) (Z := W.Z) (H := H) (V := V) (w := w) s fun t _ => hr.slot t
    rw [hs] at this
    generalize a.eval s = q at this
    cases this with
    | ps _ _ _ hvv hh => exact hh (by rw [hb]; rfl) hve
  obtain ⟨vals, hown, hR, h1⟩ := hr.heap.row id e k m cs hb
  obtain ⟨ad, c, hxv, hsrc⟩ := src_spec hr.heap (Rp.eval (P := P) (F := F) (a := a) x fun t _ => hr.slot t) hx
  have hsrc2 : ∃ news, RpL W.Z H V w cs2 news ∧ (∀ u ∈ news, u.oneCell' = true) ∧ ((m2 = 0 ∧ news = []) ∨ ∃ b, ad = some b ∧ news.length = m2 * k ∧ (∀ j u, news[j]? = some u → w.cell? (b.add j) = some u) ∧ ∀ u ∈ news, u.oneCell' = true) := by
    rcases hsrc with ⟨rfl, rfl⟩ | ⟨b, news, e1, e2, hRn, e4⟩
    · exact ⟨[], ⟨rfl, fun i p v h => by simp at h⟩, (fun u hu => by cases hu), .inl ⟨rfl, rfl⟩⟩
    · have hone : ∀ u ∈ news, u.oneCell' = true := fun u hu => by
        obtain ⟨j, hj, rfl⟩ := List.getElem_of_mem hu
        have hj2 : j < cs2.length := by rw [hRn.1]; exact hj
        exact (hRn.2 j _ _ (List.getElem?_eq_getElem hj2) (List.getElem?_eq_getElem hj)).leaf hr.heap (hleaf _ (List.getElem_mem hj2))
      exact ⟨news, hRn, hone, .inr ⟨b, e1, e2, e4, hone⟩⟩
  obtain ⟨news, hRn, hone, hs2⟩ := hsrc2
  obtain ⟨v', w', hrun, hown', hgr, hblk⟩ := run_append_any (P := P) (ty := o.type) (c := c) hu hi hzz hsz hzs hpos hown hs2 h63 hbytes hr.heap.below.size
  have hex : (execOp a.eval o).run P w = .ok (.value v') w' := by
    unfold execOp
    simp only [ho, resolve, invoke, builtin, Sem.run_bind, Sem.run_pure, Result.andThen_ok, List.map_toArray, List.map_cons, List.map_nil, hsv, hxv, hrun]
  refine wp_value hex ⟨_, _, setV V id v', hk, ?_⟩
  have hob := ownBlock_blockOf hown
  have hturn : Turn W H V w id ⟨ver + 1, some (.row e k (m + m2) (cs ++ cs2))⟩ v' w' := by
    refine ⟨hr.heap.below.grown hgr hr.heap.below.size fun kk hk => ?_, hgr.size, fun bb hlt hn => hgr.block bb hlt fun e' => hn ⟨by rw [hb]; rfl, by rw [← hob]; exact e'.symm⟩, fun g hg => ?_, .inl (by show (H id).ver < ver + 1; omega)⟩
    · exact (hown.lt kk hk).1
    · rcases hblk g hg with h | h
      · exact .inl h
      · exact .inr ⟨by rw [hb]; rfl, h⟩
  rw [hd]
  refine hr.turn hturn (fun bd hbd => ?_) (some d) (fun t ht => by cases ht; exact hdn) ?_
  · cases hbd
    refine ⟨vals ++ news, hown', ⟨by simp [hR.1, hRn.1], fun i p v h3 h4 => ?_⟩, fun u hu => ?_⟩
    · by_cases hi' : i < cs.length
      · rw [List.getElem?_append_left hi'] at h3
        rw [List.getElem?_append_left (by rw [← hR.1]; exact hi')] at h4
        exact hturn.rp (hR.2 i p v h3 h4)
      · rw [List.getElem?_append_right (by omega)] at h3
        rw [List.getElem?_append_right (by rw [← hR.1]; omega), ← hR.1] at h4
        exact hturn.rp (hRn.2 _ p v h3 h4)
    · rcases List.mem_append.1 hu with hu | hu
      · exact h1 u hu
      · exact hone u hu
  · refine .ps _ _ _ ?_ fun _ _ => ?_
    · simp [PHeap.set]
    · simp [setV]

/-- 'append', to nil -/
theorem PE.appendNil {o : Oper} {s x : Operand} {t e : TypeId} {k b d m2 id : Nat} {z : Value} {cs2 : List PV} {K : PV → PHeap → Prop} (ho : o.op = .call { callee := .builtin .append, args := #[s, x], argTypes := #[t, t] }) (hd : o.dst = some d) (hdn : d < n) (ht : selem P t = some (e, k, b, z))
    (hs : evP F s = .u (.slice none 0 0)) (hx : srcP H k (evP F x) = some (m2, cs2)) (hleaf : ∀ p ∈ cs2, leafOk H p = true) (h63 : m2 ≤ maxLen) (hbytes : m2 * b ≤ 140737488355328)
    (hk : K (.ps id ((H id).ver + 1)) (H.set id ⟨(H id).ver + 1, some (.row e k m2 cs2)⟩)) : PE P W n o F H K := fun V a w hr => by
  obtain ⟨i, hu, hi, hzz, hsz, rfl, hzs, hpos⟩ := selem_spec ht
  have hsv : a.eval s = .slice none 0 0 := by
    have := Rp.eval (P := P) (F := F) (a := a) (Z := W.Z) (H := H) (V := V) (w := w) s fun t _ => hr.slot t
    rw [hs] at this
    generalize a.eval s = q at this
    cases this; rfl
  obtain ⟨ad, c, hxv, hsrc⟩ := src_spec hr.heap (Rp.eval (P := P) (F := F) (a := a) x fun t _ => hr.slot t) hx
  have hsrc2 : ∃ news, RpL W.Z H V w cs2 news ∧ (∀ u ∈ news, u.oneCell' = true) ∧ ((m2 = 0 ∧ news = []) ∨ ∃ b, ad = some b ∧ news.length = m2 * k ∧ (∀ j u, news[j]? = some u → w.cell? (b.add j) = some u) ∧ ∀ u ∈ news, u.oneCell' = true) := by
    rcases hsrc with ⟨rfl, rfl⟩ | ⟨b, news, e1, e2, hRn, e4⟩
    · exact ⟨[], ⟨rfl, fun i p v h => by simp at h⟩, (fun u hu => by cases hu), .inl ⟨rfl, rfl⟩⟩
    · have hone : ∀ u ∈ news, u.oneCell' = true := fun u hu => by
        obtain ⟨j, hj, rfl⟩ := List.getElem_of_mem hu
        have hj2 : j < cs2.length := by rw [hRn.1]; exact hj
        exact (hRn.2 j _ _ (List.getElem?_eq_getElem hj2) (List.getElem?_eq_getElem hj)).leaf hr.heap (hleaf _ (List.getElem_mem hj2))
      exact ⟨news, hRn, hone, .inr ⟨b, e1, e2, e4, hone⟩⟩
  obtain ⟨news, hRn, hone, hs2⟩ := hsrc2
  obtain ⟨v', w', hrun, hown', hgr, hblk⟩ := run_append_any (P := P) (ty := o.type) (c := c) hu hi hzz hsz hzs hpos (World.ownsRow_nil w W.w.heap.size e k) hs2 (by omega) (by simpa using hbytes) hr.heap.below.size
  have hex : (execOp a.eval o).run P w = .ok (.value v') w' := by
    unfold execOp
    simp only [ho, resolve, invoke, builtin, Sem.run_bind, Sem.run_pure, Result.andThen_ok, List.map_toArray, List.map_cons, List.map_nil, hsv, hxv, hrun]
  refine wp_value hex ⟨_, _, setV V id v', hk, ?_⟩
  rw [hd]
  rw [Nat.zero_add, List.nil_append] at hown'
  have hb : Below w.heap.size w w' := ⟨hgr.os, hgr.tape, hgr.output, hgr.size, fun k hk => hgr.block k hk (by simp [Value.ownBlock])⟩
  exact hr.newRow hdn hb (fun g hg => (hblk g hg).resolve_right (by simp [blockOf])) hown' hRn hone

/-! ### lists of operations -/
def PL (P : Program) (W : Env) (n : Nat) (ops : Array Oper) (l : List Oper) (F : PFrame) (H : PHeap) (K : PFrame → PHeap → Prop) : Prop :=
  ∀ (V : Nat → Value) (a : Act) (w : World) (Q : Exit → Act → World → Prop), Rel P W n F H V a w → (∀ F' H' V' a' w', K F' H' → Rel P W n F' H' V' a' w' → Q .normal a' w') → wpList P ops Q l a w

theorem PL.nil {ops : Array Oper} {K : PFrame → PHeap → Prop} (h : K F H) : PL P W n ops [] F H K := fun V a w Q hr hQ => wpList_nil (hQ F H V a w h hr)
theorem wp_post {o : Oper} {a : Act} {w : World} {K K' : Act → World → Prop} {Q : Exit → Act → World → Prop} (h : o.wp P a w K (fun _ _ _ => False)) (hk : ∀ a w, K a w → K' a w) : o.wp P a w K' Q := by
  unfold Oper.wp at *
  generalize (execOp a.eval o).run P w = r at *
  cases r with
  | ok nx w' =>
    cases nx <;> simp only [Oper.upon] at h ⊢
    case value u => exact hk _ _ h
    case skip => exact hk _ _ h
    case defer d => exact hk _ _ h
    case enter f args =>
      refine h.mono fun e w'' he => ?_
      cases e with
      | returned v => exact hk _ _ he
      | panicked c => exact he.elim
      | outgrown => obtain ⟨_, _, hf⟩ := he; exact hf.elim
    case row row args => exact h.mono fun v w'' he => hk _ _ he
  | halt x w' => cases x <;> simp only [Oper.upon] at h
theorem PL.cons {ops : Array Oper} {o : Oper} {l : List Oper} {K : PFrame → PHeap → Prop} (hw : wantedP ops o F = some true) (h : PE P W n o F H fun p H' => PL P W n ops l (F.put o.dst p) H' K) : PL P W n ops (o :: l) F H K := fun V a w Q hr hQ => by
  unfold wpList
  rw [wantedP_sound hw hr.slot]
  simp only [if_true]
  exact .inl (wp_post (h V a w hr) fun a' w' ⟨p, H', V', hk, hr'⟩ => hk V' a' w' Q hr' hQ)
theorem PL.skip {ops : Array Oper} {o : Oper} {l : List Oper} {K : PFrame → PHeap → Prop} (hw : wantedP ops o F = some false) (hd : dstOk n o) (h : PL P W n ops l (F.put o.dst (.u undef)) H K) : PL P W n ops (o :: l) F H K := fun V a w Q hr hQ => by
  unfold wpList
  rw [wantedP_sound hw hr.slot]
  simp only [Bool.false_eq_true, if_false]
  exact h V _ w Q (hr.put (Below.refl _ _) o.dst hd (.u _)) hQ

/-! ### code -/
def PC (P : Program) (W : Env) (n : Nat) (c : Code) (F : PFrame) (H : PHeap) (Q : Exit → PFrame → PHeap → Prop) : Prop :=
  ∀ (V : Nat → Value) (a : Act) (w : World) (Q' : Exit → Act → World → Prop), Rel P W n F H V a w → (∀ e F' H' V' a' w', Q e F' H' → Rel P W n F' H' V' a' w' → Q' e a' w') → c.wp P Q' a w

def thenP (K : PFrame → PHeap → Prop) (Q : Exit → PFrame → PHeap → Prop) : Exit → PFrame → PHeap → Prop
  | .normal, F, H => K F H
  | e, F, H => Q e F H
def inBlockP (id : Nat) (Q : Exit → PFrame → PHeap → Prop) : Exit → PFrame → PHeap → Prop
  | .exit id', F, H => if id' = id then Q .normal F H else Q (.exit id') F H
  | e, F, H => Q e F H

section
variable {Q : Exit → PFrame → PHeap → Prop}
theorem PC.skip (h : Q .normal F H) : PC P W n .skip F H Q := fun V a w Q' hr hQ => wp_skip (hQ _ _ _ _ _ _ h hr)
theorem PC.ret (h : Q .ret F H) : PC P W n .ret F H Q := fun V a w Q' hr hQ => wp_ret (hQ _ _ _ _ _ _ h hr)
theorem PC.exit {id : Nat} (h : Q (.exit id) F H) : PC P W n (.exit id) F H Q := fun V a w Q' hr hQ => wp_exit (hQ _ _ _ _ _ _ h hr)
theorem PC.seq {x y : Code} (h : ∀ K : PFrame → PHeap → Prop, (∀ F H, PC P W n y F H Q → K F H) → PC P W n x F H (thenP K Q)) : PC P W n (.seq x y) F H Q := fun V a w Q' hr hQ => by
  refine wp_seq (h (fun F H => PC P W n y F H Q) (fun _ _ h => h) V a w _ hr fun e F' H' V' a' w' hq hr' => ?_)
  cases e with
  | normal => exact hq V' a' w' Q' hr' hQ
  | _ => exact hQ _ _ _ _ _ _ hq hr'
theorem PC.cond {c : Operand} {x y : Code} {t : Bool} (hc : evP F c = .u (.bool t)) (ht : t = true → PC P W n x F H Q) (hf : t = false → PC P W n y F H Q) : PC P W n (.cond c x y) F H Q := fun V a w Q' hr hQ => by
  have h1 := Rp.eval (P := P) (F := F) (a := a) (Z := W.Z) (H := H) (V := V) (w := w) c fun t _ => hr.slot t
  rw [hc] at h1
  have h2 : a.eval c = .bool t := by generalize a.eval c = q at h1; cases h1; rfl
  exact wp_cond_split h2 (fun e => ht e V a w Q' hr hQ) (fun e => hf e V a w Q' hr hQ)
theorem PC.block {id : Nat} {c : Code} (h : PC P W n c F H (inBlockP id Q)) : PC P W n (.block id c) F H Q := fun V a w Q' hr hQ => by
  refine wp_block (h V a w _ hr fun e F' H' V' a' w' hq hr' => ?_)
  cases e with
  | exit id' =>
    simp only [inBlockP] at hq
    simp only [Exit.inBlock]
    by_cases e : id' = id
    · rw [if_pos e] at hq ⊢; exact hQ _ _ _ _ _ _ hq hr'
    · rw [if_neg e] at hq ⊢; exact hQ _ _ _ _ _ _ hq hr'
  | _ => exact hQ _ _ _ _ _ _ hq hr'

theorem wp_loopI {c : Code} {Q : Exit → Act → World → Prop} (I : Nat → Act → World → Prop) (round : ∀ m a w, I m a w → c.wp P (Exit.then (fun a' w' => ∃ m', m' < m ∧ I m' a' w') Q) a w) {m : Nat} {a : Act} {w : World} (h : I m a w) : (Code.loop c).wp P Q a w := by
  intro b k cs
  have key : ∀ m a w, I m a w → ∃ e a' w', Q e a' w' ∧ Arrives P (lone (b.at a (.code c :: .inLoop c :: k)) cs w) b k cs e a' w' := by
    intro m
    induction m using Nat.strongRecOn with
    | _ m ih =>
      intro a w hI
      obtain ⟨e, a₁, w₁, hq, harr⟩ := round m a w hI b (.inLoop c :: k) cs
      cases e with
      | normal =>
        obtain ⟨m', hlt, hI'⟩ := hq
        obtain ⟨e₂, a₂, w₂, hq₂, harr₂⟩ := ih m' hlt a₁ w₁ hI'
        exact ⟨e₂, a₂, w₂, hq₂, .of_steps (Steps.trans harr (.one step_inLoop)) harr₂⟩
      | exit id => exact ⟨_, a₁, w₁, hq, .pass (x := .inLoop c) rfl (fun _ _ => .inl (by simp)) harr⟩
      | goto l => exact ⟨_, a₁, w₁, hq, .pass (x := .inLoop c) rfl (fun _ _ => .inl (by simp)) harr⟩
      | ret => exact ⟨_, a₁, w₁, hq, .pass (x := .inLoop c) rfl (fun _ _ => .inl (by simp)) harr⟩
      | panic ch => exact ⟨_, a₁, w₁, hq, .pass (x := .inLoop c) rfl (fun _ _ => .inl (by simp)) harr⟩
      | outgrown => exact ⟨_, a₁, w₁, hq, .pass (x := .inLoop c) rfl (fun _ _ => .inl (by simp)) harr⟩
  obtain ⟨e, a', w', hq, harr⟩ := key m a w h
  exact ⟨e, a', w', hq, .of_steps (.one step_loop) harr⟩

theorem PC.loop {c : Code} (I : Nat → PFrame → PHeap → Prop) {m : Nat} (h0 : I m F H) (round : ∀ m F H, I m F H → PC P W n c F H (thenP (fun F' H' => ∃ m', m' < m ∧ I m' F' H') Q)) : PC P W n (.loop c) F H Q := fun V a w Q' hr hQ => by
  refine wp_loopI (fun m a w => ∃ F H V, I m F H ∧ Rel P W n F H V a w) (fun m a w hI => ?_) ⟨F, H, V, h0, hr⟩
  obtain ⟨F, H, V, hI, hr⟩ := hI
  refine round m F H hI V a w _ hr fun e F' H' V' a' w' hq hr' => ?_
  cases e with
  | normal =>
    obtain ⟨m', hlt, h⟩ := hq
    exact ⟨m', hlt, F', H', V', h, hr'⟩
  | _ => exact hQ _ _ _ _ _ _ hq hr'

theorem PC.region {id : Nat} {l : List Oper} (h : PL P W n l.toArray l F H (Q .normal)) : PC P W n (.region id l.toArray false) F H Q := fun V a w Q' hr hQ => wp_region_lit (h V a w Q' hr fun F' H' V' a' w' hk hr' => hQ _ _ _ _ _ _ hk hr')
theorem PC.regionQ {id : Nat} {l : List Oper} (hm : P.follows .mixedOrders = true) (hB : Region.lexB .any l.toArray = true) (h : wpQF P W n l.toArray H (fun F' => Q .normal F' H) l F) : PC P W n (.region id l.toArray true) F H Q := fun V a w Q' hr hQ => by
  refine region_quiet hr hm hB ?_
  have mono : ∀ (l' : List Oper) (F : PFrame) (A B : PFrame → Prop), (∀ F, A F → B F) → wpQF P W n l.toArray H A l' F → wpQF P W n l.toArray H B l' F := by
    intro l'
    induction l' with
    | nil => intro F A B hab hh; exact hab F hh
    | cons o l' ih =>
      intro F A B hab hh
      obtain ⟨hd, ⟨hw, p, hp, hk⟩ | ⟨hw, hk⟩⟩ := hh
      · exact ⟨hd, .inl ⟨hw, p, hp, ih _ A B hab hk⟩⟩
      · exact ⟨hd, .inr ⟨hw, ih _ A B hab hk⟩⟩
  exact mono l F _ _ (fun F' hF a' w' hr' => hQ _ _ _ _ _ _ hF hr') h
theorem PC.regionT {id : Nat} {l : List Oper} (m : Nat) (hm : P.follows .mixedOrders = true) (hB : Region.lexTailB .any l.toArray m = true) (h : wpQF P W n l.toArray H (fun F' => PL P W n l.toArray (l.drop m) F' H (Q .normal)) (l.take m) F) : PC P W n (.region id l.toArray true) F H Q := fun V a w Q' hr hQ => by
  refine region_tailF m hr hm hB ?_
  have mono : ∀ (l' : List Oper) (F : PFrame) (A B : PFrame → Prop), (∀ F, A F → B F) → wpQF P W n l.toArray H A l' F → wpQF P W n l.toArray H B l' F := by
    intro l'
    induction l' with
    | nil => intro F A B hab hh; exact hab F hh
    | cons o l' ih =>
      intro F A B hab hh
      obtain ⟨hd, ⟨hw, p, hp, hk⟩ | ⟨hw, hk⟩⟩ := hh
      · exact ⟨hd, .inl ⟨hw, p, hp, ih _ A B hab hk⟩⟩
      · exact ⟨hd, .inr ⟨hw, ih _ A B hab hk⟩⟩
  exact mono _ F _ _ (fun F' hF a' w' hr' => hF V a' w' Q' hr' fun F'' H'' V'' a'' w'' hk hr'' => hQ _ _ _ _ _ _ hk hr'') h
theorem PC.mono {c : Code} {Q' : Exit → PFrame → PHeap → Prop} (h : PC P W n c F H Q) (hq : ∀ e F H, Q e F H → Q' e F H) : PC P W n c F H Q' := fun V a w Q'' hr hQ => h V a w Q'' hr fun e F' H' V' a' w' hk hr' => hQ e F' H' V' a' w' (hq _ _ _ hk) hr'
end

/-! ### a function -/
def resP1 (P : Program) (H : PHeap) (F : PFrame) : ResultVar → Option PV
  | .tmp t => some (F t)
  | .cell a t => loadAtP P H t (F a)
def resP (P : Program) (fn : Func) (F : PFrame) (H : PHeap) : Option PV :=
  match fn.results.toList with
  | [r] => resP1 P H F r
  | l => (l.mapM (resP1 P H F)).map .tup

theorem res1_sound {V : Nat → Value} {a : Act} {w : World} (hr : Rel P W n F H V a w) (r : ResultVar) {p : PV} (h : resP1 P H F r = some p) :
    ∃ v, ((match r with | .tmp t => pure (a.tmps.getD t undef) | .cell x t => do loadVar t (← asAddr (a.tmps.getD x undef))) : Sem Value).run P w = .ok v w ∧ Rp W.Z H V w p v := by
  cases r with
  | tmp t => cases h; exact ⟨_, rfl, hr.slot t⟩
  | cell x t =>
    obtain ⟨u, hu, hp⟩ := run_loadAtP hr.heap (hr.slot x) h
    refine ⟨u, ?_, hp⟩
    show (do loadVar t (← asAddr (a.tmps.getD x undef)) : Sem Value).run P w = .ok u w
    generalize a.tmps.getD x undef = q at hu ⊢
    cases q with
    | pointer ad =>
      cases ad with
      | none => simp [Instr.loadAt, Instr.sureAddr] at hu
      | some ad => simpa [Instr.loadAt, Instr.sureAddr, asAddr] using hu
    | _ => simp [Instr.loadAt, Instr.sureAddr] at hu

theorem resL_sound {V : Nat → Value} {a : Act} {w : World} (hr : Rel P W n F H V a w) : ∀ (l : List ResultVar) (ps : List PV), l.mapM (resP1 P H F) = some ps →
    ∃ vs, (l.mapM fun r => (match r with | .tmp t => pure (a.tmps.getD t undef) | .cell x t => do loadVar t (← asAddr (a.tmps.getD x undef)) : Sem Value)).run P w = .ok vs w ∧ RpL W.Z H V w ps vs
  | [], ps, h => by simp at h; subst h; exact ⟨[], by simp, rfl, fun i p v h => by simp at h⟩
  | r :: l, ps, h => by
    simp only [List.mapM_cons, bind_pure_comp, Option.bind_eq_bind] at h
    cases h1 : resP1 P H F r with
    | none => rw [h1] at h; cases h
    | some p =>
      cases h2 : l.mapM (resP1 P H F) with
      | none => rw [h1, h2] at h; cases h
      | some ps' =>
        rw [h1, h2] at h
        simp at h
        subst h
        obtain ⟨v, hv, hp⟩ := res1_sound hr r h1
        obtain ⟨vs, hvs, hps⟩ := resL_sound hr l ps' h2
        refine ⟨v :: vs, ?_, by simp [hps.1], fun i p' v' h3 h4 => ?_⟩
        · rw [List.mapM_cons, Sem.run_bind, hv]
          simp only [Result.andThen_ok, Sem.run_bind, hvs, Sem.run_pure]
        · cases i with
          | zero => simp at h3 h4; subst h3 h4; exact hp
          | succ i => exact hps.2 i p' v' (by simpa using h3) (by simpa using h4)

theorem resP_sound {V : Nat → Value} {a : Act} {w : World} (hr : Rel P W n F H V a w) {fn : Func} {p : PV} (h : resP P fn F H = some p) : ∃ v, (results fn a.tmps).run P w = .ok v w ∧ Rp W.Z H V w p v := by
  have arrL : ∀ vs : List Value, (fn.results.toList.mapM fun r => (match r with | .tmp t => pure (a.tmps.getD t undef) | .cell x t => do loadVar t (← asAddr (a.tmps.getD x undef)) : Sem Value)).run P w = .ok vs w →
      (results fn a.tmps).run P w = .ok (if h : vs.toArray.size = 1 then vs.toArray[0] else .tuple vs.toArray) w := fun vs hvs => by
    unfold results
    rw [Sem.run_bind, Array.mapM_eq_mapM_toList]
    simp only [Sem.run_map]
    erw [hvs]
    rfl
  unfold resP at h
  split at h
  · rename_i r hl
    obtain ⟨v, hv, hp⟩ := res1_sound hr r h
    have h1 := arrL [v] (by rw [hl, List.mapM_cons, Sem.run_bind, hv]; simp)
    exact ⟨v, by simpa using h1, hp⟩
  · rename_i hne
    obtain ⟨ps, hps, rfl⟩ := Option.map_eq_some_iff.1 h
    obtain ⟨vs, hvs, hR⟩ := resL_sound hr _ ps hps
    have h1 := arrL vs hvs
    have hlen : ¬ vs.toArray.size = 1 := fun e => by
      have e1 : ps.length = 1 := by rw [hR.1]; simpa using e
      have e2 : fn.results.toList.length = ps.length := by
        have : ∀ (l : List ResultVar) (ps : List PV), l.mapM (resP1 P H F) = some ps → l.length = ps.length := by
          intro l
          induction l with
          | nil => intro ps h; simp at h; subst h; rfl
          | cons r l ih =>
            intro ps h
            simp only [List.mapM_cons, bind_pure_comp, Option.bind_eq_bind] at h
            cases h1 : resP1 P H F r with
            | none => rw [h1] at h; cases h
            | some p =>
              cases h2 : l.mapM (resP1 P H F) with
              | none => rw [h1, h2] at h; cases h
              | some ps' => rw [h1, h2] at h; simp at h; subst h; simp [ih ps' h2]
        exact this _ _ hps
      rw [e1] at e2
      obtain ⟨r, hr⟩ := List.length_eq_one_iff.1 e2
      exact hne r hr
    rw [dif_neg hlen] at h1
    exact ⟨_, h1, .tup _ _ (by simpa using hR.1) fun i p v h3 h4 => hR.2 i p v h3 (by simpa using h4)⟩

/-- the slots at a call's start -/
def frame0 (as : List PV) : PFrame := fun t => (as[t]?).getD (.u undef)

theorem Rel.enter {Z : Nat → Prop} {w : World} {as : List PV} {vs : List Value} (hz : ∀ b, Z b → b < w.heap.size) (hR : RpL Z PHeap.empty V0 w as vs) {m : Nat} (hm : as.length ≤ m) :
    Rel P { w := w, Z := Z, hZ := hz } m (frame0 as) PHeap.empty V0 { tmps := vs.toArray ++ Array.replicate (m - vs.toArray.size) undef, defers := [] } w := by
  have hl := hR.1
  refine ⟨⟨Below.refl _ _, fun id t k n cs h => by simp [PHeap.empty] at h, fun id t cs h => by simp [PHeap.empty] at h, fun i => .unk _, fun id id' g h => by simp [PHeap.empty] at h⟩, by simp; omega, rfl, fun t => ?_⟩
  unfold frame0
  by_cases ht : t < as.length
  · have htv : t < vs.length := by omega
    have := hR.2 t _ _ (List.getElem?_eq_getElem ht) (List.getElem?_eq_getElem htv)
    rw [List.getElem?_eq_getElem ht]
    simpa [Array.getD_eq_getD_getElem?, Array.getElem?_append, htv] using this
  · have htv : ¬ t < vs.length := by omega
    rw [List.getElem?_eq_none (by omega)]
    have : (vs.toArray ++ Array.replicate (m - vs.toArray.size) undef).getD t undef = undef := by
      rw [Array.getD_eq_getD_getElem?, Array.getElem?_append, if_neg (by simpa using htv), Array.getElem?_replicate]
      split <;> rfl
    simp only [this, Option.getD_none]
    exact .u _

/-- the slots of a call's caller wait beside those that wait already -/
def Env.push (W : Env) (F : PFrame) (a : Act) : Env :=
  { W with G := fun i => if i % 2 = 0 then F (i / 2) else W.G (i / 2), gv := fun i => if i % 2 = 0 then a.tmps.getD (i / 2) undef else W.gv (i / 2) }

/-- a call that shares its caller's own heap -/
theorem PE.inline {o : Oper} {cl : Call} {as : List PV} {f : FuncId} {fn : Func} {c : Code} {k : PV → PHeap → Prop} (hd : dstOk n o) (ho : o.op = .call cl) (ht : target F cl = some (f, as)) (hg : goBody P f = true) (hf : P.funcs[f]? = some fn) (hb : fn.body = some c) (hl : as.length ≤ fn.ntmps)
    (h : ∀ W : Env, PC P W fn.ntmps c (frame0 as) H fun e F' H' => (e = .normal ∨ e = .ret) ∧ ∃ q, resP P fn F' H' = some q ∧ k q H') : PE P W n o F H k := fun V a w hr => by
  obtain ⟨vs, he, hR⟩ := run_target (P := P) (W := W) (H := H) (V := V) (a := a) (w := w) ho ht hg fun x hx' => Rp.eval (P := P) x fun t ht => hr.slot t
  refine wp_call he (calls_of_wp hf hb (h (W.push F a) V _ w _ ?_ fun e F' H' V' a' w' ⟨he, q, hq, hk⟩ hr' => ?_))
  · refine ⟨⟨hr.heap.below, hr.heap.row, hr.heap.box, fun i => ?_, hr.heap.apart⟩, by have := hR.1; simp; omega, rfl, fun t => ?_⟩
    · simp only [Env.push]
      split
      · exact hr.slot _
      · exact hr.heap.ghost _
    · unfold frame0
      have hl2 := hR.1
      by_cases ht : t < as.length
      · have htv : t < vs.length := by omega
        have := hR.2 t _ _ (List.getElem?_eq_getElem ht) (List.getElem?_eq_getElem htv)
        rw [List.getElem?_eq_getElem ht]
        simpa [Env.push, Array.getD_eq_getD_getElem?, Array.getElem?_append, htv] using this
      · have htv : ¬ t < vs.length := by omega
        rw [List.getElem?_eq_none (by omega)]
        have : (vs.toArray ++ Array.replicate (fn.ntmps - vs.toArray.size) undef).getD t undef = undef := by
          rw [Array.getD_eq_getD_getElem?, Array.getElem?_append, if_neg (by simpa using htv), Array.getElem?_replicate]
          split <;> rfl
        simp only [this, Option.getD_none]
        exact .u _
  · obtain ⟨v, hrun, hqv⟩ := resP_sound hr' hq
    have hs : ∀ t, Rp W.Z H' V' w' (F t) (a.tmps.getD t undef) := fun t => by
      have := hr'.heap.ghost (2 * t)
      simp only [Env.push, Nat.mul_mod_right, if_true] at this
      rwa [show 2 * t / 2 = t by omega] at this
    have hgh : ∀ i, Rp W.Z H' V' w' (W.G i) (W.gv i) := fun i => by
      have := hr'.heap.ghost (2 * i + 1)
      simp only [Env.push, show ¬ ((2 * i + 1) % 2 = 0) by omega, if_false] at this
      rwa [show (2 * i + 1) / 2 = i by omega] at this
    have hrel : Rel P W n F H' V' a w' := ⟨⟨hr'.heap.below, hr'.heap.row, hr'.heap.box, hgh, hr'.heap.apart⟩, hr.size, hr.defers, hs⟩
    have hput := hrel.put (Below.refl _ _) o.dst hd hqv
    rcases he with rfl | rfl
    · exact ⟨hr'.defers, v, hrun, v, rfl, q, H', V', hk, hput⟩
    · exact ⟨hr'.defers, v, hrun, v, rfl, q, H', V', hk, hput⟩

theorem PCall.intro {f : FuncId} {fn : Func} {c : Code} {as : List PV} {R : PV → Prop} (hf : P.funcs[f]? = some fn) (hb : fn.body = some c) (hl : as.length ≤ fn.ntmps)
    (h : ∀ W : Env, PC P W fn.ntmps c (frame0 as) PHeap.empty fun e F H => (e = .normal ∨ e = .ret) ∧ ∃ q p, resP P fn F H = some q ∧ View H q p ∧ NoP p ∧ R p) : PCall P f as R := fun Z w vs hz hR => by
  refine calls_of_wp hf hb (h { w := w, Z := Z, hZ := hz } V0 _ w _ (Rel.enter hz hR hl) fun e F' H' V' a' w' ⟨he, q, p, hq, hv, hn, hp⟩ hr => ?_)
  obtain ⟨v, hrun, hqv⟩ := resP_sound hr hq
  have := hv P _ V' w' hr.heap v hqv
  rcases he with rfl | rfl
  · exact ⟨hr.defers, v, hrun, v, p, rfl, hp, hn, this, hr.heap.below⟩
  · exact ⟨hr.defers, v, hrun, v, p, rfl, hp, hn, this, hr.heap.below⟩

/-- a row of the call's own that is handed out -/
def OwnR (H : PHeap) (q : PV) (t : TypeId) (k : Nat) (R : Nat → List Value → Prop) : Prop :=
  (∃ id ver m us, q = .ps id ver ∧ liveRow H id ver = some (t, k, m, us.map .u) ∧ R m us) ∨ (q = .u (.slice none 0 0) ∧ R 0 [])

theorem PCallOwn.intro {f : FuncId} {fn : Func} {c : Code} {as : List PV} {t : TypeId} {k : Nat} {R : Nat → List Value → Prop} (hf : P.funcs[f]? = some fn) (hb : fn.body = some c) (hl : as.length ≤ fn.ntmps)
    (h : ∀ W : Env, PC P W fn.ntmps c (frame0 as) PHeap.empty fun e F H => (e = .normal ∨ e = .ret) ∧ ∃ q, resP P fn F H = some q ∧ OwnR H q t k R) : PCallOwn P f as t k R := fun w vs hR => by
  refine calls_of_wp hf hb (h { w := w, Z := fun _ => False, hZ := fun _ h => h.elim } V0 _ w _ (Rel.enter (fun _ h => h.elim) hR hl) fun e F' H' V' a' w' ⟨he, q, hq, ho⟩ hr => ?_)
  obtain ⟨v, hrun, hqv⟩ := resP_sound hr hq
  have key : ∃ m us, R m us ∧ w'.ownsRow w.heap.size t k v m us ∧ ∀ u ∈ us, u.oneCell' = true := by
    rcases ho with ⟨id, ver, m, us, rfl, hl, hm⟩ | ⟨rfl, hm⟩
    · obtain ⟨hb, hve⟩ := liveRow_spec hl
      obtain ⟨vals, ho, hR2, h1⟩ := hr.heap.row id t k m _ hb
      have hvals : vals = us := by
        apply List.ext_getElem?
        intro i
        have hlen := hR2.1
        rw [List.length_map] at hlen
        by_cases hi : i < us.length
        · have := hR2.2 i (.u us[i]) vals[i] (by simp [hi]) (List.getElem?_eq_getElem (by omega))
          have e : vals[i] = us[i] := by generalize vals[i] = q at this; cases this; rfl
          rw [List.getElem?_eq_getElem (show i < vals.length by omega), List.getElem?_eq_getElem hi, e]
        · rw [List.getElem?_eq_none (by omega), List.getElem?_eq_none (by omega)]
      subst hvals
      cases hqv with
      | ps _ _ _ hvv hh => rw [hh (by rw [hb]; rfl) hve]; exact ⟨m, vals, hm, ho, h1⟩
    · cases hqv
      exact ⟨0, [], hm, World.ownsRow_nil _ _ _ _, fun u hu => by cases hu⟩
  obtain ⟨m, us, hm, ho2, h1⟩ := key
  rcases he with rfl | rfl
  · exact ⟨hr.defers, v, hrun, v, m, us, rfl, hm, ho2, h1, hr.heap.below⟩
  · exact ⟨hr.defers, v, hrun, v, m, us, rfl, hm, ho2, h1, hr.heap.below⟩
end
end Go.Proofs.Ytficeeaaaijgcaa.L
