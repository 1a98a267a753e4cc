/-
  Contracts of functions told by pure values; operations that make or write memory of the call's own.
-/
import Derived.Test.YtficeeaaaijgcaaLf
import Derived.Laws.MakeOwn
namespace Go.Proofs.Ytficeeaaaijgcaa.L
open Go Go.RowKit
set_option linter.unusedVariables false
set_option linter.unusedSimpArgs false

def V0 : Nat → Value := fun _ => undef

/-- told without the call's own heap -/
inductive NoP : PV → Prop
  | u (v : Value) : NoP (.u v)
  | agg (cs : List PV) (h : ∀ c ∈ cs, NoP c) : NoP (.agg cs)
  | tup (cs : List PV) (h : ∀ c ∈ cs, NoP c) : NoP (.tup cs)
  | sl (k : Nat) (xs : List PV) (h : ∀ c ∈ xs, NoP c) : NoP (.sl k xs)
  | rp (cs : List PV) (h : ∀ c ∈ cs, NoP c) : NoP (.rp cs)
  | fn (f : Fn) (a b : List PV) (ha : ∀ c ∈ a, NoP c) (hb : ∀ c ∈ b, NoP c) : NoP (.fn f a b)

theorem NoP.cell {p c : PV} (h : NoP p) (hc : c ∈ p.cells) : NoP c := by
  cases h with
  | agg cs h => exact h c hc
  | u v => simp [PV.cells] at hc; subst hc; exact .u v
  | tup cs h => simp [PV.cells] at hc; subst hc; exact .tup cs h
  | sl k xs h => simp [PV.cells] at hc; subst hc; exact .sl k xs h
  | rp cs h => simp [PV.cells] at hc; subst hc; exact .rp cs h
  | fn f a b ha hb => simp [PV.cells] at hc; subst hc; exact .fn f a b ha hb

theorem Rp.noP {Z Z' : Nat → Prop} {H H' : PHeap} {V V' : Nat → Value} {w : World} {p : PV} {v : Value} (h : Rp Z H V w p v) (hp : NoP p) (hz : ∀ b, b < w.heap.size → ¬ PZ Z H V b → ¬ PZ Z' H' V' b) : Rp Z' H' V' w p v := by
  induction h with
  | u v => exact .u v
  | unk v => cases hp
  | agg cs vs hl h ih =>
    cases hp with
    | agg _ hc => exact .agg cs vs hl fun i p v h1 h2 => ih i p v h1 h2 (hc p (List.mem_of_getElem? h1))
  | tup cs vs hl h ih =>
    cases hp with
    | tup _ hc => exact .tup cs vs hl fun i p v h1 h2 => ih i p v h1 h2 (hc p (List.mem_of_getElem? h1))
  | nil k a c => exact .nil k a c
  | sl k xs b o c g hu hlen hzz hb h1 h2 ih =>
    cases hp with
    | sl _ _ hc => exact .sl k xs b o c g hu hlen (hz b hb hzz) hb h1 fun i p hi => ih i p hi (by
        obtain ⟨y, hy, hpy⟩ := List.mem_flatMap.1 (List.mem_of_getElem? hi)
        exact (hc y hy).cell hpy)
  | rp cs b o g hzz hb h1 h2 ih =>
    cases hp with
    | rp _ hc => exact .rp cs b o g (hz b hb hzz) hb h1 fun i p hi => ih i p hi (hc p (List.mem_of_getElem? hi))
  | ps id ver v hv h => cases hp
  | pp id off ver v hv h => cases hp
  | fn f a b va vb hla hlb ha hb iha ihb =>
    cases hp with
    | fn _ _ _ ca cb => exact .fn f a b va vb hla hlb (fun i p v h1 h2 => iha i p v h1 h2 (ca p (List.mem_of_getElem? h1))) (fun i p v h1 h2 => ihb i p v h1 h2 (cb p (List.mem_of_getElem? h1)))

/-- told by numbers, texts and the like alone -/
inductive Sc : PV → Prop
  | u (v : Value) : Sc (.u v)
  | agg (cs : List PV) (h : ∀ c ∈ cs, Sc c) : Sc (.agg cs)
  | tup (cs : List PV) (h : ∀ c ∈ cs, Sc c) : Sc (.tup cs)

theorem Sc.noP {p : PV} (h : Sc p) : NoP p := by
  induction h with
  | u v => exact .u v
  | agg cs h ih => exact .agg cs ih
  | tup cs h ih => exact .tup cs ih

theorem Rp.sc {Z Z' : Nat → Prop} {H H' : PHeap} {V V' : Nat → Value} {w w' : World} {p : PV} {v : Value} (h : Rp Z H V w p v) (hp : Sc p) : Rp Z' H' V' w' p v := by
  induction h with
  | u v => exact .u v
  | agg cs vs hl h ih =>
    cases hp with
    | agg _ hc => exact .agg cs vs hl fun i p v h1 h2 => ih i p v h1 h2 (hc p (List.mem_of_getElem? h1))
  | tup cs vs hl h ih =>
    cases hp with
    | tup _ hc => exact .tup cs vs hl fun i p v h1 h2 => ih i p v h1 h2 (hc p (List.mem_of_getElem? h1))
  | nil k a c => cases hp
  | _ => cases hp

/-- what the slot tells, told to a callee -/
def View (H : PHeap) (p q : PV) : Prop := ∀ (P : Program) (W : Env) (V : Nat → Value) (w : World), HRel P W H V w → ∀ v, Rp W.Z H V w p v → Rp W.Z PHeap.empty V0 w q v

theorem pz_empty {Z : Nat → Prop} {b : Nat} : PZ Z PHeap.empty V0 b ↔ Z b := by
  constructor
  · rintro (h | ⟨id, h, _⟩)
    · exact h
    · simp [PHeap.empty] at h
  · exact .inl

theorem View.noP {H : PHeap} {p : PV} (h : NoP p) : View H p p := fun P W V w hr v hv => hv.noP h fun b _ hz hz' => hz (.inl (pz_empty.1 hz'))
theorem View.nil {H : PHeap} (k : Nat) (a : Option Addr) (c : Nat) : View H (.u (.slice a 0 c)) (.sl k []) := fun P W V w hr v hv => by cases hv; exact .nil _ _ _
theorem View.fn0 {H : PHeap} (f : Fn) : View H (.fn f [] []) (.fn f [] []) := View.noP (.fn _ _ _ (fun c h => by cases h) (fun c h => by cases h))

theorem View.agg {H : PHeap} {cs ds : List PV} (hl : cs.length = ds.length) (h : ∀ (i : Nat) (p q : PV), cs[i]? = some p → ds[i]? = some q → View H p q) : View H (.agg cs) (.agg ds) := fun P W V w hr v hv => by
  cases hv with
  | agg _ vs hl2 hc =>
    refine .agg _ _ (by omega) fun i q v h1 h2 => ?_
    have hlt := (List.getElem?_eq_some_iff.1 h1).1
    have h3 := List.getElem?_eq_getElem (l := cs) (i := i) (by omega)
    exact h i _ _ h3 h1 P W V w hr v (hc i _ v h3 h2)

theorem View.tup {H : PHeap} {cs ds : List PV} (hl : cs.length = ds.length) (h : ∀ (i : Nat) (p q : PV), cs[i]? = some p → ds[i]? = some q → View H p q) : View H (.tup cs) (.tup ds) := fun P W V w hr v hv => by
  cases hv with
  | tup _ vs hl2 hc =>
    refine .tup _ _ (by omega) fun i q v h1 h2 => ?_
    have hlt := (List.getElem?_eq_some_iff.1 h1).1
    have h3 := List.getElem?_eq_getElem (l := cs) (i := i) (by omega)
    exact h i _ _ h3 h1 P W V w hr v (hc i _ v h3 h2)

theorem Env.not_own {P : Program} {W : Env} {H : PHeap} {V : Nat → Value} {w : World} (hr : HRel P W H V w) {id b : Nat} (hs : (H id).body.isSome = true) (hb : blockOf (V id) = some b) : ¬ W.Z b := fun hz => by
  have := W.hZ b hz
  have := (hr.own_lt hs hb).1
  omega

/-- an own row, read by a callee -/
theorem View.row {H : PHeap} {id ver : Nat} {t : TypeId} {k n : Nat} {cs : List PV} (hl : liveRow H id ver = some (t, k, n, cs)) (xs : List PV) (hn : xs.length = n) (hu : ∀ y ∈ xs, y.cells.length = k)
    (h : ∀ (i : Nat) (p q : PV), cs[i]? = some p → (xs.flatMap PV.cells)[i]? = some q → View H p q) : View H (.ps id ver) (.sl k xs) := fun P W V w hr v hv => by
  obtain ⟨hb, hve⟩ := liveRow_spec hl
  cases hv with
  | ps _ _ _ hvv hh =>
    have e := hh (by rw [hb]; rfl) hve
    subst e
    obtain ⟨vals, ho, hR, _⟩ := hr.row id t k n cs hb
    have hlen := ho.1
    have hflat : (xs.flatMap PV.cells).length = n * k := by
      have : ∀ (ys : List PV), (∀ y ∈ ys, y.cells.length = k) → (ys.flatMap PV.cells).length = ys.length * k := by
        intro ys
        induction ys with
        | nil => intro _; simp
        | cons y ys ih => intro hy; rw [List.flatMap_cons, List.length_append, ih (fun z hz => hy z (by simp [hz])), hy y (by simp), List.length_cons, Nat.add_mul]; omega
      rw [this xs hu, hn]
    rcases ho.2 with ⟨e, hn0⟩ | ⟨g, cap, cur, e, hg, hh2, hcap, _, _, htake⟩
    · have hx : xs = [] := List.eq_nil_of_length_eq_zero (by omega)
      rw [e, hx]
      exact .nil _ _ _
    · have hblk : blockOf (V id) = some g := by rw [e]; rfl
      have hz : ¬ PZ W.Z PHeap.empty V0 g := fun hz => Env.not_own hr (by rw [hb]; rfl) hblk (pz_empty.1 hz)
      have hcell : ∀ (i : Nat) (q : PV), (xs.flatMap PV.cells)[i]? = some q → ∃ u, vals[i]? = some u ∧ w.cell? ⟨g, 0 + i, none⟩ = some u ∧ Rp W.Z PHeap.empty V0 w q u := fun i q hq => by
        have hlt := (List.getElem?_eq_some_iff.1 hq).1
        have hi1 : i < vals.length := by omega
        have hi2 : i < cs.length := by rw [hR.1]; exact hi1
        refine ⟨vals[i], List.getElem?_eq_getElem hi1, ?_, h i _ q (List.getElem?_eq_getElem hi2) hq P W V w hr _ (hR.2 i _ _ (List.getElem?_eq_getElem hi2) (List.getElem?_eq_getElem hi1))⟩
        have := ho.cells (g := g) (by rw [e]; rfl) i _ (List.getElem?_eq_getElem hi1)
        rwa [addr_add] at this
      have := Rp.sl (Z := W.Z) (H := PHeap.empty) (V := V0) (w := w) k xs g 0 cap (fun i => (vals[i]?).getD undef) hu (by omega) hz (Array.getElem?_eq_some_iff.1 hh2).1 (fun i q hq => by
        obtain ⟨u, h1, h2, _⟩ := hcell i q hq
        rw [h1]; exact h2) (fun i q hq => by
        obtain ⟨u, h1, _, h3⟩ := hcell i q hq
        simp only [h1, Option.getD_some]; exact h3)
      rw [hn] at this
      rw [e]
      exact this
/-- an own row of numbers -/
theorem View.row1 {H : PHeap} {id ver : Nat} {t : TypeId} {n : Nat} {cs : List PV} (hl : liveRow H id ver = some (t, 1, n, cs)) (hn : cs.length = n) (h : ∀ c ∈ cs, NoP c ∧ c.cells = [c]) : View H (.ps id ver) (.sl 1 cs) := by
  have e : cs.flatMap PV.cells = cs := by
    clear hl hn
    induction cs with
    | nil => rfl
    | cons c cs ih => rw [List.flatMap_cons, ih (fun d hd => h d (by simp [hd])), (h c (by simp)).2]; rfl
  refine View.row hl cs hn (fun y hy => by rw [(h y hy).2]; rfl) fun i p q h1 h2 => ?_
  rw [e, h1] at h2
  cases h2
  exact View.noP (h p (List.mem_of_getElem? h1)).1

/-- an own box, read by a callee through a pointer -/
theorem View.pp {H : PHeap} {id off ver : Nat} {cs ds : List PV} (hl : liveCells H id ver = some cs) (hd : cs.length = off + ds.length) (h : ∀ (i : Nat) (p q : PV), cs[off + i]? = some p → ds[i]? = some q → View H p q) : View H (.pp id off ver) (.rp ds) := fun P W V w hr v hv => by
  obtain ⟨a1, a2⟩ := liveCells_live hl
  cases hv with
  | pp _ _ _ _ hvv hh =>
    obtain ⟨g, hg, rfl⟩ := hh a1 a2
    obtain ⟨_, _, hc⟩ := own_cell hr hl hg
    have hcell : ∀ (i : Nat) (q : PV), ds[i]? = some q → ∃ u, w.cell? ⟨g, off + i, none⟩ = some u ∧ Rp W.Z PHeap.empty V0 w q u := fun i q hq => by
      have hlt := (List.getElem?_eq_some_iff.1 hq).1
      have h3 := List.getElem?_eq_getElem (l := cs) (i := off + i) (by omega)
      obtain ⟨u, hu, hp⟩ := hc _ _ h3
      exact ⟨u, hu, h i _ q h3 hq P W V w hr u hp⟩
    refine .rp ds g off (fun i => (w.cell? ⟨g, off + i, none⟩).getD undef) (fun hz => Env.not_own hr a1 hg (pz_empty.1 hz)) (hr.own_lt a1 hg).2 (fun i q hq => ?_) (fun i q hq => ?_)
    · obtain ⟨u, hu, _⟩ := hcell i q hq
      simp [hu]
    · obtain ⟨u, hu, hp⟩ := hcell i q hq
      simp only [hu, Option.getD_some]
      exact hp

def ViewL (H : PHeap) (ps qs : List PV) : Prop := ps.length = qs.length ∧ ∀ (i : Nat) (p q : PV), ps[i]? = some p → qs[i]? = some q → View H p q
theorem ViewL.nil (H : PHeap) : ViewL H [] [] := ⟨rfl, fun i p q h => by simp at h⟩
theorem ViewL.cons {H : PHeap} {p q : PV} {ps qs : List PV} (h : View H p q) (hs : ViewL H ps qs) : ViewL H (p :: ps) (q :: qs) := ⟨by simp [hs.1], fun i a b h1 h2 => by
  cases i with
  | zero => simp at h1 h2; subst h1 h2; exact h
  | succ i => exact hs.2 i a b (by simpa using h1) (by simpa using h2)⟩

/-- a function's contract: what it hands out reads as R says; it only makes new memory -/
def PCall (P : Program) (f : FuncId) (as : List PV) (R : PV → Prop) : Prop :=
  ∀ (Z : Nat → Prop) (w : World) (vs : List Value), (∀ b, Z b → b < w.heap.size) → RpL Z PHeap.empty V0 w as vs →
    Calls P f vs.toArray w (fun e w' => ∃ v p, e = .returned v ∧ R p ∧ NoP p ∧ Rp Z PHeap.empty V0 w' p v ∧ Below w.heap.size w w')
/-- the same, where a new row of its caller's own comes back -/
def PCallOwn (P : Program) (f : FuncId) (as : List PV) (t : TypeId) (k : Nat) (R : Nat → List Value → Prop) : Prop :=
  ∀ (w : World) (vs : List Value), RpL (fun _ => False) PHeap.empty V0 w as vs →
    Calls P f vs.toArray w (fun e w' => ∃ v n us, e = .returned v ∧ R n us ∧ w'.ownsRow w.heap.size t k v n us ∧ (∀ u ∈ us, u.oneCell' = true) ∧ Below w.heap.size w w')

theorem PCall.weak {P : Program} {f : FuncId} {as : List PV} {R R' : PV → Prop} (h : PCall P f as R) (hr : ∀ p, R p → R' p) : PCall P f as R' := fun Z w vs hz ha =>
  (h Z w vs hz ha).mono fun e w' ⟨v, p, h1, h2, h3⟩ => ⟨v, p, h1, hr p h2, h3⟩

theorem flat_u (us : List Value) : (us.map PV.u).flatMap PV.cells = us.map .u := by
  induction us with
  | nil => rfl
  | cons u us ih => simp [List.flatMap_cons, PV.cells, ih]

/-- read only -/
theorem PCallOwn.ro {P : Program} {f : FuncId} {as : List PV} {t : TypeId} {R : Nat → List Value → Prop} (h : PCallOwn P f as t 1 R) : PCall P f as (fun p => ∃ us, R us.length us ∧ p = .sl 1 (us.map .u)) := fun Z w vs hz ha =>
  (h w vs ⟨ha.1, fun i p v h1 h2 => (ha.2 i p v h1 h2).mono (fun b hb hlt => ⟨fun hq => (pz_empty.1 hq).elim, hlt, fun _ => rfl⟩) (fun _ => Nat.le_refl _) (fun id ver _ h1 h2 => ⟨h1, h2, rfl⟩)⟩).mono fun e w' ⟨v, n, us, h1, h2, ho, h4, hb⟩ => by
    have hn : n = us.length := by have := ho.1; omega
    subst hn
    refine ⟨v, _, h1, ⟨us, h2, rfl⟩, .sl _ _ fun c hc => ?_, ?_, hb⟩
    · obtain ⟨u, _, rfl⟩ := List.mem_map.1 hc; exact .u u
    · rcases ho.2 with ⟨e, h0⟩ | ⟨g, cap, cur, e, hg, hh, hcap, _, _, htake⟩
      · have : us = [] := List.eq_nil_of_length_eq_zero h0
        subst this
        rw [e]
        exact .nil _ _ _
      · rw [e]
        have := Rp.sl (Z := Z) (H := PHeap.empty) (V := V0) (w := w') 1 (us.map .u) g 0 cap (fun i => (us[i]?).getD undef) (fun y hy => by obtain ⟨u, _, rfl⟩ := List.mem_map.1 hy; rfl) (by simpa using hcap) (fun hq => by have := hz g (pz_empty.1 hq); omega) (Array.getElem?_eq_some_iff.1 hh).1 (fun i p hi => by
          rw [flat_u, List.getElem?_map] at hi
          cases hu : us[i]? with
          | none => rw [hu] at hi; cases hi
          | some u =>
            have := ho.cells (g := g) (by rw [e]; rfl) i u hu
            rw [addr_add] at this
            simpa using this) (fun i p hi => by
          rw [flat_u, List.getElem?_map] at hi
          cases hu : us[i]? with
          | none => rw [hu] at hi; cases hi
          | some u => rw [hu] at hi; cases hi; exact .u _)
        rwa [List.length_map] at this

section
variable {P : Program} {W : Env} {n : Nat} {H : PHeap} {F : PFrame}

/-- one operation, whatever it does -/
def PE (P : Program) (W : Env) (n : Nat) (o : Oper) (F : PFrame) (H : PHeap) (k : PV → PHeap → Prop) : Prop :=
  ∀ (V : Nat → Value) (a : Act) (w : World), Rel P W n F H V a w → o.wp P a w (fun a' w' => ∃ p H' V', k p H' ∧ Rel P W n (F.put o.dst p) H' V' a' w') (fun _ _ _ => False)

theorem PE.quiet {o : Oper} {p : PV} {k : PV → PHeap → Prop} (hd : dstOk n o) (h : PQ P W o F H p) (hk : k p H) : PE P W n o F H k := fun V a w hr => by
  have := h V a w hr.heap fun t _ => hr.slot t
  exact Oper.wp_mono (fun a' w' ⟨v, e, hv, hb⟩ => ⟨p, H, V, hk, by rw [e]; exact hr.put hb o.dst hd hv⟩) this

/-- the operation calls -/
theorem wp_call {o : Oper} {a : Act} {w : World} {f : FuncId} {args : Array Value} {K : Act → World → Prop} {Q : Exit → Act → World → Prop} (he : (execOp a.eval o).run P w = .ok (.enter f args) w) (hc : Calls P f args w (fun e w' => ∃ v, e = .returned v ∧ K (a.put o.dst v) w')) : o.wp P a w K Q := by
  unfold Oper.wp
  rw [he]
  exact hc.mono fun e w' ⟨v, h1, h2⟩ => by subst h1; exact h2

/-- what is called, and with what: a function named, or a value that holds one -/
def target (F : PFrame) (c : Call) : Option (FuncId × List PV) :=
  match c.callee with
  | .value x =>
    match evP F x with
    | .fn (.func f) a b => some (f, a ++ c.args.toList.map (evP F) ++ b)
    | _ => none
  | _ => none

def goBody (P : Program) (f : FuncId) : Bool := match P.funcs[f]? with
  | some fn => fn.body.isSome && !(fn.name == "runtime.NumGoroutine")
  | none => false

theorem run_target {V : Nat → Value} {a : Act} {w : World} {o : Oper} {c : Call} (ho : o.op = .call c) {f : FuncId} {as : List PV} (ht : target F c = some (f, as)) (hf : goBody P f = true) (hx : ∀ x ∈ o.op.operands, Rp W.Z H V w (evP F x) (a.eval x)) :
    ∃ vs : List Value, (execOp a.eval o).run P w = .ok (.enter f vs.toArray) w ∧ RpL W.Z H V w as vs := by
  obtain ⟨callee, args, argTypes⟩ := c
  rw [ho] at hx
  unfold target at ht
  cases callee with
  | builtin b => cases ht
  | invoke r m => cases ht
  | value x =>
    simp only at ht
    split at ht
    · rename_i g ca cb he
      cases ht
      have h1 := hx x (by simp [Op.operands, Call.operands])
      have h2 := RpL.eval (F := F) (a := a) args.toList fun y hy => hx y (by simp [Op.operands, Call.operands]; right; simpa using hy)
      rw [he] at h1
      generalize hv : a.eval x = v at h1
      cases h1 with
      | fn _ _ _ va vb hla hlb ha hb =>
        refine ⟨va.toList ++ args.toList.map a.eval ++ vb.toList, ?_, ?_⟩
        · unfold goBody at hf
          split at hf
          · rename_i fn hfn
            simp only [Bool.and_eq_true, Bool.not_eq_true'] at hf
            have hb : fn.body.isNone = false := by cases hh : fn.body <;> simp_all
            simp only [execOp, ho, resolve, hv, Deferred.ofValue, Sem.run_bind, Sem.run_pure, Result.andThen_ok, invoke, callFunc, run_program, hfn, hf.2, hb]
            simp
          · cases hf
        · have l1 : RpL W.Z H V w ca va.toList := ⟨by simpa using hla, fun i p v h3 h4 => ha i p v h3 (by simpa using h4)⟩
          have l2 : RpL W.Z H V w cb vb.toList := ⟨by simpa using hlb, fun i p v h3 h4 => hb i p v h3 (by simpa using h4)⟩
          have app : ∀ {a b : List PV} {x y : List Value}, RpL W.Z H V w a x → RpL W.Z H V w b y → RpL W.Z H V w (a ++ b) (x ++ y) := fun {a b x y} h1 h2 => ⟨by simp [h1.1, h2.1], fun i p v h3 h4 => by
            by_cases hi : i < a.length
            · rw [List.getElem?_append_left hi] at h3
              rw [List.getElem?_append_left (by rw [← h1.1]; exact hi)] at h4
              exact h1.2 i p v h3 h4
            · rw [List.getElem?_append_right (by omega)] at h3
              rw [List.getElem?_append_right (by rw [← h1.1]; omega), ← h1.1] at h4
              exact h2.2 _ p v h3 h4⟩
          exact app (app l1 h2) l2
    · cases ht

theorem RpL.view {V : Nat → Value} {w : World} (hr : HRel P W H V w) {ps qs : List PV} {vs : List Value} (h : RpL W.Z H V w ps vs) (hv : ViewL H ps qs) : RpL W.Z PHeap.empty V0 w qs vs := ⟨by rw [← hv.1]; exact h.1, fun i q v h1 h2 => by
  have hlt := (List.getElem?_eq_some_iff.1 h1).1
  have h3 := List.getElem?_eq_getElem (l := ps) (i := i) (by have := hv.1; omega)
  exact hv.2 i _ q h3 h1 P W V w hr v (h.2 i _ v h3 h2)⟩

theorem Env.z_lt {V : Nat → Value} {w : World} (hr : HRel P W H V w) : ∀ b, W.Z b → b < w.heap.size := fun b hb => Nat.lt_of_lt_of_le (W.hZ b hb) hr.below.size

/-- a call whose result is numbers and the like -/
theorem PQ.callA {o : Oper} {c : Call} {p0 : PV} {as qs : List PV} {f : FuncId} (ho : o.op = .call c) (ht : target F c = some (f, as)) (hf : goBody P f = true) (hv : ViewL H as qs) (hc : PCall P f qs (· = p0)) (hs : Sc p0) : PQ P W o F H p0 := fun V a w hr hx => by
  obtain ⟨vs, he, hR⟩ := run_target (P := P) (W := W) (H := H) (V := V) (a := a) (w := w) ho ht hf fun x hx' => Rp.eval (P := P) x fun t ht => hx t (by rw [← ht]; exact hx')
  exact wp_call he ((hc W.Z w vs (Env.z_lt hr) (hR.view hr hv)).mono fun e w' ⟨v, p, h1, h2, _, h3, hb⟩ => ⟨v, h1, v, rfl, by subst h2; exact h3.sc hs, hb⟩)

/-- a call that is handed nothing of the call's own -/
theorem PQ.callB {o : Oper} {c : Call} {p0 : PV} {as qs : List PV} {f : FuncId} (ho : o.op = .call c) (ht : target F c = some (f, as)) (hf : goBody P f = true) (hv : ViewL PHeap.empty as qs) (hn : ∀ p ∈ as, NoP p) (hc : PCall P f qs (· = p0)) : PQ P W o F H p0 := fun V a w hr hx => by
  obtain ⟨vs, he, hR⟩ := run_target (P := P) (W := W) (H := H) (V := V) (a := a) (w := w) ho ht hf fun x hx' => Rp.eval (P := P) x fun t ht => hx t (by rw [← ht]; exact hx')
  have hlt : ∀ b, PZ W.Z H V b → b < w.heap.size := fun b hb => by
    rcases hb with hb | ⟨id, h1, h2⟩
    · exact Env.z_lt hr b hb
    · exact (hr.own_lt h1 h2).2
  have hR2 : RpL (PZ W.Z H V) PHeap.empty V0 w as vs := ⟨hR.1, fun i p v h1 h2 => (hR.2 i p v h1 h2).noP (hn p (List.mem_of_getElem? h1)) fun b _ hz hz' => hz (pz_empty.1 hz')⟩
  have hR3 : RpL (PZ W.Z H V) PHeap.empty V0 w qs vs := RpL.view (P := P) (W := { w := w, Z := PZ W.Z H V, hZ := hlt }) (V := V0) ⟨Below.refl _ _, fun id t k n cs h => by simp [PHeap.empty] at h, fun id t cs h => by simp [PHeap.empty] at h, fun i => .unk _, fun id id' g h => by simp [PHeap.empty] at h⟩ hR2 hv
  exact wp_call he ((hc _ w vs hlt hR3).mono fun e w' ⟨v, p, h1, h2, hnp, h3, hb⟩ => ⟨v, h1, v, rfl, by subst h2; exact h3.noP hnp fun b _ hz hz' => hz (pz_empty.2 hz'), hb⟩)

/-- the same two where the result is one of several -/
theorem PE.callA {o : Oper} {c : Call} {as qs : List PV} {f : FuncId} {R : PV → Prop} {k : PV → PHeap → Prop} (hd : dstOk n o) (ho : o.op = .call c) (ht : target F c = some (f, as)) (hf : goBody P f = true) (hv : ViewL H as qs) (hc : PCall P f qs R) (hs : ∀ p, R p → Sc p) (hk : ∀ p, R p → k p H) : PE P W n o F H k := fun V a w hr => by
  obtain ⟨vs, he, hR⟩ := run_target (P := P) (W := W) (H := H) (V := V) (a := a) (w := w) ho ht hf fun x hx' => Rp.eval (P := P) x fun t ht => hr.slot t
  exact wp_call he ((hc W.Z w vs (Env.z_lt hr.heap) (hR.view hr.heap hv)).mono fun e w' ⟨v, p, h1, h2, _, h3, hb⟩ => ⟨v, h1, p, H, V, hk p h2, hr.put hb o.dst hd (h3.sc (hs p h2))⟩)

theorem PE.callB {o : Oper} {c : Call} {as qs : List PV} {f : FuncId} {R : PV → Prop} {k : PV → PHeap → Prop} (hd : dstOk n o) (ho : o.op = .call c) (ht : target F c = some (f, as)) (hf : goBody P f = true) (hv : ViewL PHeap.empty as qs) (hn : ∀ p ∈ as, NoP p) (hc : PCall P f qs R) (hk : ∀ p, R p → k p H) : PE P W n o F H k := fun V a w hr => by
  obtain ⟨vs, he, hR⟩ := run_target (P := P) (W := W) (H := H) (V := V) (a := a) (w := w) ho ht hf fun x hx' => Rp.eval (P := P) x fun t ht => hr.slot t
  have hlt : ∀ b, PZ W.Z H V b → b < w.heap.size := fun b hb => by
    rcases hb with hb | ⟨id, h1, h2⟩
    · exact Env.z_lt hr.heap b hb
    · exact (hr.heap.own_lt h1 h2).2
  have hR2 : RpL (PZ W.Z H V) PHeap.empty V0 w as vs := ⟨hR.1, fun i p v h1 h2 => (hR.2 i p v h1 h2).noP (hn p (List.mem_of_getElem? h1)) fun b _ hz hz' => hz (pz_empty.1 hz')⟩
  have hR3 : RpL (PZ W.Z H V) PHeap.empty V0 w qs vs := RpL.view (P := P) (W := { w := w, Z := PZ W.Z H V, hZ := hlt }) (V := V0) ⟨Below.refl _ _, fun id t k n cs h => by simp [PHeap.empty] at h, fun id t cs h => by simp [PHeap.empty] at h, fun i => .unk _, fun id id' g h => by simp [PHeap.empty] at h⟩ hR2 hv
  exact wp_call he ((hc _ w vs hlt hR3).mono fun e w' ⟨v, p, h1, h2, hnp, h3, hb⟩ => ⟨v, h1, p, H, V, hk p h2, hr.put hb o.dst hd (h3.noP hnp fun b _ hz hz' => hz (pz_empty.2 hz'))⟩)

/-- a slot and a block of the call's own at once -/
theorem Rel.turn {V : Nat → Value} {a : Act} {w w' : World} (hr : Rel P W n F H V a w) {id : Nat} {b' : PBlk} {v0 : Value} (ht : Turn W H V w id b' v0 w') (hb : ∀ bd, b'.body = some bd → BodyRel W (H.set id b') (setV V id v0) w' v0 bd) (d : Option Nat) (hd : ∀ t, d = some t → t < n) {p : PV} {v : Value} (hp : Rp W.Z (H.set id b') (setV V id v0) w' p v) :
    Rel P W n (F.put d p) (H.set id b') (setV V id v0) (a.put d v) w' := by
  refine ⟨ht.heap hr.heap hb, ?_, ?_, fun t => ?_⟩
  · cases d <;> simp [Act.put, hr.size]
  · cases d <;> simp [Act.put, hr.defers]
  · cases d with
    | none => simpa [Act.put, PFrame.put] using ht.rp (hr.slot t)
    | some d =>
      by_cases e : d = t
      · subst e
        have := hd d rfl
        simpa [Act.put, PFrame.put, hr.size, this] using hp
      · have e2 : ¬ (some d = some t) := by simpa using e
        simp only [PFrame.put, if_neg e2]
        have := ht.rp (hr.slot t)
        simpa [Act.put, Array.getElem?_setIfInBounds_ne e] using this

/-- a new block -/
theorem Turn.new {V : Nat → Value} {w w' : World} (hr : HRel P W H V w) (hb : Below w.heap.size w w') {id : Nat} {b' : PBlk} (hv : b'.ver = (H id).ver + 1) {v0 : Value} (h0 : ∀ g, blockOf v0 = some g → w.heap.size ≤ g) : Turn W H V w id b' v0 w' :=
  ⟨hr.below.trans (hb.mono hr.below.size), hb.size, fun b hlt _ => hb.block b hlt, fun g hg => .inl (h0 g hg), .inl (by omega)⟩

/-- a call that hands out a new row -/
theorem PE.callOwn {o : Oper} {c : Call} {as qs : List PV} {f : FuncId} {t : TypeId} {kk d id : Nat} {R : Nat → List Value → Prop} {k : PV → PHeap → Prop} (hd : o.dst = some d) (hdn : d < n) (ho : o.op = .call c) (ht : target F c = some (f, as)) (hf : goBody P f = true) (hv : ViewL H as qs) (hc : PCallOwn P f qs t kk R)
    (hk : ∀ m us, R m us → us.length = m * kk → k (.ps id ((H id).ver + 1)) (H.set id ⟨(H id).ver + 1, some (.row t kk m (us.map .u))⟩)) : PE P W n o F H k := fun V a w hr => by
  obtain ⟨vs, he, hR⟩ := run_target (P := P) (W := W) (H := H) (V := V) (a := a) (w := w) ho ht hf fun x hx' => Rp.eval (P := P) x fun t ht => hr.slot t
  have hR2 := hR.view hr.heap hv
  refine wp_call he ((hc w vs ⟨hR2.1, fun i p v h1 h2 => (hR2.2 i p v h1 h2).mono (fun b hb hlt => ⟨fun hq => (pz_empty.1 hq).elim, hlt, fun _ => rfl⟩) (fun _ => Nat.le_refl _) (fun id ver _ h1 h2 => ⟨h1, h2, rfl⟩)⟩).mono fun e w' ⟨v, m, us, h1, h2, ho2, h4, hb⟩ => ⟨v, h1, .ps id ((H id).ver + 1), _, setV V id v, hk m us h2 ho2.1, ?_⟩)
  have hsz := hr.heap.below.size
  have hown : w'.ownsRow W.w.heap.size t kk v m us := ⟨ho2.1, by
    rcases ho2.2 with h5 | ⟨g, cap, cur, e, hg, r⟩
    · exact .inl h5
    · exact .inr ⟨g, cap, cur, e, by omega, r⟩⟩
  refine hr.turn (Turn.new hr.heap hb rfl fun g hg => ?_) (fun bd hbd => ?_) o.dst (fun t ht => by rw [hd] at ht; cases ht; exact hdn) ?_
  · rcases ho2.2 with ⟨e, _⟩ | ⟨g', cap, cur, e, hg', _⟩
    · rw [e] at hg; cases hg
    · rw [e] at hg; cases hg; exact hg'
  · cases hbd
    exact ⟨us, hown, RpL.us us, h4⟩
  · refine .ps _ _ _ ?_ fun _ _ => ?_
    · simp [PHeap.set]
    · simp [setV]
end
end Go.Proofs.Ytficeeaaaijgcaa.L
