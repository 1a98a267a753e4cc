/-
  'pstep': one quiet operation told by pure values, and its proof; a block made anew or written, told by the call's own heap.
-/
import Derived.Test.YtficeeaaaijgcaaLe
namespace Go.Proofs.Ytficeeaaaijgcaa.L
open Go Go.RowKit
set_option linter.unusedVariables false
set_option linter.unusedSimpArgs false
section
variable {P : Program} {W : Env} {n : Nat} {H : PHeap} {F : PFrame}

def nilP (H : PHeap) : PV → Option PV
  | .pp id off ver => (liveCells H id ver).map fun _ => .pp id off ver
  | .rp cs => some (.rp cs)
  | .fn (.func g) a b => some (.fn (.func g) a b)
  | _ => none

def callP (P : Program) (H : PHeap) (F : PFrame) (ty : TypeId) (c : Call) : Option PV :=
  match c.callee with
  | .builtin .len =>
    match c.args.toList, c.argTypes.toList with
    | [x], [t] => lenP P H t (evP F x)
    | _, _ => none
  | .builtin b => bltP P b c.argTypes ty (c.args.toList.map (evP F))
  | _ => none

/-! held against nil -/
def isPtr (P : Program) (t : TypeId) : Bool := match P.underlying t with | some (.pointer _) => true | _ => false
def nilOfS (H : PHeap) : PV → Option Bool
  | .sl _ (_ :: _) => some false
  | .u (.slice a _ _) => some a.isNone
  | .ps id ver => match liveRow H id ver with
    | some (_, _, n, _) => if 0 < n then some false else none
    | none => none
  | _ => none
def nilOfP (H : PHeap) : PV → Option Bool
  | .rp _ => some false
  | .u (.pointer a) => some a.isNone
  | .pp id _ ver => (liveCells H id ver).map fun _ => false
  | _ => none
theorem nilOfS_spec {V : Nat → Value} {w : World} (hr : HRel P W H V w) {p : PV} {b : Bool} {v : Value} (h : nilOfS H p = some b) (hp : Rp W.Z H V w p v) : ∃ a m c, v = .slice a m c ∧ a.isNone = b := by
  unfold nilOfS at h
  split at h
  · cases h; cases hp; exact ⟨_, _, _, rfl, rfl⟩
  · cases h; cases hp; exact ⟨_, _, _, rfl, rfl⟩
  · split at h
    · rename_i t k m cs hl
      split at h
      · rename_i hm
        cases h
        obtain ⟨hb, hve⟩ := liveRow_spec hl
        cases hp with
        | ps _ _ _ hvv hh =>
          rw [hh (by rw [hb]; rfl) hve]
          obtain ⟨vals, ho, _⟩ := hr.row _ t k m cs hb
          rcases ho.2 with ⟨e, rfl⟩ | ⟨g, cap, cur, e, _⟩
          · omega
          · exact ⟨_, _, _, e, rfl⟩
      · cases h
    · cases h
  · cases h
theorem nilOfP_spec {V : Nat → Value} {w : World} (hr : HRel P W H V w) {p : PV} {b : Bool} {v : Value} (h : nilOfP H p = some b) (hp : Rp W.Z H V w p v) : ∃ a, v = .pointer a ∧ a.isNone = b := by
  unfold nilOfP at h
  split at h
  · cases h; cases hp; exact ⟨_, rfl, rfl⟩
  · cases h; cases hp; exact ⟨_, rfl, rfl⟩
  · obtain ⟨cs, hl, rfl⟩ := Option.map_eq_some_iff.1 h
    obtain ⟨a1, a2⟩ := liveCells_live hl
    cases hp with
    | pp _ _ _ _ hv hh =>
      obtain ⟨g, _, rfl⟩ := hh a1 a2
      exact ⟨_, rfl, rfl⟩
  · cases h
def nilCmp (op : BinOp) (o : Option Bool) : Option PV := match o, op with
  | some b, .eql => some (.u (.bool b))
  | some b, .neq => some (.u (.bool (!b)))
  | _, _ => none
def binQ (P : Program) (H : PHeap) (F : PFrame) (op : BinOp) (t : TypeId) (x y : Operand) : Option PV :=
  match y with
  | .const (.slice none 0 0) => if isSlice P t then nilCmp op (nilOfS H (evP F x)) else none
  | .const (.pointer none) => if isPtr P t then nilCmp op (nilOfP H (evP F x)) else none
  | y => binP P op t x y (evP F x) (evP F y)

def pstep (P : Program) (H : PHeap) (F : PFrame) (o : Oper) : Option PV :=
  match o.op with
  | .move x | .assign x => some (evP F x)
  | .pick c a b => match evP F c with
    | .u (.bool t) => some (if t then evP F a else evP F b)
    | _ => none
  | .binOp op t x y _ => binQ P H F op t x y
  | .unOp op _ x => unP P op (evP F x)
  | .convert s d x => convP P s d (evP F x)
  | .load t x => loadAtP P H t (evP F x)
  | .fieldAddr s x f => fieldAddrP P H s f (evP F x)
  | .indexAddr t x i => indexAddrP P H t (evP F x) (evP F i)
  | .index t x i => indexP P t (evP F x) (evP F i)
  | .field t x f => fieldP P t f (evP F x)
  | .slice t x lo hi none => sliceP P t (evP F x) (lo.map (evP F)) (hi.map (evP F))
  | .extract x i => match evP F x with
    | .tup cs => cs[i]?
    | _ => none
  | .build t parts => buildP P H t (parts.toList.map fun x => (x.1, evP F x.2))
  | .makeFunc f a b => some (.fn f (a.toList.map (evP F)) (b.toList.map (evP F)))
  | .nilCheck x => nilP H (evP F x)
  | .call c => callP P H F o.type c
  | _ => none

theorem mapM_val2 {V : Nat → Value} {w : World} : ∀ {ps : List PV} {vs us : List Value}, ps.mapM PV.val2 = some us → RpL W.Z H V w ps vs → vs = us
  | [], vs, us, h, hr => by
    have := hr.1
    simp at h this
    subst h
    exact List.eq_nil_of_length_eq_zero this.symm
  | p :: ps, [], us, h, hr => by have := hr.1; simp at this
  | p :: ps, v :: vs, us, h, hr => by
    simp only [List.mapM_cons, bind_pure_comp, Option.bind_eq_bind] at h
    cases hc : p.val2 with
    | none => rw [hc] at h; cases h
    | some u =>
      cases hm : ps.mapM PV.val2 with
      | none => rw [hc, hm] at h; cases h
      | some m =>
        rw [hc, hm] at h
        simp at h
        subst h
        have e1 : vs = m := mapM_val2 hm ⟨by have := hr.1; simpa using this, fun i a b ha hb => hr.2 (i + 1) a b (by simpa using ha) (by simpa using hb)⟩
        rw [(hr.2 0 p v rfl rfl).val2 hc, e1]

theorem RpL.eval {V : Nat → Value} {w : World} {a : Act} : ∀ (xs : List Operand), (∀ x ∈ xs, Rp W.Z H V w (evP F x) (a.eval x)) → RpL W.Z H V w (xs.map (evP F)) (xs.map a.eval) := fun xs h => ⟨by simp, fun i p v h1 h2 => by
  rw [List.getElem?_map] at h1 h2
  cases hx : xs[i]? with
  | none => rw [hx] at h1; cases h1
  | some x =>
    rw [hx] at h1 h2
    cases h1
    cases h2
    exact h x (List.mem_of_getElem? hx)⟩

theorem callP_sound {o : Oper} {c : Call} {p : PV} (ho : o.op = .call c) (h : callP P H F o.type c = some p) : PQ P W o F H p := by
  refine PQ.of_run fun V a w hr hx => ?_
  rw [ho] at hx
  obtain ⟨callee, args, argTypes⟩ := c
  unfold callP at h
  cases callee with
  | value f => simp at h
  | invoke r m => simp at h
  | builtin b =>
    have hargs : ∀ x ∈ args.toList, Rp W.Z H V w (evP F x) (a.eval x) := fun x hx' => hx x (by simp [Op.operands, Call.operands]; simpa using hx')
    have hex : (execOp a.eval o) = builtin b argTypes o.type (args.map fun | .const _ => true | _ => false) (args.map a.eval) := by
      unfold execOp
      simp only [ho]
      unfold resolve
      simp only [pure_bind]
      rfl
    by_cases hlen : b = .len
    · subst hlen
      simp only at h
      split at h
      · rename_i x t h1 h2
        have e1 : args = #[x] := by apply Array.ext'; simpa using h1
        have e2 : argTypes = #[t] := by apply Array.ext'; simpa using h2
        subst e1 e2
        obtain ⟨u, hu, hp⟩ := run_lenP (ty := o.type) hr (hargs x (by simp)) h
        exact ⟨u, by rw [hex]; simp [builtin, hu], hp⟩
      · cases h
    · have h' : bltP P b argTypes o.type (args.toList.map (evP F)) = some p := by
        cases b <;> first | exact h | exact absurd rfl hlen
      unfold bltP at h'
      cases hm : (args.toList.map (evP F)).mapM PV.val2 with
      | none => rw [hm] at h'; cases h'
      | some us =>
        rw [hm] at h'
        simp only at h'
        have hus := mapM_val2 hm (RpL.eval (F := F) (a := a) args.toList hargs)
        have harr : args.map a.eval = us.toArray := by apply Array.ext'; simpa using hus
        split at h'
        · obtain ⟨v, hv, rfl⟩ := Option.map_eq_some_iff.1 h'
          exact ⟨v, by rw [hex]; simp [builtin, harr, val_sound hv w], Rp.ofV _ _ _ _ _⟩
        · obtain ⟨v, hv, rfl⟩ := Option.map_eq_some_iff.1 h'
          exact ⟨v, by rw [hex]; simp [builtin, harr, val_sound hv w], Rp.ofV _ _ _ _ _⟩
        · cases h'

theorem pstep_sound {o : Oper} {p : PV} (h : pstep P H F o = some p) : PQ P W o F H p := by
  obtain ⟨dst, op, type, pos, after, guard⟩ := o
  cases op <;> simp only [pstep] at h
  case move x =>
    cases h
    exact PQ.of_run fun V a w hr hx => ⟨_, rfl, hx x (by simp [Op.operands])⟩
  case assign x =>
    cases h
    exact PQ.of_run fun V a w hr hx => ⟨_, rfl, hx x (by simp [Op.operands])⟩
  case pick c a b =>
    split at h
    · rename_i t ht
      cases h
      refine PQ.of_run fun V ac w hr hx => ?_
      have hc := hx c (by simp [Op.operands])
      rw [ht] at hc
      have hcv : ac.eval c = .bool t := by generalize ac.eval c = q at hc; cases hc; rfl
      refine ⟨if t then ac.eval a else ac.eval b, by simp [execOp, hcv, asBool], ?_⟩
      cases t
      · exact hx b (by simp [Op.operands])
      · exact hx a (by simp [Op.operands])
    · cases h
  case binOp op t x y yt =>
    unfold binQ at h
    split at h
    · split at h
      · rename_i ht
        unfold nilCmp at h
        unfold isSlice at ht
        split at ht
        · rename_i e hu
          have key : ∀ (b : Bool), nilOfS H (evP F x) = some b → ∀ (V : Nat → Value) (ac : Act) (w : World), HRel P W H V w → Rp W.Z H V w (evP F x) (ac.eval x) → (Op.equal t (ac.eval x) (.slice none 0 0)).run P w = .ok b w ∧ ∃ a m c, ac.eval x = .slice a m c := by
            intro b hb V ac w hr hx
            obtain ⟨a, m, c, e1, e2⟩ := nilOfS_spec hr hb hx
            rw [e1]
            refine ⟨?_, a, m, c, rfl⟩
            subst e2
            have hE : ∀ d, (Op.equalIn (d + 1) t (.slice a m c) (.slice none 0 0)).run P w = .ok a.isNone w := fun d => by
              cases a <;> simp [Op.equalIn, run_underlying hu]
            exact hE 9999
          split at h
          · rename_i b hb
            cases h
            refine PQ.of_run fun V ac w hr hx => ?_
            obtain ⟨h1, a, m, c, h2⟩ := key b hb V ac w hr (hx x (by simp [Op.operands]))
            rw [h2] at h1
            have hy : ∀ u, ac.eval (.const u) = u := fun _ => rfl
            exact ⟨.bool b, by simp [execOp, h2, hy, eqGuard, binOp, h1], .u _⟩
          · rename_i b hb
            cases h
            refine PQ.of_run fun V ac w hr hx => ?_
            obtain ⟨h1, a, m, c, h2⟩ := key b hb V ac w hr (hx x (by simp [Op.operands]))
            rw [h2] at h1
            have hy : ∀ u, ac.eval (.const u) = u := fun _ => rfl
            exact ⟨.bool (!b), by simp [execOp, h2, hy, eqGuard, binOp, h1], .u _⟩
          · cases h
        · cases ht
      · cases h
    · split at h
      · rename_i ht
        unfold nilCmp at h
        unfold isPtr at ht
        split at ht
        · rename_i e hu
          have key : ∀ (b : Bool), nilOfP H (evP F x) = some b → ∀ (V : Nat → Value) (ac : Act) (w : World), HRel P W H V w → Rp W.Z H V w (evP F x) (ac.eval x) → (Op.equal t (ac.eval x) (.pointer none)).run P w = .ok b w ∧ ∃ a, ac.eval x = .pointer a := by
            intro b hb V ac w hr hx
            obtain ⟨a, e1, e2⟩ := nilOfP_spec hr hb hx
            rw [e1]
            refine ⟨?_, a, rfl⟩
            subst e2
            have hE : ∀ d, (Op.equalIn (d + 1) t (.pointer a) (.pointer none)).run P w = .ok a.isNone w := fun d => by
              cases a <;> simp [Op.equalIn, run_underlying hu]
            exact hE 9999
          split at h
          · rename_i b hb
            cases h
            refine PQ.of_run fun V ac w hr hx => ?_
            obtain ⟨h1, a, h2⟩ := key b hb V ac w hr (hx x (by simp [Op.operands]))
            rw [h2] at h1
            have hy : ∀ u, ac.eval (.const u) = u := fun _ => rfl
            exact ⟨.bool b, by simp [execOp, h2, hy, eqGuard, binOp, h1], .u _⟩
          · rename_i b hb
            cases h
            refine PQ.of_run fun V ac w hr hx => ?_
            obtain ⟨h1, a, h2⟩ := key b hb V ac w hr (hx x (by simp [Op.operands]))
            rw [h2] at h1
            have hy : ∀ u, ac.eval (.const u) = u := fun _ => rfl
            exact ⟨.bool (!b), by simp [execOp, h2, hy, eqGuard, binOp, h1], .u _⟩
          · cases h
        · cases ht
      · cases h
    unfold binP at h
    split at h
    · rename_i a b ha hb
      obtain ⟨v, hv, rfl⟩ := Option.map_eq_some_iff.1 h
      refine PQ.of_run fun V ac w hr hx => ⟨v, ?_, Rp.ofV _ _ _ _ _⟩
      have h1 := (hx x (by simp [Op.operands])).val2 ha
      have h2 := (hx y (by simp [Op.operands])).val2 hb
      have h3 := val_sound hv w
      simp only [execOp, h1, h2]
      rw [Sem.run_bind, h3]
      rfl
    · cases h
  case unOp op t x =>
    unfold unP at h
    split at h
    · rename_i a ha
      obtain ⟨v, hv, rfl⟩ := Option.map_eq_some_iff.1 h
      refine PQ.of_run fun V ac w hr hx => ⟨v, ?_, Rp.ofV _ _ _ _ _⟩
      have h1 := (hx x (by simp [Op.operands])).val2 ha
      simp only [execOp, h1]
      rw [Sem.run_bind, val_sound hv w]
      rfl
    · cases h
  case convert s d x =>
    unfold convP at h
    split at h
    · rename_i a ha
      obtain ⟨v, hv, rfl⟩ := Option.map_eq_some_iff.1 h
      refine PQ.of_run fun V ac w hr hx => ⟨v, ?_, Rp.ofV _ _ _ _ _⟩
      have h1 := (hx x (by simp [Op.operands])).val2 ha
      simp only [execOp, h1]
      rw [Sem.run_bind, val_sound hv w]
      rfl
    · cases h
  case load t x =>
    refine PQ.of_run fun V ac w hr hx => ?_
    obtain ⟨u, hu, hp⟩ := run_loadAtP hr (hx x (by simp [Op.operands])) h
    exact ⟨u, by simp [execOp, hu], hp⟩
  case fieldAddr s x f =>
    refine PQ.of_run fun V ac w hr hx => ?_
    obtain ⟨u, hu, hp⟩ := run_fieldAddrP (hx x (by simp [Op.operands])) h
    exact ⟨u, by simp [execOp, hu], hp⟩
  case indexAddr t x i =>
    refine PQ.of_run fun V ac w hr hx => ?_
    obtain ⟨u, hu, hp⟩ := run_indexAddrP hr (hx x (by simp [Op.operands])) (hx i (by simp [Op.operands])) h
    exact ⟨u, by simp [execOp, hu], hp⟩
  case index t x i =>
    refine PQ.of_run fun V ac w hr hx => ?_
    obtain ⟨u, hu, hp⟩ := run_indexP (hx x (by simp [Op.operands])) (hx i (by simp [Op.operands])) h
    exact ⟨u, by simp [execOp, hu], hp⟩
  case field t x f =>
    refine PQ.of_run fun V ac w hr hx => ?_
    obtain ⟨u, hu, hp⟩ := run_fieldP (hx x (by simp [Op.operands])) h
    exact ⟨u, by simp [execOp, hu], hp⟩
  case slice t x lo hi mx =>
    cases mx with
    | some m => simp at h
    | none =>
      refine PQ.of_run fun V ac w hr hx => ?_
      obtain ⟨u, hu, hp⟩ := run_sliceP (vl := lo.map ac.eval) (vh := hi.map ac.eval) (hx x (by simp [Op.operands])) (fun p v h1 h2 => by
        cases lo with
        | none => cases h1
        | some l => cases h1; cases h2; exact hx l (by simp [Op.operands])) (by simp) (fun p v h1 h2 => by
        cases hi with
        | none => cases h1
        | some l => cases h1; cases h2; exact hx l (by simp [Op.operands])) (by simp) h
      exact ⟨u, by simp [execOp, hu], hp⟩
  case extract x i =>
    split at h
    · rename_i cs hcs
      refine PQ.of_run fun V ac w hr hx => ?_
      have h1 := hx x (by simp [Op.operands])
      rw [hcs] at h1
      generalize hq : ac.eval x = q at h1
      cases h1 with
      | tup _ vs hl hc =>
        have hlt := (List.getElem?_eq_some_iff.1 h).1
        have hv := Array.getElem?_eq_getElem (xs := vs) (show i < vs.size by omega)
        exact ⟨vs[i]'(by omega), by simp [execOp, hq, Instr.extract, hv], hc i p _ h hv⟩
    · cases h
  case build t parts =>
    refine PQ.of_run fun V ac w hr hx => ?_
    obtain ⟨u, hu, hp⟩ := run_buildP (vs := parts.map fun (x : Nat × Operand) => (x.1, ac.eval x.2)) hr ⟨by simp, fun i p v h1 h2 => by
      rw [List.getElem?_map] at h1
      rw [Array.toList_map, List.getElem?_map] at h2
      cases hi : parts.toList[i]? with
      | none => rw [hi] at h1; cases h1
      | some y =>
        rw [hi] at h1 h2
        cases h1
        cases h2
        refine ⟨rfl, hx y.2 ?_⟩
        simp only [Op.operands, List.mem_toArray, List.mem_map]
        exact ⟨y, List.mem_of_getElem? hi, rfl⟩⟩ h
    exact ⟨u, by simp [execOp, hu], hp⟩
  case makeFunc f a b =>
    cases h
    refine PQ.of_run fun V ac w hr hx => ⟨.func f (a.map ac.eval) (b.map ac.eval), by simp [execOp, Instr.makeFunc], ?_⟩
    have h1 := RpL.eval (W := W) (H := H) (V := V) (w := w) (F := F) (a := ac) a.toList fun x hx' => hx x (by simp [Op.operands]; left; simpa using hx')
    have h2 := RpL.eval (W := W) (H := H) (V := V) (w := w) (F := F) (a := ac) b.toList fun x hx' => hx x (by simp [Op.operands]; right; simpa using hx')
    exact .fn f _ _ _ _ (by simp) (by simp) (fun i p v h3 h4 => h1.2 i p v h3 (by simpa using h4)) (fun i p v h3 h4 => h2.2 i p v h3 (by simpa using h4))
  case nilCheck x =>
    refine PQ.of_run fun V ac w hr hx => ?_
    have h1 := hx x (by simp [Op.operands])
    generalize hq : evP F x = q at h h1
    unfold nilP at h
    split at h
    · rename_i id off ver
      cases hl : liveCells H id ver with
      | none => rw [hl] at h; cases h
      | some cs =>
        rw [hl] at h
        cases h
        obtain ⟨a1, a2⟩ := liveCells_live hl
        generalize hv : ac.eval x = v at h1
        cases h1 with
        | pp _ _ _ _ hv' hh =>
          obtain ⟨g, hg, rfl⟩ := hh a1 a2
          exact ⟨.pointer (some ⟨g, off, none⟩), by simp [execOp, hv], .pp _ _ _ _ hv' hh⟩
    · cases h
      generalize hv : ac.eval x = v at h1
      cases h1 with
      | rp _ b o g hz hb h1 h2 => exact ⟨.pointer (some ⟨b, o, none⟩), by simp [execOp, hv], .rp _ b o g hz hb h1 h2⟩
    · cases h
      generalize hv : ac.eval x = v at h1
      cases h1 with
      | fn _ _ _ va vb hla hlb ha hb => exact ⟨.func _ va vb, by simp [execOp, hv], .fn _ _ _ va vb hla hlb ha hb⟩
    · cases h
  case call c => exact callP_sound rfl h
  all_goals cases h

/-! ### a block made anew, or written -/
/-- what is told of the rest stays told, while block d is made anew or written -/
structure Turn (W : Env) (H : PHeap) (V : Nat → Value) (w : World) (d : Nat) (b' : PBlk) (v0 : Value) (w' : World) : Prop where
  below : Below W.w.heap.size W.w w'
  size : w.heap.size ≤ w'.heap.size
  block : ∀ b, b < w.heap.size → ¬ ((H d).body.isSome = true ∧ blockOf (V d) = some b) → w'.heap[b]? = w.heap[b]?
  own : ∀ g, blockOf v0 = some g → w.heap.size ≤ g ∨ ((H d).body.isSome = true ∧ blockOf (V d) = some g)
  ver : (H d).ver < b'.ver ∨ (b'.ver = (H d).ver ∧ v0 = V d ∧ (H d).body.isSome = true)

def setV (V : Nat → Value) (d : Nat) (v : Value) : Nat → Value := fun i => if i = d then v else V i

section
variable {V : Nat → Value} {w w' : World} {d : Nat} {b' : PBlk} {v0 : Value}

theorem Turn.rp (ht : Turn W H V w d b' v0 w') {p : PV} {v : Value} (h : Rp W.Z H V w p v) : Rp W.Z (H.set d b') (setV V d v0) w' p v := by
  refine h.mono (fun b hz hb => ⟨fun hz' => ?_, Nat.lt_of_lt_of_le hb ht.size, fun o => World.cell?_of_block (ht.block b hb fun hd => hz (.inr ⟨d, hd.1, hd.2⟩))⟩) (fun id => ?_) (fun id ver hv h1 h2 => ?_)
  · rcases hz' with hz' | ⟨id, h1, h2⟩
    · exact hz (.inl hz')
    · by_cases e : id = d
      · subst e
        simp only [setV, if_true] at h2
        rcases ht.own b h2 with h3 | h3
        · omega
        · exact hz (.inr ⟨_, h3.1, h3.2⟩)
      · simp only [setV, if_neg e] at h2
        simp only [PHeap.set, if_neg e] at h1
        exact hz (.inr ⟨id, h1, h2⟩)
  · by_cases e : id = d
    · subst e
      simp only [PHeap.set, if_true]
      rcases ht.ver with h | ⟨h, _⟩ <;> omega
    · simp [PHeap.set, e]
  · by_cases e : id = d
    · subst e
      simp only [PHeap.set, if_true] at h1 h2
      rcases ht.ver with h | ⟨h, h3, h4⟩
      · omega
      · exact ⟨h4, by omega, by simp [setV, h3]⟩
    · simp only [PHeap.set, if_neg e] at h1 h2
      exact ⟨h1, h2, by simp [setV, e]⟩

/-- what the body says of the block -/
def BodyRel (W : Env) (H : PHeap) (V : Nat → Value) (w : World) (v : Value) : PBody → Prop
  | .row t k n cs => ∃ vals, w.ownsRow W.w.heap.size t k v n vals ∧ RpL W.Z H V w cs vals ∧ ∀ v ∈ vals, v.oneCell' = true
  | .box t cs => ∃ g arr, v = .pointer (some ⟨g, 0, none⟩) ∧ W.w.heap.size ≤ g ∧ w.heap[g]? = some (.cells arr t (0, 0)) ∧ RpL W.Z H V w cs arr.toList ∧ ∀ v ∈ arr.toList, v.oneCell' = true

theorem Turn.heap (ht : Turn W H V w d b' v0 w') (hr : HRel P W H V w) (hb : ∀ bd, b'.body = some bd → BodyRel W (H.set d b') (setV V d v0) w' v0 bd) : HRel P W (H.set d b') (setV V d v0) w' := by
  have keep : ∀ id g, id ≠ d → (H id).body.isSome = true → blockOf (V id) = some g → w'.heap[g]? = w.heap[g]? := fun id g e hs hg => by
    refine ht.block g (hr.own_lt hs hg).2 fun hd => e (hr.apart id d g hs hd.1 hg hd.2)
  refine ⟨ht.below, fun id t k n cs hbd => ?_, fun id t cs hbd => ?_, fun i => ht.rp (hr.ghost i), fun id id' g h1 h2 h3 h4 => ?_⟩
  · by_cases e : id = d
    · subst e
      simp only [PHeap.set, if_true] at hbd
      have := hb _ hbd
      simp only [setV, if_true]
      exact this
    · simp only [PHeap.set, if_neg e] at hbd
      obtain ⟨vals, ho, hR, h1⟩ := hr.row id t k n cs hbd
      refine ⟨vals, ?_, hR.mono fun p v hp => ht.rp hp, h1⟩
      simp only [setV, if_neg e]
      refine ⟨ho.1, ?_⟩
      rcases ho.2 with h2 | ⟨g, cap, cur, hv, hg, hh, r⟩
      · exact .inl h2
      · exact .inr ⟨g, cap, cur, hv, hg, by rw [keep id g e (by rw [hbd]; rfl) (by rw [hv]; rfl)]; exact hh, r⟩
  · by_cases e : id = d
    · subst e
      simp only [PHeap.set, if_true] at hbd
      have := hb _ hbd
      simp only [setV, if_true]
      exact this
    · simp only [PHeap.set, if_neg e] at hbd
      obtain ⟨g, arr, hv, hg, hh, hR, h1⟩ := hr.box id t cs hbd
      refine ⟨g, arr, by simp only [setV, if_neg e]; exact hv, hg, by rw [keep id g e (by rw [hbd]; rfl) (by rw [hv]; rfl)]; exact hh, hR.mono fun p v hp => ht.rp hp, h1⟩
  · have own : ∀ g, blockOf v0 = some g → ∀ id, id ≠ d → (H id).body.isSome = true → blockOf (V id) = some g → False := fun g hg id e hs hg2 => by
      rcases ht.own g hg with h5 | h5
      · have := (hr.own_lt hs hg2).2; omega
      · exact e (hr.apart id d g hs h5.1 hg2 h5.2)
    by_cases e : id = d
    · by_cases e' : id' = d
      · rw [e, e']
      · subst e
        simp only [setV, if_true] at h3
        simp only [setV, if_neg e'] at h4
        simp only [PHeap.set, if_neg e'] at h2
        exact (own g h3 id' e' h2 h4).elim
    · by_cases e' : id' = d
      · subst e'
        simp only [setV, if_true] at h4
        simp only [setV, if_neg e] at h3
        simp only [PHeap.set, if_neg e] at h1
        exact (own g h4 id e h1 h3).elim
      · simp only [setV, if_neg e] at h3
        simp only [setV, if_neg e'] at h4
        simp only [PHeap.set, if_neg e] at h1
        simp only [PHeap.set, if_neg e'] at h2
        exact hr.apart id id' g h1 h2 h3 h4
end
end
end Go.Proofs.Ytficeeaaaijgcaa.L
