/-
  The steps of a walk over pure values, as rules for simp.
-/
import Derived.Test.YtficeeaaaijgcaaLj
import Derived.IntWalk
import Derived.Lib.Hide
namespace Go.Proofs.Ytficeeaaaijgcaa.L
open Go Go.RowKit
set_option linter.unusedVariables false
set_option linter.unusedSimpArgs false

/-- one quiet operation, then k -/
def stepK (P : Program) (n : Nat) (H : PHeap) (o : Oper) (F : PFrame) (k : PFrame → Prop) : Prop := dstOk n o ∧ (pstep P H F o).elim False fun p => k (F.put o.dst p)
/-- the same where the operation's guard is slot d -/
def stepG (P : Program) (n : Nat) (H : PHeap) (o : Oper) (F : PFrame) (d : Nat) (want : Bool) (k : PFrame → Prop) : Prop := dstOk n o ∧
  match F d with
  | .u (.bool b) => if (b == want) = true then (pstep P H F o).elim False fun p => k (F.put o.dst p) else k (F.put o.dst (.u undef))
  | .u (.tuple _) => k (F.put o.dst (.u undef))
  | _ => False

section
variable {P : Program} {W : Env} {n : Nat} {H : PHeap} {F : PFrame} {ops : Array Oper} {o : Oper} {l : List Oper}

theorem PL.k {K : PFrame → PHeap → Prop} (hg : o.guard = none) (h : ∀ KK : PFrame → Prop, (∀ F', PL P W n ops l F' H K → KK F') → stepK P n H o F KK) : PL P W n ops (o :: l) F H K := by
  obtain ⟨hd, hk⟩ := h (fun F' => PL P W n ops l F' H K) fun _ h => h
  refine PL.cons (by unfold wantedP; rw [hg]) ?_
  cases hp : pstep P H F o with
  | none => rw [hp] at hk; exact hk.elim
  | some p => rw [hp] at hk; exact PE.quiet hd (pstep_sound hp) hk
theorem PL.g {K : PFrame → PHeap → Prop} {j d : Nat} {want : Bool} (hg : o.guard = some (j, want)) (hj : (ops[j]?).bind (·.dst) = some d) (h : ∀ KK : PFrame → Prop, (∀ F', PL P W n ops l F' H K → KK F') → stepG P n H o F d want KK) : PL P W n ops (o :: l) F H K := by
  obtain ⟨hd, hk⟩ := h (fun F' => PL P W n ops l F' H K) fun _ h => h
  have hw : wantedP ops o F = match F d with | .u (.bool b) => some (b == want) | .u (.tuple _) => some false | _ => none := by
    unfold wantedP; rw [hg]; simp only [hj]; rfl
  split at hk
  · rename_i b hb
    rw [hb] at hw
    simp only at hw
    split at hk
    · rename_i hbw
      refine PL.cons (by rw [hw, hbw]) ?_
      cases hp : pstep P H F o with
      | none => rw [hp] at hk; exact hk.elim
      | some p => rw [hp] at hk; exact PE.quiet hd (pstep_sound hp) hk
    · rename_i hbw
      exact PL.skip (by rw [hw]; simpa using hbw) hd hk
  · rename_i hb
    rw [hb] at hw
    exact PL.skip hw hd hk
  · exact hk.elim
theorem QF.k {Q : PFrame → Prop} (hg : o.guard = none) (h : ∀ KK : PFrame → Prop, (∀ F', wpQF P W n ops H Q l F' → KK F') → stepK P n H o F KK) : wpQF P W n ops H Q (o :: l) F := by
  obtain ⟨hd, hk⟩ := h (fun F' => wpQF P W n ops H Q l F') fun _ h => h
  refine ⟨hd, .inl ⟨by unfold wantedP; rw [hg], ?_⟩⟩
  cases hp : pstep P H F o with
  | none => rw [hp] at hk; exact hk.elim
  | some p => rw [hp] at hk; exact ⟨p, pstep_sound hp, hk⟩
theorem QF.g {Q : PFrame → Prop} {j d : Nat} {want : Bool} (hg : o.guard = some (j, want)) (hj : (ops[j]?).bind (·.dst) = some d) (h : ∀ KK : PFrame → Prop, (∀ F', wpQF P W n ops H Q l F' → KK F') → stepG P n H o F d want KK) : wpQF P W n ops H Q (o :: l) F := by
  obtain ⟨hd, hk⟩ := h (fun F' => wpQF P W n ops H Q l F') fun _ h => h
  have hw : wantedP ops o F = match F d with | .u (.bool b) => some (b == want) | .u (.tuple _) => some false | _ => none := by
    unfold wantedP; rw [hg]; simp only [hj]; rfl
  refine ⟨hd, ?_⟩
  split at hk
  · rename_i b hb
    rw [hb] at hw
    simp only at hw
    split at hk
    · rename_i hbw
      refine .inl ⟨by rw [hw, hbw], ?_⟩
      cases hp : pstep P H F o with
      | none => rw [hp] at hk; exact hk.elim
      | some p => rw [hp] at hk; exact ⟨p, pstep_sound hp, hk⟩
    · rename_i hbw
      exact .inr ⟨by rw [hw]; simpa using hbw, hk⟩
  · rename_i hb
    rw [hb] at hw
    exact .inr ⟨hw, hk⟩
  · exact hk.elim
theorem QF.nil {Q : PFrame → Prop} (h : Q F) : wpQF P W n ops H Q [] F := h
/-- a call in a region that draws -/
theorem QF.call {Q : PFrame → Prop} {p0 : PV} (hg : o.guard = none) (hd : dstOk n o) (hq : PQ P W o F H p0) (h : wpQF P W n ops H Q l (F.put o.dst p0)) : wpQF P W n ops H Q (o :: l) F :=
  ⟨hd, .inl ⟨by unfold wantedP; rw [hg], p0, hq, h⟩⟩
theorem PL.pe {K : PFrame → PHeap → Prop} (hg : o.guard = none) (h : PE P W n o F H fun p H' => PL P W n ops l (F.put o.dst p) H' K) : PL P W n ops (o :: l) F H K := PL.cons (by unfold wantedP; rw [hg]) h
/-- a guarded operation that is wanted -/
theorem PL.peg {K : PFrame → PHeap → Prop} {j d : Nat} {want : Bool} (hg : o.guard = some (j, want)) (hj : (ops[j]?).bind (·.dst) = some d) (hF : F d = .u (.bool want)) (h : PE P W n o F H fun p H' => PL P W n ops l (F.put o.dst p) H' K) : PL P W n ops (o :: l) F H K :=
  PL.cons (by unfold wantedP; rw [hg]; simp only [hj, hF]; simp) h
theorem QF.callg {Q : PFrame → Prop} {p0 : PV} {j d : Nat} {want : Bool} (hg : o.guard = some (j, want)) (hj : (ops[j]?).bind (·.dst) = some d) (hF : F d = .u (.bool want)) (hd : dstOk n o) (hq : PQ P W o F H p0) (h : wpQF P W n ops H Q l (F.put o.dst p0)) : wpQF P W n ops H Q (o :: l) F :=
  ⟨hd, .inl ⟨by unfold wantedP; rw [hg]; simp only [hj, hF]; simp, p0, hq, h⟩⟩
end

/-! rules -/
section
variable {P : Program} {n : Nat} {H : PHeap} {F : PFrame} {d ty : Nat} {pos : String} {af : Array Edge} {g : Option (Nat × Bool)}

@[go_sem] theorem dstOk_some {op : Op} : dstOk n ⟨some d, op, ty, pos, af, g⟩ = (d < n) := by simp [dstOk]
@[go_sem] theorem dstOk_none {op : Op} : dstOk n ⟨none, op, ty, pos, af, g⟩ = True := by simp [dstOk]
@[go_sem] theorem put_app (p : PV) (t : Nat) : PFrame.put F (some d) p t = if d = t then p else F t := by simp [PFrame.put]
@[go_sem] theorem put_none (p : PV) : PFrame.put F none p = F := by funext t; simp [PFrame.put]
@[go_sem] theorem set_app (b : PBlk) (i : Nat) : PHeap.set H d b i = if i = d then b else H i := rfl
@[go_sem] theorem empty_app (i : Nat) : PHeap.empty i = ⟨0, none⟩ := rfl
@[go_sem] theorem elim_some {α β : Type} (a : α) (b : β) (f : α → β) : (some a).elim b f = f a := rfl
@[go_sem] theorem frame0_app (as : List PV) (t : Nat) : frame0 as t = (as[t]?).getD (.u undef) := rfl

@[go_sem] theorem evP_tmp (t : Nat) : evP F (.tmp t) = F t := rfl
@[go_sem] theorem evP_func (f : Nat) : evP F (.func f) = .fn (.func f) [] [] := rfl
@[go_sem] theorem evP_int (k : IntKind) (z : Int) : evP F (.const (.int k z)) = .u (.int k z) := rfl
@[go_sem] theorem evP_bool (b : Bool) : evP F (.const (.bool b)) = .u (.bool b) := rfl
@[go_sem] theorem evP_str (s : ByteArray) : evP F (.const (.string s)) = .u (.string s) := rfl
@[go_sem] theorem evP_nil (a : Option Addr) (l c : Nat) : evP F (.const (.slice a l c)) = .u (.slice a l c) := rfl
@[go_sem] theorem evP_ptr (a : Option Addr) : evP F (.const (.pointer a)) = .u (.pointer a) := rfl
@[go_sem] theorem evP_agg (vs : Array Value) : evP F (.const (.agg vs)) = .agg (vs.toList.map .u) := rfl

@[go_sem] theorem pstep_move (x : Operand) : pstep P H F ⟨some d, .move x, ty, pos, af, g⟩ = some (evP F x) := rfl
@[go_sem] theorem pstep_assign (x : Operand) : pstep P H F ⟨some d, .assign x, ty, pos, af, g⟩ = some (evP F x) := rfl
def pickP (c a b : PV) : Option PV := match c with
  | .u (.bool t) => some (if t = true then a else b)
  | _ => none
@[go_sem] theorem pstep_pick (c a b : Operand) : pstep P H F ⟨some d, .pick c a b, ty, pos, af, g⟩ = pickP (evP F c) (evP F a) (evP F b) := by
  unfold pstep pickP; simp only; split <;> simp_all
@[go_sem] theorem pickP_b (t : Bool) (a b : PV) : pickP (.u (.bool t)) a b = some (if t = true then a else b) := rfl
@[go_sem] theorem pstep_binOp (op : BinOp) (t t' : Nat) (x y : Operand) : pstep P H F ⟨some d, .binOp op t x y t', ty, pos, af, g⟩ = binQ P H F op t x y := rfl
@[go_sem] theorem binQ_tmp (op : BinOp) (t : Nat) (x : Operand) (y : Nat) : binQ P H F op t x (.tmp y) = binP P op t x (.tmp y) (evP F x) (F y) := rfl
@[go_sem] theorem binQ_int (op : BinOp) (t : Nat) (x : Operand) (k : IntKind) (z : Int) : binQ P H F op t x (.const (.int k z)) = binP P op t x (.const (.int k z)) (evP F x) (.u (.int k z)) := rfl
@[go_sem] theorem binQ_bool (op : BinOp) (t : Nat) (x : Operand) (b : Bool) : binQ P H F op t x (.const (.bool b)) = binP P op t x (.const (.bool b)) (evP F x) (.u (.bool b)) := rfl
@[go_sem] theorem binQ_str (op : BinOp) (t : Nat) (x : Operand) (b : ByteArray) : binQ P H F op t x (.const (.string b)) = binP P op t x (.const (.string b)) (evP F x) (.u (.string b)) := rfl
@[go_sem] theorem binQ_agg (op : BinOp) (t : Nat) (x : Operand) (b : Array Value) : binQ P H F op t x (.const (.agg b)) = binP P op t x (.const (.agg b)) (evP F x) (.agg (b.toList.map .u)) := rfl
@[go_sem] theorem binQ_nil (op : BinOp) (t : Nat) (x : Operand) : binQ P H F op t x (.const (.slice none 0 0)) = if isSlice P t then nilCmp op (nilOfS H (evP F x)) else none := rfl
@[go_sem] theorem binQ_nilp (op : BinOp) (t : Nat) (x : Operand) : binQ P H F op t x (.const (.pointer none)) = if isPtr P t then nilCmp op (nilOfP H (evP F x)) else none := rfl
@[go_sem] theorem nilCmp_e (b : Bool) : nilCmp .eql (some b) = some (.u (.bool b)) := rfl
@[go_sem] theorem nilCmp_n (b : Bool) : nilCmp .neq (some b) = some (.u (.bool (!b))) := rfl
@[go_sem] theorem nilOfP_rp (cs : List PV) : nilOfP H (.rp cs) = some false := rfl
@[go_sem] theorem nilOfP_u (a : Option Addr) : nilOfP H (.u (.pointer a)) = some a.isNone := rfl
@[go_sem] theorem nilOfS_u (a : Option Addr) (m c : Nat) : nilOfS H (.u (.slice a m c)) = some a.isNone := rfl
@[go_sem] theorem pstep_unOp (op : UnOp) (t : Nat) (x : Operand) : pstep P H F ⟨some d, .unOp op t x, ty, pos, af, g⟩ = unP P op (evP F x) := rfl
@[go_sem] theorem pstep_convert (s t : Nat) (x : Operand) : pstep P H F ⟨some d, .convert s t x, ty, pos, af, g⟩ = convP P s t (evP F x) := rfl
@[go_sem] theorem pstep_load (t : Nat) (x : Operand) : pstep P H F ⟨some d, .load t x, ty, pos, af, g⟩ = loadAtP P H t (evP F x) := rfl
@[go_sem] theorem pstep_fieldAddr (s f : Nat) (x : Operand) : pstep P H F ⟨some d, .fieldAddr s x f, ty, pos, af, g⟩ = fieldAddrP P H s f (evP F x) := rfl
@[go_sem] theorem pstep_indexAddr (t : Nat) (x i : Operand) : pstep P H F ⟨some d, .indexAddr t x i, ty, pos, af, g⟩ = indexAddrP P H t (evP F x) (evP F i) := rfl
@[go_sem] theorem pstep_index (t : Nat) (x i : Operand) : pstep P H F ⟨some d, .index t x i, ty, pos, af, g⟩ = indexP P t (evP F x) (evP F i) := rfl
@[go_sem] theorem pstep_field (t f : Nat) (x : Operand) : pstep P H F ⟨some d, .field t x f, ty, pos, af, g⟩ = fieldP P t f (evP F x) := rfl
@[go_sem] theorem pstep_slice (t : Nat) (x : Operand) (lo hi : Option Operand) : pstep P H F ⟨some d, .slice t x lo hi none, ty, pos, af, g⟩ = sliceP P t (evP F x) (lo.map (evP F)) (hi.map (evP F)) := rfl
def extP (p : PV) (i : Nat) : Option PV := match p with
  | .tup cs => cs[i]?
  | _ => none
@[go_sem] theorem pstep_extract (x : Operand) (i : Nat) : pstep P H F ⟨some d, .extract x i, ty, pos, af, g⟩ = extP (evP F x) i := by
  unfold pstep extP; simp only; split <;> simp_all
@[go_sem] theorem extP_t (cs : List PV) (i : Nat) : extP (.tup cs) i = cs[i]? := rfl
@[go_sem] theorem pstep_build (t : Nat) (ps : Array (Nat × Operand)) : pstep P H F ⟨some d, .build t ps, ty, pos, af, g⟩ = buildP P H t (ps.toList.map fun x => (x.1, evP F x.2)) := rfl
@[go_sem] theorem pstep_makeFunc (f : Fn) (a b : Array Operand) : pstep P H F ⟨some d, .makeFunc f a b, ty, pos, af, g⟩ = some (.fn f (a.toList.map (evP F)) (b.toList.map (evP F))) := rfl
@[go_sem] theorem pstep_nilCheck (x : Operand) : pstep P H F ⟨some d, .nilCheck x, ty, pos, af, g⟩ = nilP H (evP F x) := rfl
@[go_sem] theorem pstep_len (x : Operand) (t : Nat) : pstep P H F ⟨some d, .call { callee := .builtin .len, args := #[x], argTypes := #[t] }, ty, pos, af, g⟩ = lenP P H t (evP F x) := rfl
@[go_sem] theorem pstep_min (x y : Operand) (t : Array Nat) : pstep P H F ⟨some d, .call { callee := .builtin .min, args := #[x, y], argTypes := t }, ty, pos, af, g⟩ = bltP P .min t ty [evP F x, evP F y] := rfl
@[go_sem] theorem pstep_max (x y : Operand) (t : Array Nat) : pstep P H F ⟨some d, .call { callee := .builtin .max, args := #[x, y], argTypes := t }, ty, pos, af, g⟩ = bltP P .max t ty [evP F x, evP F y] := rfl

/-! numbers -/
variable {t : Nat} {x y : Operand} {k : IntKind} {a b : Int}
theorem i64_wrap {a : Int} (h1 : -9223372036854775808 ≤ a) (h2 : a ≤ 9223372036854775807) : IntKind.i64.wrap a = a := by rw [IntKind.wrap_i64]; omega
theorem binP_addW : binP P .add t x y (.u (.int k a)) (.u (.int k b)) = some (.u (.int k (k.wrap (a + b)))) := by simp [binP, PV.val2, eqGuard, binOp, val_bind, val_pure, Op.intArith, ofV]
theorem binP_subW : binP P .sub t x y (.u (.int k a)) (.u (.int k b)) = some (.u (.int k (k.wrap (a - b)))) := by simp [binP, PV.val2, eqGuard, binOp, val_bind, val_pure, Op.intArith, ofV]
theorem binP_mulW : binP P .mul t x y (.u (.int k a)) (.u (.int k b)) = some (.u (.int k (k.wrap (a * b)))) := by simp [binP, PV.val2, eqGuard, binOp, val_bind, val_pure, Op.intArith, ofV]
@[go_sem] theorem binP_add (h1 : -9223372036854775808 ≤ a + b) (h2 : a + b ≤ 9223372036854775807) : binP P .add t x y (.u (.int .i64 a)) (.u (.int .i64 b)) = some (.u (.int .i64 (a + b))) := by rw [binP_addW, i64_wrap h1 h2]
@[go_sem] theorem binP_sub (h1 : -9223372036854775808 ≤ a - b) (h2 : a - b ≤ 9223372036854775807) : binP P .sub t x y (.u (.int .i64 a)) (.u (.int .i64 b)) = some (.u (.int .i64 (a - b))) := by rw [binP_subW, i64_wrap h1 h2]
@[go_sem] theorem binP_mul (h1 : -9223372036854775808 ≤ a * b) (h2 : a * b ≤ 9223372036854775807) : binP P .mul t x y (.u (.int .i64 a)) (.u (.int .i64 b)) = some (.u (.int .i64 (a * b))) := by rw [binP_mulW, i64_wrap h1 h2]
@[go_sem] theorem binP_eql : binP P .eql t x y (.u (.int k a)) (.u (.int k b)) = some (.u (.bool (decide (a = b)))) := by simp [binP, PV.val2, eqGuard, binOp, val_bind, val_pure, Op.intCmp, ofV]; rfl
@[go_sem] theorem binP_neq : binP P .neq t x y (.u (.int k a)) (.u (.int k b)) = some (.u (.bool (decide (¬ a = b)))) := by simp [binP, PV.val2, eqGuard, binOp, val_bind, val_pure, Op.intCmp, ofV]; rfl
@[go_sem] theorem binP_lss : binP P .lss t x y (.u (.int k a)) (.u (.int k b)) = some (.u (.bool (decide (a < b)))) := by simp [binP, PV.val2, eqGuard, binOp, val_bind, val_pure, Op.intCmp, ofV]
@[go_sem] theorem binP_leq : binP P .leq t x y (.u (.int k a)) (.u (.int k b)) = some (.u (.bool (decide (a ≤ b)))) := by simp [binP, PV.val2, eqGuard, binOp, val_bind, val_pure, Op.intCmp, ofV]
@[go_sem] theorem binP_gtr : binP P .gtr t x y (.u (.int k a)) (.u (.int k b)) = some (.u (.bool (decide (b < a)))) := by simp [binP, PV.val2, eqGuard, binOp, val_bind, val_pure, Op.intCmp, ofV]
@[go_sem] theorem binP_geq : binP P .geq t x y (.u (.int k a)) (.u (.int k b)) = some (.u (.bool (decide (b ≤ a)))) := by simp [binP, PV.val2, eqGuard, binOp, val_bind, val_pure, Op.intCmp, ofV]
@[go_sem] theorem unP_not (b : Bool) : unP P .not (.u (.bool b)) = some (.u (.bool (!b))) := by simp [unP, PV.val2, Op.unary, val_pure, ofV]
@[go_sem] theorem binP_eqlS (s u : ByteArray) : binP P .eql t x y (.u (.string s)) (.u (.string u)) = some (.u (.bool (s.toList == u.toList))) := by simp [binP, PV.val2, eqGuard, binOp, val_bind, val_pure, Op.stringOp, ofV]
@[go_sem] theorem binP_neqS (s u : ByteArray) : binP P .neq t x y (.u (.string s)) (.u (.string u)) = some (.u (.bool (!(s.toList == u.toList)))) := by simp [binP, PV.val2, eqGuard, binOp, val_bind, val_pure, Op.stringOp, ofV]

@[go_sem] theorem lenP_sl {k : Nat} (xs : List PV) (h : isSlice P t = true) : lenP P H t (.sl k xs) = some (.u (.int .i64 xs.length)) := by simp [lenP, h]
@[go_sem] theorem lenP_nil (a : Option Addr) (m c : Nat) (h : isSlice P t = true) : lenP P H t (.u (.slice a m c)) = some (.u (.int .i64 m)) := by simp [lenP, h]
@[go_sem] theorem lenP_str (s : ByteArray) (h : isStr P t = true) : lenP P H t (.u (.string s)) = some (.u (.int .i64 s.size)) := by simp [lenP, h]
@[go_sem] theorem lenP_ps (id ver : Nat) (h : isSlice P t = true) : lenP P H t (.ps id ver) = (liveRow H id ver).elim none fun q => some (.u (.int .i64 q.2.2.1)) := by simp only [lenP, h, if_true]; cases liveRow H id ver <;> rfl

/-! places -/
@[go_sem] theorem loadAtP_rp (cs : List PV) : loadAtP P H t (.rp cs) = (asz P t).elim none fun q => loadP q.1 q.2 cs := by unfold loadAtP; cases asz P t <;> rfl
@[go_sem] theorem loadAtP_pp (id off ver : Nat) : loadAtP P H t (.pp id off ver) = (asz P t).elim none fun q => (liveCells H id ver).elim none fun cs => loadP q.1 q.2 (cs.drop off) := by
  unfold loadAtP
  cases asz P t with
  | none => rfl
  | some q => obtain ⟨a, b⟩ := q; simp only [Option.elim]; cases liveCells H id ver <;> rfl
@[go_sem] theorem loadP_false (k : Nat) (cs : List PV) : loadP false k cs = cs[0]? := rfl
@[go_sem] theorem loadP_true (k : Nat) (cs : List PV) (h : k ≤ cs.length) : loadP true k cs = some (.agg (cs.take k)) := by simp [loadP, h]
@[go_sem] theorem fieldAddrP_rp {s f : Nat} (cs : List PV) : fieldAddrP P H s f (.rp cs) = (fof P s f).elim none fun q => (asz P q.2).elim none fun r => if r.2 = 0 then none else some (.rp (cs.drop q.1)) := by
  unfold fieldAddrP
  cases fof P s f with
  | none => rfl
  | some q => obtain ⟨a, b⟩ := q; simp only [Option.elim]; cases asz P b <;> rfl
@[go_sem] theorem fieldAddrP_pp {s f : Nat} (id o ver : Nat) : fieldAddrP P H s f (.pp id o ver) = (fof P s f).elim none fun q => (asz P q.2).elim none fun r => if r.2 = 0 then none else (liveCells H id ver).elim none fun _ => some (.pp id (o + q.1) ver) := by
  unfold fieldAddrP
  cases fof P s f with
  | none => rfl
  | some q => obtain ⟨a, b⟩ := q; simp only [Option.elim]; cases asz P b <;> cases liveCells H id ver <;> rfl
@[go_sem] theorem indexAddrP_sl {k : Nat} (h : esz P t = some k) (kd : IntKind) (z : Int) (h0 : 0 ≤ z) (xs : List PV) : indexAddrP P H t (.sl k xs) (.u (.int kd z)) = (xs[z.toNat]?).elim none fun y => some (.rp y.cells) := by simp only [indexAddrP, h, h0, if_true]; cases xs[z.toNat]? <;> rfl
@[go_sem] theorem indexAddrP_ps {id ver : Nat} (kd : IntKind) (z : Int) (h0 : 0 ≤ z) : indexAddrP P H t (.ps id ver) (.u (.int kd z)) = (liveRow H id ver).elim none fun q => if esz P t = some q.2.1 ∧ z.toNat < q.2.2.1 then some (.pp id (z.toNat * q.2.1) ver) else none := by simp only [indexAddrP, h0, if_true]; cases liveRow H id ver <;> rfl
@[go_sem] theorem indexAddrP_rp (kd : IntKind) (z : Int) (h0 : 0 ≤ z) (cs : List PV) : indexAddrP P H t (.rp cs) (.u (.int kd z)) = (arr P t).elim none fun q => if z.toNat < q.1 then some (.rp (cs.drop (z.toNat * q.2))) else none := by simp only [indexAddrP, h0, if_true]; cases arr P t <;> rfl
@[go_sem] theorem indexAddrP_pp (kd : IntKind) (z : Int) (h0 : 0 ≤ z) (id off ver : Nat) : indexAddrP P H t (.pp id off ver) (.u (.int kd z)) = (arr P t).elim none fun q => if z.toNat < q.1 then (liveCells H id ver).elim none fun _ => some (.pp id (off + z.toNat * q.2) ver) else none := by simp only [indexAddrP, h0, if_true]; cases arr P t <;> cases liveCells H id ver <;> rfl
@[go_sem] theorem indexP_str (h : isStr P t = true) (kd : IntKind) (z : Int) (h0 : 0 ≤ z) (s : ByteArray) : indexP P t (.u (.string s)) (.u (.int kd z)) = (s[z.toNat]?).elim none fun b => some (.u (.int .u8 b.toNat)) := by simp only [indexP, h, h0, if_true]; cases s[z.toNat]? <;> rfl
@[go_sem] theorem indexP_agg (kd : IntKind) (z : Int) (h0 : 0 ≤ z) (cs : List PV) : indexP P t (.agg cs) (.u (.int kd z)) = (arr P t).elim none fun q => (aelem P t).elim none fun e => if z.toNat < q.1 then partP P e cs (z.toNat * q.2) else none := by simp only [indexP, h0, true_and]; cases arr P t <;> cases aelem P t <;> rfl
@[go_sem] theorem partP_s (cs : List PV) (off : Nat) : partP P t cs off = (asz P t).elim none fun q => loadP q.1 q.2 (cs.drop off) := by unfold partP; cases asz P t <;> rfl
@[go_sem] theorem fieldP_agg {f : Nat} (cs : List PV) : fieldP P t f (.agg cs) = (fof P t f).elim none fun q => partP P q.2 cs q.1 := by unfold fieldP; cases fof P t f <;> rfl
@[go_sem] theorem cells_agg (cs : List PV) : (PV.agg cs).cells = cs := rfl
@[go_sem] theorem cells_u (v : Value) : (PV.u v).cells = [.u v] := rfl
@[go_sem] theorem cells_sl (k : Nat) (xs : List PV) : (PV.sl k xs).cells = [.sl k xs] := rfl
@[go_sem] theorem cells_ps (id ver : Nat) : (PV.ps id ver).cells = [.ps id ver] := rfl
@[go_sem] theorem cells_pp (id off ver : Nat) : (PV.pp id off ver).cells = [.pp id off ver] := rfl
@[go_sem] theorem cells_rp (cs : List PV) : (PV.rp cs).cells = [.rp cs] := rfl
def lcP : PBlk → Nat → Option (List PV)
  | ⟨v, some (.row _ _ _ cs)⟩, ver => if v = ver then some cs else none
  | ⟨v, some (.box _ cs)⟩, ver => if v = ver then some cs else none
  | _, _ => none
def lrP : PBlk → Nat → Option (TypeId × Nat × Nat × List PV)
  | ⟨v, some (.row t k n cs)⟩, ver => if v = ver then some (t, k, n, cs) else none
  | _, _ => none
@[go_sem] theorem liveCells_def (id ver : Nat) : liveCells H id ver = lcP (H id) ver := by
  unfold liveCells
  generalize H id = b
  obtain ⟨v, bd⟩ := b
  cases bd with
  | none => rfl
  | some bd => cases bd <;> rfl
@[go_sem] theorem liveRow_def (id ver : Nat) : liveRow H id ver = lrP (H id) ver := by
  unfold liveRow
  generalize H id = b
  obtain ⟨v, bd⟩ := b
  cases bd with
  | none => rfl
  | some bd => cases bd <;> rfl
@[go_sem] theorem lcP_row (v ver e k m : Nat) (cs : List PV) : lcP ⟨v, some (.row e k m cs)⟩ ver = if v = ver then some cs else none := rfl
@[go_sem] theorem lcP_box (v ver e : Nat) (cs : List PV) : lcP ⟨v, some (.box e cs)⟩ ver = if v = ver then some cs else none := rfl
@[go_sem] theorem lrP_row (v ver e k m : Nat) (cs : List PV) : lrP ⟨v, some (.row e k m cs)⟩ ver = if v = ver then some (e, k, m, cs) else none := rfl
@[go_sem] theorem nilP_rp (cs : List PV) : nilP H (.rp cs) = some (.rp cs) := rfl
@[go_sem] theorem nilP_pp (id off ver : Nat) : nilP H (.pp id off ver) = (liveCells H id ver).elim none fun _ => some (.pp id off ver) := by simp only [nilP]; cases liveCells H id ver <;> rfl
@[go_sem] theorem nilP_fn (f : Nat) (a b : List PV) : nilP H (.fn (.func f) a b) = some (.fn (.func f) a b) := rfl
end

theorem PC.condT {P : Program} {W : Env} {n : Nat} {F : PFrame} {H : PHeap} {Q : Exit → PFrame → PHeap → Prop} {c : Operand} {x y : Code} (hc : evP F c = .u (.bool true)) (h : PC P W n x F H Q) : PC P W n (.cond c x y) F H Q := PC.cond hc (fun _ => h) (fun e => by cases e)
theorem PC.condF {P : Program} {W : Env} {n : Nat} {F : PFrame} {H : PHeap} {Q : Exit → PFrame → PHeap → Prop} {c : Operand} {x y : Code} (hc : evP F c = .u (.bool false)) (h : PC P W n y F H Q) : PC P W n (.cond c x y) F H Q := PC.cond hc (fun e => by cases e) (fun _ => h)
theorem PL.done {P : Program} {W : Env} {n : Nat} {F : PFrame} {H : PHeap} {ops : Array Oper} {K K' : PFrame → PHeap → Prop} (hK : ∀ F H, K' F H → K F H) (h : K' F H) : PL P W n ops [] F H K := PL.nil (hK _ _ h)

/-- a function's contract, its number of slots as its own variable -/
theorem PCall.intro' {P : Program} {f : FuncId} {fn : Func} {c : Code} {n : Nat} {as : List PV} {R : PV → Prop} (hf : P.funcs[f]? = some fn) (hb : fn.body = some c) (hn : fn.ntmps = n) (hl : as.length ≤ n)
    (h : ∀ W : Env, PC P W n c (frame0 as) PHeap.empty fun e F H => (e = .normal ∨ e = .ret) ∧ ∃ q p, resP P fn F H = some q ∧ View H q p ∧ NoP p ∧ R p) : PCall P f as R := by
  subst hn
  exact PCall.intro hf hb hl h
theorem PCallOwn.intro' {P : Program} {f : FuncId} {fn : Func} {c : Code} {n : Nat} {as : List PV} {t : TypeId} {k : Nat} {R : Nat → List Value → Prop} (hf : P.funcs[f]? = some fn) (hb : fn.body = some c) (hn : fn.ntmps = n) (hl : as.length ≤ n)
    (h : ∀ W : Env, PC P W n c (frame0 as) PHeap.empty fun e F H => (e = .normal ∨ e = .ret) ∧ ∃ q, resP P fn F H = some q ∧ OwnR H q t k R) : PCallOwn P f as t k R := by
  subst hn
  exact PCallOwn.intro hf hb hl h
end Go.Proofs.Ytficeeaaaijgcaa.L
