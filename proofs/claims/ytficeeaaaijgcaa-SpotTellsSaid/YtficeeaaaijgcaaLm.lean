/-
  Calls as steps; NoP and View as rules for simp; ends of functions.
-/
import Derived.Test.YtficeeaaaijgcaaLk
namespace Go.Proofs.Ytficeeaaaijgcaa.L
open Go Go.RowKit
set_option linter.unusedVariables false
set_option linter.unusedSimpArgs false

abbrev I (z : Int) : PV := .u (.int .i64 z)
abbrev B (b : Bool) : PV := .u (.bool b)
abbrev S (s : ByteArray) : PV := .u (.string s)
abbrev U8 (b : Int) : PV := .u (.int .u8 b)

@[go_sem] theorem NoP_u (v : Value) : NoP (.u v) = True := eq_true (.u v)
@[go_sem] theorem NoP_agg (cs : List PV) : NoP (.agg cs) = ∀ c ∈ cs, NoP c := propext ⟨fun h => by cases h with | agg _ h => exact h, .agg cs⟩
@[go_sem] theorem NoP_tup (cs : List PV) : NoP (.tup cs) = ∀ c ∈ cs, NoP c := propext ⟨fun h => by cases h with | tup _ h => exact h, .tup cs⟩
@[go_sem] theorem NoP_sl (k : Nat) (cs : List PV) : NoP (.sl k cs) = ∀ c ∈ cs, NoP c := propext ⟨fun h => by cases h with | sl _ _ h => exact h, .sl k cs⟩
@[go_sem] theorem NoP_rp (cs : List PV) : NoP (.rp cs) = ∀ c ∈ cs, NoP c := propext ⟨fun h => by cases h with | rp _ h => exact h, .rp cs⟩
@[go_sem] theorem NoP_fn (f : Fn) (a b : List PV) : NoP (.fn f a b) = ((∀ c ∈ a, NoP c) ∧ ∀ c ∈ b, NoP c) := propext ⟨fun h => by cases h with | fn _ _ _ h1 h2 => exact ⟨h1, h2⟩, fun h => .fn f a b h.1 h.2⟩
@[go_sem] theorem Sc_u (v : Value) : Sc (.u v) = True := eq_true (.u v)
@[go_sem] theorem Sc_agg (cs : List PV) : Sc (.agg cs) = ∀ c ∈ cs, Sc c := propext ⟨fun h => by cases h with | agg _ h => exact h, .agg cs⟩
@[go_sem] theorem Sc_tup (cs : List PV) : Sc (.tup cs) = ∀ c ∈ cs, Sc c := propext ⟨fun h => by cases h with | tup _ h => exact h, .tup cs⟩

@[go_sem] theorem View_refl {H : PHeap} {p : PV} (h : NoP p) : View H p p = True := eq_true (View.noP h)
@[go_sem] theorem View_nil {H : PHeap} (k : Nat) : View H (.u (.slice none 0 0)) (.sl k []) = True := eq_true (View.nil k none 0)
@[go_sem] theorem ViewL_nil {H : PHeap} : ViewL H [] [] = True := eq_true (ViewL.nil H)
@[go_sem] theorem ViewL_cons {H : PHeap} (p q : PV) (ps qs : List PV) : ViewL H (p :: ps) (q :: qs) = (View H p q ∧ ViewL H ps qs) := propext ⟨fun h => ⟨h.2 0 p q rfl rfl, by have := h.1; simpa using this, fun i a b h1 h2 => h.2 (i + 1) a b (by simpa using h1) (by simpa using h2)⟩, fun h => .cons h.1 h.2⟩
/-- an own row of numbers, as simp finds it -/
theorem View_row1 {H : PHeap} {id ver v : Nat} {t n : Nat} {cs xs : List PV} (hH : H id = ⟨v, some (.row t 1 n cs)⟩) (hv : v = ver) (hx : xs = cs) (hn : cs.length = n) (h : ∀ c ∈ cs, NoP c ∧ c.cells = [c]) : View H (.ps id ver) (.sl 1 xs) := by
  subst hx
  exact View.row1 (t := t) (by simp [liveRow, hH, hv]) hn h

section
variable {P : Program} {W : Env} {n : Nat} {H : PHeap} {F : PFrame} {ops : Array Oper} {o : Oper} {l : List Oper}

theorem target_func (f : FuncId) (args : Array Operand) (ts : Array TypeId) : target F ⟨.value (.func f), args, ts⟩ = some (f, args.toList.map (evP F)) := by simp [target, evP]

/-- a call of a named function whose result is one of numbers and the like -/
theorem PL.call {K : PFrame → PHeap → Prop} {f : FuncId} {args : Array Operand} {ts : Array TypeId} {qs : List PV} {p0 : PV} (hg : o.guard = none) (ho : o.op = .call ⟨.value (.func f), args, ts⟩) (hf : goBody P f = true) (hc : PCall P f qs (· = p0)) (hd : dstOk n o) (hs : Sc p0) (hv : ViewL H (args.toList.map (evP F)) qs)
    (h : PL P W n ops l (F.put o.dst p0) H K) : PL P W n ops (o :: l) F H K :=
  PL.pe hg (PE.callA hd ho (target_func f args ts) hf hv hc (fun p e => e ▸ hs) fun p e => by subst e; exact h)
theorem PL.callB {K : PFrame → PHeap → Prop} {f : FuncId} {args : Array Operand} {ts : Array TypeId} {qs : List PV} {p0 : PV} (hg : o.guard = none) (ho : o.op = .call ⟨.value (.func f), args, ts⟩) (hf : goBody P f = true) (hc : PCall P f qs (· = p0)) (hd : dstOk n o) (hn : ∀ p ∈ args.toList.map (evP F), NoP p) (hv : ViewL PHeap.empty (args.toList.map (evP F)) qs)
    (h : PL P W n ops l (F.put o.dst p0) H K) : PL P W n ops (o :: l) F H K :=
  PL.pe hg (PE.callB hd ho (target_func f args ts) hf hv hn hc fun p e => by subst e; exact h)
theorem PL.callO {K : PFrame → PHeap → Prop} {f : FuncId} {args : Array Operand} {ts : Array TypeId} {qs : List PV} {t : TypeId} {k d m : Nat} {us : List Value} (hg : o.guard = none) (ho : o.op = .call ⟨.value (.func f), args, ts⟩) (hf : goBody P f = true) (hc : PCallOwn P f qs t k (fun a b => a = m ∧ b = us)) (hd : o.dst = some d) (hdn : d < n) (hv : ViewL H (args.toList.map (evP F)) qs)
    (h : PL P W n ops l (F.put (some d) (.ps d ((H d).ver + 1))) (H.set d ⟨(H d).ver + 1, some (.row t k m (us.map .u))⟩) K) : PL P W n ops (o :: l) F H K :=
  PL.pe hg (PE.callOwn hd hdn ho (target_func f args ts) hf hv hc fun a b e _ => by obtain ⟨rfl, rfl⟩ := e; rw [hd]; exact h)
theorem QF.callA {Q : PFrame → Prop} {f : FuncId} {args : Array Operand} {ts : Array TypeId} {qs : List PV} {p0 : PV} (hg : o.guard = none) (ho : o.op = .call ⟨.value (.func f), args, ts⟩) (hf : goBody P f = true) (hc : PCall P f qs (· = p0)) (hd : dstOk n o) (hs : Sc p0) (hv : ViewL H (args.toList.map (evP F)) qs)
    (h : wpQF P W n ops H Q l (F.put o.dst p0)) : wpQF P W n ops H Q (o :: l) F := QF.call hg hd (PQ.callA ho (target_func f args ts) hf hv hc hs) h
theorem QF.callB {Q : PFrame → Prop} {f : FuncId} {args : Array Operand} {ts : Array TypeId} {qs : List PV} {p0 : PV} (hg : o.guard = none) (ho : o.op = .call ⟨.value (.func f), args, ts⟩) (hf : goBody P f = true) (hc : PCall P f qs (· = p0)) (hd : dstOk n o) (hn : ∀ p ∈ args.toList.map (evP F), NoP p) (hv : ViewL PHeap.empty (args.toList.map (evP F)) qs)
    (h : wpQF P W n ops H Q l (F.put o.dst p0)) : wpQF P W n ops H Q (o :: l) F := QF.call hg hd (PQ.callB ho (target_func f args ts) hf hv hn hc) h
theorem QF.done {K K' : PFrame → PHeap → Prop} (hK : ∀ F H, K' F H → K F H) (h : K' F H) : wpQF P W n ops H (fun F' => K F' H) [] F := QF.nil (hK _ _ h)

theorem fin {fn : Func} {e : Exit} {p0 : PV} (he : e = .normal ∨ e = .ret) (h : resP P fn F H = some p0) (hn : NoP p0) : (e = .normal ∨ e = .ret) ∧ ∃ q p, resP P fn F H = some q ∧ View H q p ∧ NoP p ∧ p = p0 := ⟨he, p0, p0, h, View.noP hn, hn, rfl⟩
theorem finO {fn : Func} {e : Exit} {id ver t k m : Nat} {us : List Value} (he : e = .normal ∨ e = .ret) (h : resP P fn F H = some (.ps id ver)) (hl : liveRow H id ver = some (t, k, m, us.map .u)) : (e = .normal ∨ e = .ret) ∧ ∃ q, resP P fn F H = some q ∧ OwnR H q t k (fun a b => a = m ∧ b = us) := ⟨he, _, h, .inl ⟨id, ver, m, us, rfl, hl, rfl, rfl⟩⟩
end
end Go.Proofs.Ytficeeaaaijgcaa.L
