/-
  Texts of this proof, put together: LTab, Kit, Ty, Ga, Gb, Gc, Gd, Shelf, RiseFn, ShI, Ge, Gf, Gm, Gn, Go, Gp, Gq, Gr, Gs, Pa, Gt.
-/
import Derived.Test.YtpohfkgjghiofaaRows
import Derived.WalkKit
import Derived.Lib.Hide
import Derived.Outline
import Derived.Deep.QuietTactic
import Derived.BigQuiet
import Derived.WalkSmall
import Derived.StillTailTactics
import Derived.Scope
import Derived.Shelf.Small.Bits
import Derived.Shelf.Strconv.Itoa0
import Derived.Shelf.Sort.Plain
import Derived.Ground.Names2Prog
import Derived.Shelf.Slices.Clone
import Derived.Shelf.Slices.CompactI
import Derived.Shelf.Slices.SearchI
import Derived.Shelf.Slices.Cells
import Derived.Shelf.Slices.In.SortNone
import Derived.Ground.SlgnProg
import Derived.Shelf.SlicesE.Clone
import Derived.Test.YtpohfkgjghiofaaProg
import Derived.Lib.SlicesCompact
import Derived.Sort.OwnSortedInts
import Derived.Lib.OwnBridge
import Derived.MapKept
import Derived.Laws.StructEq
import Derived.Laws.BytesArg
import Derived.Test.YtpohfkgjghiofaaQ2LiveShown

namespace Go.Proofs.Ytpohfkgjghiofaa.L
open Go
@[go_sem] theorem qz : asz Try.prog 3 = some (false, 1) := by kernel_rfl
@[go_sem] theorem zc0 : asz Try.prog 4 = some (false, 1) := by kernel_rfl
@[go_sem] theorem Zm : asz Try.prog 5 = some (false, 1) := by kernel_rfl
@[go_sem] theorem zkh : asz Try.prog 9 = some (false, 1) := by kernel_rfl
@[go_sem] theorem qo : Y5 Try.prog 9 = true := by kernel_rfl
@[go_sem] theorem y5 : asz Try.prog 22 = some (true, 256) := by kernel_rfl
@[go_sem] theorem Yf : arr Try.prog 22 = some (256, 1) := by kernel_rfl
@[go_sem] theorem znk : zgh Try.prog 22 = some 5 := by kernel_rfl
@[go_sem] theorem zf7 : za9 Try.prog 22 = some (List.replicate 256 ((.int .u8 0))) := by kernel_rfl
@[go_sem] theorem qi : asz Try.prog 23 = some (false, 1) := by kernel_rfl
@[go_sem] theorem Jz : esz Try.prog 23 = some 1 := by kernel_rfl
@[go_sem] theorem vp : yv Try.prog 23 = true := by kernel_rfl
@[go_sem] theorem Qh : zh Try.prog 23 = some (24, 1, 24, .slice none 0 0) := by kernel_rfl
@[go_sem] theorem znd : za9 Try.prog 23 = some ([(.slice none 0 0)]) := by kernel_rfl
@[go_sem] theorem qh : asz Try.prog 24 = some (false, 1) := by kernel_rfl
@[go_sem] theorem vk : esz Try.prog 24 = some 1 := by kernel_rfl
@[go_sem] theorem ql : yv Try.prog 24 = true := by kernel_rfl
@[go_sem] theorem qj : zh Try.prog 24 = some (3, 1, 8, .int .i64 0) := by kernel_rfl
@[go_sem] theorem v7 : asz Try.prog 26 = some (true, 259) := by kernel_rfl
@[go_sem] theorem Q7 : fof Try.prog 26 0 = some (0, 22) := by kernel_rfl
@[go_sem] theorem Qk : fof Try.prog 26 1 = some (256, 3) := by kernel_rfl
@[go_sem] theorem vx : fof Try.prog 26 2 = some (257, 23) := by kernel_rfl
@[go_sem] theorem ze : fof Try.prog 26 3 = some (258, 24) := by kernel_rfl
@[go_sem] theorem Y8 : za9 Try.prog 26 = some (List.replicate 256 ((.int .u8 0)) ++ [(.int .i64 0), (.slice none 0 0), (.slice none 0 0)]) := by kernel_rfl
@[go_sem] theorem zca : asz Try.prog 32 = some (false, 1) := by kernel_rfl
@[go_sem] theorem Zz : esz Try.prog 32 = some 1 := by kernel_rfl
@[go_sem] theorem zgw : yv Try.prog 32 = true := by kernel_rfl
@[go_sem] theorem zd3 : zh Try.prog 32 = some (4, 1, 1, .bool false) := by kernel_rfl
@[go_sem] theorem esz_40 : esz Try.prog 40 = some 1 := by kernel_rfl
@[go_sem] theorem zlh : yv Try.prog 40 = true := by kernel_rfl
@[go_sem] theorem zka : zh Try.prog 40 = some (9, 1, 16, .string ⟨#[]⟩) := by kernel_rfl
@[go_sem] theorem zky : esz Try.prog 48 = some 1 := by kernel_rfl
@[go_sem] theorem zbn : zh Try.prog 48 = some (5, 1, 1, .int .u8 0) := by kernel_rfl
@[go_sem] theorem znj : asz Try.prog 50 = some (true, 2) := by kernel_rfl
@[go_sem] theorem zju : fof Try.prog 50 0 = some (0, 3) := by kernel_rfl
@[go_sem] theorem zko : fof Try.prog 50 1 = some (1, 9) := by kernel_rfl
@[go_sem] theorem zng : za9 Try.prog 50 = some ([(.int .i64 0), (.string ⟨#[]⟩)]) := by kernel_rfl
@[go_sem] theorem zm3 : esz Try.prog 51 = some 2 := by kernel_rfl
@[go_sem] theorem zlk : yv Try.prog 51 = true := by kernel_rfl
@[go_sem] theorem zgl : zh Try.prog 51 = some (50, 2, 24, .agg #[.int .i64 0, .string ⟨#[]⟩]) := by kernel_rfl
@[go_sem] theorem zi8 : esz Try.prog 52 = some 3 := by kernel_rfl
@[go_sem] theorem zla : yv Try.prog 52 = true := by kernel_rfl
@[go_sem] theorem zga : zh Try.prog 52 = some (59, 3, 48, .agg #[.string ⟨#[]⟩, .slice none 0 0, .int .i64 0]) := by kernel_rfl
@[go_sem] theorem zaz : asz Try.prog 53 = some (false, 1) := by kernel_rfl
@[go_sem] theorem Yw : esz Try.prog 53 = some 5 := by kernel_rfl
@[go_sem] theorem Jj : yv Try.prog 53 = true := by kernel_rfl
@[go_sem] theorem J8 : zh Try.prog 53 = some (97, 5, 40, .agg #[.int .i64 0, .int .u64 0, .int .u64 0, .int .u64 0, .int .u64 0]) := by kernel_rfl
@[go_sem] theorem zdg : fof Try.prog 59 1 = some (1, 53) := by kernel_rfl
@[go_sem] theorem y4 : asz Try.prog 62 = some (false, 1) := by kernel_rfl
@[go_sem] theorem zi0 : esz Try.prog 62 = some 4 := by kernel_rfl
@[go_sem] theorem zd : yv Try.prog 62 = true := by kernel_rfl
@[go_sem] theorem zbs : zh Try.prog 62 = some (82, 4, 32, .agg #[.int .u64 0, .int .u64 0, .int .u64 0, .int .u64 0]) := by kernel_rfl
@[go_sem] theorem Qv : asz Try.prog 64 = some (true, 5) := by kernel_rfl
@[go_sem] theorem Jd : fof Try.prog 64 0 = some (0, 62) := by kernel_rfl
@[go_sem] theorem zac : fof Try.prog 64 1 = some (1, 24) := by kernel_rfl
@[go_sem] theorem zdv : fof Try.prog 64 2 = some (2, 32) := by kernel_rfl
@[go_sem] theorem zbi : fof Try.prog 64 3 = some (3, 23) := by kernel_rfl
@[go_sem] theorem zd5 : fof Try.prog 64 4 = some (4, 24) := by kernel_rfl
@[go_sem] theorem zjs : za9 Try.prog 64 = some ([(.slice none 0 0), (.slice none 0 0), (.slice none 0 0), (.slice none 0 0), (.slice none 0 0)]) := by kernel_rfl
@[go_sem] theorem ziy : asz Try.prog 80 = some (false, 1) := by kernel_rfl
@[go_sem] theorem qy : asz Try.prog 82 = some (true, 4) := by kernel_rfl
@[go_sem] theorem zi3 : arr Try.prog 82 = some (4, 1) := by kernel_rfl
@[go_sem] theorem Qr : za9 Try.prog 82 = some ([(.int .u64 0), (.int .u64 0), (.int .u64 0), (.int .u64 0)]) := by kernel_rfl
@[go_sem] theorem esz_90 : esz Try.prog 90 = some 1 := by kernel_rfl
@[go_sem] theorem zc6 : yv Try.prog 90 = true := by kernel_rfl
@[go_sem] theorem zaa : zh Try.prog 90 = some (53, 1, 24, .slice none 0 0) := by kernel_rfl
@[go_sem] theorem Qf : asz Try.prog 95 = some (false, 1) := by kernel_rfl
@[go_sem] theorem asz_97 : asz Try.prog 97 = some (true, 5) := by kernel_rfl
@[go_sem] theorem Ya : fof Try.prog 97 0 = some (0, 95) := by kernel_rfl
@[go_sem] theorem zj3 : fof Try.prog 97 1 = some (1, 82) := by kernel_rfl
@[go_sem] theorem zfv : asz Try.prog 115 = some (true, 2) := by kernel_rfl
@[go_sem] theorem zma : za9 Try.prog 115 = some ([(.int .u8 0), (.bool false)]) := by kernel_rfl
theorem mixed : Try.prog.follows .mixedOrders = true := by kernel_rfl
end Go.Proofs.Ytpohfkgjghiofaa.L

namespace Go.Proofs.Ytpohfkgjghiofaa
open Go.RowKit
section
variable {α : Type}
def Rd (enc : α → Value) (w : World) (v : Value) (l : List α) : Prop :=
  ∃ (a : Option Addr) (c : Nat), v = .slice a l.length c ∧ ∀ (j : Nat) (h : j < l.length), ∃ b o, a = some ⟨b, o, none⟩ ∧ w.cell? ⟨b, o + j, none⟩ = some (enc l[j])
def Ow (enc : α → Value) (e : TypeId) (w : World) (B : Nat) (v : Value) (l : List α) : Prop := w.ownsRow B e 1 v l.length (l.map enc)
variable {enc : α → Value} {e : TypeId}
theorem Rd_nil (w : World) (a : Option Addr) (c : Nat) : Rd enc w (.slice a 0 c) [] := ⟨a, c, rfl, fun j h => by cases h⟩
theorem Rd.shape {w : World} {v : Value} {l : List α} (h : Rd enc w v l) : ∃ a c, v = .slice a l.length c := by
  obtain ⟨a, c, rfl, _⟩ := h
  exact ⟨_, _, rfl⟩
theorem Ow_nil (w : World) (B : Nat) : Ow enc e w B (.slice none 0 0) [] := World.ownsRow_nil w B _ 1
end
abbrev RdI := Rd (Value.int .i64)
abbrev OwI := Ow (Value.int .i64) 3
end Go.Proofs.Ytpohfkgjghiofaa

namespace Go.Proofs.Ytpohfkgjghiofaa
open Go Go.RowKit L
set_option linter.unusedVariables false
set_option linter.unusedSimpArgs false
def slI (l : List Int) : PV := .sl 1 (l.map I)
theorem ye (l : List Int) : NoP (slI l) := .sl _ _ fun c hc => by obtain ⟨z, _, rfl⟩ := List.mem_map.1 hc; exact .u _
def slB (l : List Bool) : PV := .sl 1 (l.map B)
def qk (l : List (List Int)) : PV := .sl 1 (l.map slI)
theorem zcl (l : List Bool) : NoP (slB l) := .sl _ _ fun c hc => by obtain ⟨z, _, rfl⟩ := List.mem_map.1 hc; exact .u _
theorem zb3 (l : List (List Int)) : NoP (qk l) := .sl _ _ fun c hc => by obtain ⟨z, _, rfl⟩ := List.mem_map.1 hc; exact ye _
theorem rd_of {α : Type} {f : α → PV} {enc : α → Value} (hf : ∀ x, f x = .u (enc x)) {Z : ZM} {w : World} {l : List α} {v : Value} (h : Rp Z PHeap.empty V0 w (.sl 1 (l.map f)) v) : Rd enc w v l := by
  have hfl : (l.map f).flatMap PV.cells = l.map f := by
    clear h
    induction l with
    | nil => rfl
    | cons x l ih => rw [List.map_cons, List.flatMap_cons, ih, hf x]; rfl
  generalize hx : l.map f = xs at h hfl
  cases h with
  | nil k a c =>
    have : l = [] := List.map_eq_nil_iff.1 hx
    subst this
    exact Rd_nil _ _ _
  | sl k xs b o c g hu hlen hz hb h1 h2 =>
    subst hx
    refine ⟨_, c, by rw [List.length_map], fun j hj => ⟨b, o, rfl, ?_⟩⟩
    have hj' : ((l.map f).flatMap PV.cells)[j]? = some (f l[j]) := by rw [hfl]; simp [hj]
    rw [h1 j _ hj']
    have := h2 j _ hj'
    rw [hf] at this
    generalize g j = q at this
    cases this
    rfl
theorem rpu {Z : ZM} {H : PHeap} {V : Nat → Value} {w : World} {u v : Value} (h : Rp Z H V w (.u u) v) : v = u := by cases h; rfl
theorem zoq {Z : ZM} {H : PHeap} {V : Nat → Value} {w : World} {p : PV} {vs : List Value} (h : RpL Z H V w [p] vs) : ∃ v, vs = [v] ∧ Rp Z H V w p v := by
  have h1 := h.1
  match vs, h1 with
  | [v], _ => exact ⟨v, rfl, h.2 0 p v rfl rfl⟩
def ownL {α : Type} (e k : Nat) (rep : α → PV) (H : PHeap) (id : Nat) (q : PV) (l : List α) : Prop := OwnS H e k id q l.length ((l.map rep).flatMap PV.cells)
theorem cells1 {α : Type} {rep : α → PV} (h : ∀ x, (rep x).cells = [rep x]) (l : List α) : (l.map rep).flatMap PV.cells = l.map rep := by
  induction l with
  | nil => rfl
  | cons m ms ih => rw [List.map_cons, List.flatMap_cons, ih, h]; rfl
theorem ownL.nil {α : Type} {e k : Nat} {rep : α → PV} (H : PHeap) (id : Nat) : ownL e k rep H id (.u (.slice none 0 0)) [] := OwnS.nil H e k id
theorem ownL.mono {α : Type} {e k id : Nat} {rep : α → PV} {H H' : PHeap} {q : PV} {l : List α} (h : ownL e k rep H id q l) (he : H' id = H id) : ownL e k rep H' id q l := OwnS.mono h he
section
variable {P : Program} {W : Env} {n : Nat} {F : PFrame} {H : PHeap} {o : Oper} {l : List Oper} {ops : Array Oper} {K : PFrame → PHeap → Prop}
theorem PL.appendL {α : Type} {rep : α → PV} {s x : Operand} {t e : TypeId} {k b d id : Nat} {z : Value} {q : PV} {xs ys : List α} (hg : o.guard = none) (ho : o.op = .call { callee := .builtin .append, args := #[s, x], argTypes := #[t, t] }) (hd : o.dst = some d) (hdn : d < n) (ht : zh P t = some (e, k, b, z))
    (hs : evP F s = q) (hr : ownL e k rep H id q xs) (hp : evP F x = .sl k (ys.map rep)) (hk : ∀ x, (rep x).cells.length = k) (hleaf : ∀ x, ∀ c ∈ (rep x).cells, ya H c = true) (h63 : xs.length + ys.length ≤ maxLen) (hbytes : (xs.length + ys.length) * b ≤ 140737488355328)
    (h : ∀ q' H', ownL e k rep H' id q' (xs ++ ys) → (∀ j, j ≠ id → H' j = H j) → PL P W n ops l (F.put (some d) q') H' K) : PL P W n ops (o :: l) F H K := by
  have hfl : ((ys.map rep).flatMap PV.cells).length = ys.length * k := by
    have := L.flat_length (k := k) (ys.map rep) (fun y hy => by obtain ⟨z, _, rfl⟩ := List.mem_map.1 hy; exact hk z)
    simpa using this
  refine PL.appendO (m2 := ys.length) (cs2 := (ys.map rep).flatMap PV.cells) hg ho hd hdn ht hs hr hp (by simp [zdp]) hfl (fun p hp => ?_) h63 hbytes fun q' H' h1 o1 => h q' H' ?_ o1
  · obtain ⟨y, hy, hc⟩ := List.mem_flatMap.1 hp
    obtain ⟨z, _, rfl⟩ := List.mem_map.1 hy
    exact hleaf z p hc
  · unfold ownL
    rw [List.length_append, List.map_append, List.flatMap_append]
    exact h1
theorem Rel.freezeO {a : Act} {w : World} {V : Nat → Value} {s e k id m : Nat} {q : PV} {cs : List PV} (hr : Rel P W n F H V a w) (hs : F s = q) (ho : OwnS H e k id q m cs) (xs : List PV) (hx : xs.flatMap PV.cells = cs) (hu : ∀ y ∈ xs, y.cells.length = k) (hm : xs.length = m) :
    ∃ H', (∀ j, j ≠ id → H' j = H j) ∧ Rel P W n (F.put (some s) (.sl k xs)) H' V a w := by
  rcases ho.2 with ⟨rfl, h0⟩ | ⟨v, rfl, h2⟩
  · refine ⟨H, fun _ _ => rfl, hr.heap, hr.size, hr.defers, fun t => ?_⟩
    have : xs = [] := List.eq_nil_of_length_eq_zero (by omega)
    subst this
    by_cases e : s = t
    · subst e
      have := hr.slot s
      rw [hs] at this
      generalize a.tmps.getD s undef = u at this
      cases this
      simp only [PFrame.put, if_true]
      exact .nil _ _ _
    · have e2 : ¬ (some s = some t) := by simpa using e
      simp only [PFrame.put, if_neg e2]
      exact hr.slot t
  · exact ⟨_, fun j hj => by simp [PHeap.set, hj], hr.freeze hs h2 xs hx hu hm⟩
theorem PC.freezeL {α : Type} {rep : α → PV} {c : Code} {Q : Exit → PFrame → PHeap → Prop} {e k id : Nat} {q : PV} {xs : List α} (s : Nat) (hs : F s = q) (ho : ownL e k rep H id q xs) (hk : ∀ x, (rep x).cells.length = k)
    (h : ∀ H', (∀ j, j ≠ id → H' j = H j) → PC P W n c (F.put (some s) (.sl k (xs.map rep))) H' Q) : PC P W n c F H Q := fun V a w Q' hr hQ => by
  obtain ⟨H', h1, h2⟩ := Rel.freezeO hr hs ho (xs.map rep) rfl (fun y hy => by obtain ⟨z, _, rfl⟩ := List.mem_map.1 hy; exact hk z) (by simp)
  exact h H' h1 V a w Q' h2 hQ
end
end Go.Proofs.Ytpohfkgjghiofaa

namespace Go.Proofs.Ytpohfkgjghiofaa.L
open Go
set_option linter.unusedVariables false
set_option linter.unusedSimpArgs false
abbrev G (α : Type) := Nat → Option α
def G.pure {α : Type} (a : α) : G α := fun _ => some a
def G.lift {α : Type} (o : Option α) : G α := fun _ => o
def G.bind {α β : Type} (m : G α) (f : α → G β) : G β := fun n => (m n).bind fun a => f a n
def G.cond {α : Type} (b : Bool) (x y : G α) : G α := fun n => match b with | true => x n | false => y n
def qw {σ α : Type} (B : σ → Option (σ ⊕ α)) : Nat → σ → Option α
  | 0, _ => none
  | k + 1, s => match B s with
    | none => none
    | some (.inl s') => qw B k s'
    | some (.inr a) => some a
def G.loop {σ α : Type} (body : σ → G (σ ⊕ α)) (s : σ) : G α := fun n => qw (fun s => body s n) n s
theorem G.bind_some {α β : Type} {m : G α} {f : α → G β} {n : Nat} {r : β} (h : G.bind m f n = some r) : ∃ a, m n = some a ∧ f a n = some r := by
  unfold G.bind at h
  cases hm : m n with
  | none => rw [hm] at h; cases h
  | some a => rw [hm] at h; exact ⟨a, rfl, h⟩
theorem G.pure_some {α : Type} {a r : α} {n : Nat} (h : G.pure a n = some r) : a = r := by cases h; rfl
theorem G.cond_some {α : Type} {b : Bool} {x y : G α} {n : Nat} {r : α} (h : G.cond b x y n = some r) : (b = true ∧ x n = some r) ∨ (b = false ∧ y n = some r) := by
  cases b
  · exact .inr ⟨rfl, h⟩
  · exact .inl ⟨rfl, h⟩
theorem G.loop_some {σ α : Type} {body : σ → G (σ ⊕ α)} {s : σ} {n : Nat} {r : α} (h : G.loop body s n = some r) : ∃ B : σ → Option (σ ⊕ α), (∀ s, B s = body s n) ∧ qw B n s = some r := ⟨_, fun _ => rfl, h⟩
theorem jw {σ α : Type} {B : σ → Option (σ ⊕ α)} {k : Nat} {s : σ} {r : α} (h : qw B k s = some r) : ∃ k', k = k' + 1 ∧ ∃ x, B s = some x ∧ (match x with | .inl s' => qw B k' s' = some r | .inr a => a = r) := by
  cases k with
  | zero => cases h
  | succ k =>
    refine ⟨k, rfl, ?_⟩
    rw [qw] at h
    cases hb : B s with
    | none => rw [hb] at h; cases h
    | some x =>
      rw [hb] at h
      refine ⟨x, rfl, ?_⟩
      cases x with
      | inl s' => exact h
      | inr a => cases h; rfl
def Tot {α : Type} (x : G α) (Q : α → Prop) : Prop := ∃ a N, (∀ n, N ≤ n → x n = some a) ∧ Q a
theorem Tot.mono {α : Type} {x : G α} {Q Q' : α → Prop} (h : Tot x Q) (hq : ∀ a, Q a → Q' a) : Tot x Q' := by
  obtain ⟨a, N, h1, h2⟩ := h
  exact ⟨a, N, h1, hq a h2⟩
theorem Tot.pure {α : Type} {a : α} {Q : α → Prop} (h : Q a) : Tot (G.pure a) Q := ⟨a, 0, fun _ _ => rfl, h⟩
theorem Tot.lift {α : Type} {o : Option α} {a : α} {Q : α → Prop} (ho : o = some a) (h : Q a) : Tot (G.lift o) Q := ⟨a, 0, fun _ _ => ho, h⟩
theorem Tot.bind {α β : Type} {m : G α} {f : α → G β} {Q : β → Prop} (h : Tot m fun a => Tot (f a) Q) : Tot (G.bind m f) Q := by
  obtain ⟨a, N, h1, b, M, h2, hq⟩ := h
  refine ⟨b, max N M, fun n hn => ?_, hq⟩
  unfold G.bind
  rw [h1 n (by omega)]
  exact h2 n (by omega)
theorem Tot.bindE {α β : Type} {m : G α} {f : α → G β} {Q : β → Prop} {a : α} (hm : Tot m (· = a)) (h : Tot (f a) Q) : Tot (G.bind m f) Q := .bind (hm.mono fun b hb => hb ▸ h)
theorem Tot.cond {α : Type} {b : Bool} {x y : G α} {Q : α → Prop} (h1 : b = true → Tot x Q) (h2 : b = false → Tot y Q) : Tot (G.cond b x y) Q := by
  cases b
  · exact h2 rfl
  · exact h1 rfl
theorem Tot.loop {σ α : Type} {body : σ → G (σ ⊕ α)} {Q : α → Prop} (J : σ → Prop) (μ : σ → Nat)
    (h : ∀ s, J s → Tot (body s) fun r => match r with | .inl s' => J s' ∧ μ s' < μ s | .inr a => Q a) {s : σ} (h0 : J s) : Tot (G.loop body s) Q := by
  have key : ∀ (m : Nat) (s : σ), μ s < m → J s → ∃ a N, (∀ n, N ≤ n → ∀ k, N ≤ k → qw (fun s => body s n) k s = some a) ∧ Q a := by
    intro m
    induction m with
    | zero => intro s h; omega
    | succ m ih =>
      intro s hm hJ
      obtain ⟨r, N, h1, h2⟩ := h s hJ
      cases r with
      | inl s' =>
        obtain ⟨a, M, h3, h4⟩ := ih s' (by omega) h2.1
        refine ⟨a, max N (M + 1), fun n hn k hk => ?_, h4⟩
        obtain ⟨k, rfl⟩ : ∃ k', k = k' + 1 := ⟨k - 1, by omega⟩
        rw [qw, h1 n (by omega)]
        exact h3 n (by omega) k (by omega)
      | inr a =>
        refine ⟨a, max N 1, fun n hn k hk => ?_, h2⟩
        obtain ⟨k, rfl⟩ : ∃ k', k = k' + 1 := ⟨k - 1, by omega⟩
        rw [qw, h1 n (by omega)]
  obtain ⟨a, N, h1, h2⟩ := key (μ s + 1) s (by omega) h0
  exact ⟨a, N, fun n hn => h1 n hn n hn, h2⟩
theorem Tot.run {α : Type} {x : G α} {a : α} (h : Tot x (· = a)) : ∃ n, x n = some a := by
  obtain ⟨b, N, h1, h2⟩ := h
  exact ⟨N, h2 ▸ h1 N (Nat.le_refl _)⟩
theorem G.ct {α : Type} (x y : G α) : G.cond true x y = x := rfl
theorem G.cf {α : Type} (x y : G α) : G.cond false x y = y := rfl
def w64 (z : Int) : Int := IntKind.i64.wrap z
theorem w64_of {z : Int} (h1 : -9223372036854775808 ≤ z) (h2 : z ≤ 9223372036854775807) : w64 z = z := zg6 h1 h2
def idx {α : Type} (l : List α) (z : Int) : Option α := if 0 ≤ z then l[z.toNat]? else none
theorem y6 {α : Type} {l : List α} {z : Int} {x : α} (h : idx l z = some x) : 0 ≤ z ∧ l[z.toNat]? = some x := by
  unfold idx at h; split at h
  · exact ⟨by assumption, h⟩
  · cases h
theorem zah {α : Type} {l : List α} {k : Nat} {x : α} (h : l[k]? = some x) : idx l (k : Int) = some x := by unfold idx; simp [h]
end Go.Proofs.Ytpohfkgjghiofaa.L

namespace Go.Proofs.Ytpohfkgjghiofaa.L
open Go Go.RowKit
set_option linter.unusedVariables false
set_option linter.unusedSimpArgs false
def gv (c : Bool) (p : PV) : PV := match c with | true => p | false => .u undef
theorem gvp {c : Bool} {x p : PV} (hc : c = true) (h : x = gv c p) : x = p := by subst hc; exact h
theorem G.cond_pos {α : Type} {b : Bool} {x y : G α} {n : Nat} {r : α} (h : G.cond b x y n = some r) (hb : b = true) : x n = some r := by subst hb; exact h
section
variable {P : Program} {W : Env} {n : Nat} {H : PHeap} {F : PFrame} {ops : Array Oper} {o : Oper} {l : List Oper}
theorem j4 {d : Nat} {op : Op} {ty : Nat} {pos : String} {af : Array Edge} {g : Option (Nat × Bool)} (h : d < n) : y7 n ⟨some d, op, ty, pos, af, g⟩ := fun t ht => by cases ht; exact h
theorem PL.q {K : PFrame → PHeap → Prop} {p : PV} (hg : o.guard = none) (hd : y7 n o) (hp : qu P H F o = some p) (h : PL P W n ops l (F.put o.dst p) H K) : PL P W n ops (o :: l) F H K :=
  PL.cons (by unfold vd; rw [hg]) (PE.quiet hd (ju hp) h)
theorem QF.q {Q : PFrame → Prop} {p : PV} (hg : o.guard = none) (hd : y7 n o) (hp : qu P H F o = some p) (h : Qg P W n ops H Q l (F.put o.dst p)) : Qg P W n ops H Q (o :: l) F :=
  ⟨hd, .inl ⟨by unfold vd; rw [hg], p, ju hp, h⟩⟩
theorem PL.qq {K : PFrame → PHeap → Prop} {p : PV} (hg : o.guard = none) (hd : y7 n o) (hp : PQ P W o F H p) (h : PL P W n ops l (F.put o.dst p) H K) : PL P W n ops (o :: l) F H K :=
  PL.cons (by unfold vd; rw [hg]) (PE.quiet hd hp h)
theorem QF.qq {Q : PFrame → Prop} {p : PV} (hg : o.guard = none) (hd : y7 n o) (hp : PQ P W o F H p) (h : Qg P W n ops H Q l (F.put o.dst p)) : Qg P W n ops H Q (o :: l) F :=
  ⟨hd, .inl ⟨by unfold vd; rw [hg], p, hp, h⟩⟩
theorem zil {j d : Nat} {want : Bool} (hg : o.guard = some (j, want)) (hj : (ops[j]?).bind (·.dst) = some d) {c b : Bool} (hF : F d = gv c (.u (.bool b))) : vd ops o F = some (c && (b == want)) := by
  unfold vd; rw [hg]; simp only [hj, hF]
  cases c
  · rfl
  · rfl
theorem PL.gq {K : PFrame → PHeap → Prop} {p : PV} {j d : Nat} {want c b c' : Bool} (hg : o.guard = some (j, want)) (hj : (ops[j]?).bind (·.dst) = some d) (hF : F d = gv c (.u (.bool b))) (hc : (c && (b == want)) = c') (hd : y7 n o) (hp : c' = true → PQ P W o F H p) (h : PL P W n ops l (F.put o.dst (gv c' p)) H K) : PL P W n ops (o :: l) F H K := by
  have hw := zil (o := o) hg hj hF
  rw [hc] at hw
  cases c'
  · exact PL.skip hw hd h
  · exact PL.cons hw (PE.quiet hd (hp rfl) h)
theorem QF.gq {Q : PFrame → Prop} {p : PV} {j d : Nat} {want c b c' : Bool} (hg : o.guard = some (j, want)) (hj : (ops[j]?).bind (·.dst) = some d) (hF : F d = gv c (.u (.bool b))) (hc : (c && (b == want)) = c') (hd : y7 n o) (hp : c' = true → PQ P W o F H p) (h : Qg P W n ops H Q l (F.put o.dst (gv c' p))) : Qg P W n ops H Q (o :: l) F := by
  have hw := zil (o := o) hg hj hF
  rw [hc] at hw
  cases c'
  · exact ⟨hd, .inr ⟨hw, h⟩⟩
  · exact ⟨hd, .inl ⟨hw, p, hp rfl, h⟩⟩
theorem zor (b : Bool) : (true && (b == true)) = b := by cases b <;> rfl
theorem zoh (b : Bool) : (true && (b == false)) = !b := by cases b <;> rfl
theorem Jo (c b : Bool) : (c && (b == true)) = (c && b) := by cases b <;> rfl
theorem zm (c b : Bool) : (c && (b == false)) = (c && !b) := by cases b <;> rfl
theorem PC.absF {c : Code} {Q : Exit → PFrame → PHeap → Prop} (M : PFrame → Prop) (h1 : M F) (h2 : ∀ F, M F → PC P W n c F H Q) : PC P W n c F H Q := h2 F h1
theorem PC.condTb {Q : Exit → PFrame → PHeap → Prop} {c : Operand} {x y : Code} {b : Bool} (hc : evP F c = .u (.bool b)) (hb : b = true) (h : PC P W n x F H Q) : PC P W n (.cond c x y) F H Q := PC.condT (by rw [hc, hb]) h
theorem PC.condFb {Q : Exit → PFrame → PHeap → Prop} {c : Operand} {x y : Code} {b : Bool} (hc : evP F c = .u (.bool b)) (hb : b = false) (h : PC P W n y F H Q) : PC P W n (.cond c x y) F H Q := PC.condF (by rw [hc, hb]) h
def zoj (Q : Exit → PFrame → PHeap → Prop) : Exit → PFrame → PHeap → Prop
  | .goto _, _, _ => False
  | e, F, H => Q e F H
theorem PC.scope {c : Code} {Q : Exit → PFrame → PHeap → Prop} (h : PC P W n c F H (zoj Q)) : PC P W n (.scope c) F H Q := fun V a w Q' hr hQ =>
  wp_scope_straight (h V a w _ hr fun e F' H' V' a' w' hq hr' => by
    cases e <;> first | exact hQ _ _ _ _ _ _ hq hr' | exact hq.elim)
theorem PC.label {i : Nat} {Q : Exit → PFrame → PHeap → Prop} (h : Q .normal F H) : PC P W n (.label i) F H Q := fun V a w Q' hr hQ => wp_label (hQ _ _ _ _ _ _ h hr)
theorem am0 : ([] : List Operand).map (evP F) = [] := rfl
theorem am {x : Operand} {xs : List Operand} {p : PV} {ps : List PV} (h : evP F x = p) (hs : xs.map (evP F) = ps) : (x :: xs).map (evP F) = p :: ps := by rw [List.map_cons, h, hs]
theorem j2 : ∀ p ∈ ([] : List PV), NoP p := fun p h => by cases h
theorem js {p : PV} {ps : List PV} (h : NoP p) (hs : ∀ p ∈ ps, NoP p) : ∀ q ∈ p :: ps, NoP q := fun q hq => by
  rcases List.mem_cons.1 hq with e | hq
  · rw [e]; exact h
  · exact hs q hq
theorem ViewL.noPs {ps : List PV} (h : ∀ p ∈ ps, NoP p) : ViewL PHeap.empty ps ps := ⟨rfl, fun i p q h1 h2 => by
  rw [h1] at h2; cases h2
  exact View.noP (h p (List.mem_of_getElem? h1))⟩
theorem j0 {f : FuncId} {d : Option Nat} {args : Array Operand} {ts : Array TypeId} {ty : Nat} {pos : String} {af : Array Edge} {g : Option (Nat × Bool)} {qs : List PV} {p0 : PV} (hf : Vj P f = true) (ha : args.toList.map (evP F) = qs) (hn : ∀ p ∈ qs, NoP p) (hc : PCall P f qs (· = p0)) : PQ P W ⟨d, .call ⟨.value (.func f), args, ts⟩, ty, pos, af, g⟩ F H p0 :=
  PQ.callB rfl (by rw [J2, ha]) hf (ViewL.noPs hn) hn hc
theorem callv {f : FuncId} {x : Operand} {A B : List PV} {d : Option Nat} {args : Array Operand} {ts : Array TypeId} {ty : Nat} {pos : String} {af : Array Edge} {g : Option (Nat × Bool)} {qs : List PV} {p0 : PV} (hx : evP F x = .fn (.func f) A B) (hf : Vj P f = true) (ha : args.toList.map (evP F) = qs) (hn : ∀ p ∈ A ++ qs ++ B, NoP p) (hc : PCall P f (A ++ qs ++ B) (· = p0)) : PQ P W ⟨d, .call ⟨.value x, args, ts⟩, ty, pos, af, g⟩ F H p0 :=
  PQ.callB rfl (by simp only [Z2, hx, ha]) hf (ViewL.noPs hn) hn hc
theorem j9 {fn : Func} {s : Nat} {p : PV} (hr : fn.results = #[.tmp s]) (h : F s = p) : zco P fn F H = some p := by
  unfold zco; rw [hr]; simp [Vc, h]
theorem zt {fn : Func} {ss : List Nat} {ps : List PV} (hr : fn.results = (ss.map .tmp).toArray) (h2 : 2 ≤ ss.length) (h : ss.map F = ps) : zco P fn F H = some (.tup ps) := by
  have hm : ∀ (l : List Nat), (l.map ResultVar.tmp).mapM (Vc P H F) = some (l.map F) := by
    intro l
    induction l with
    | nil => rfl
    | cons x xs ih => rw [List.map_cons, List.mapM_cons, ih]; rfl
  have hl : fn.results.toList = ss.map .tmp := by rw [hr]
  unfold zco
  rw [hl]
  match ss, h2 with
  | a :: b :: r, _ =>
    rw [List.map_cons, List.map_cons]
    simp only
    rw [← List.map_cons, ← List.map_cons, hm, h]; rfl
end
section
variable {P : Program} {H : PHeap} {F : PFrame} {d ty : Nat} {pos : String} {af : Array Edge} {g : Option (Nat × Bool)} {x y : Operand} {t t' : Nat} {k : IntKind} {a b : Int}
theorem jb {p : PV} (hx : evP F x = p) : qu P H F ⟨some d, .move x, ty, pos, af, g⟩ = some p := congrArg some hx
theorem jf {p : PV} (hx : evP F x = p) : qu P H F ⟨some d, .assign x, ty, pos, af, g⟩ = some p := congrArg some hx
theorem vt {c : Operand} {p q : Bool} (hc : evP F c = .u (.bool p)) (hx : evP F x = gv p (.u (.bool q))) (hy : evP F y = .u (.bool false)) : qu P H F ⟨some d, .pick c x y, ty, pos, af, g⟩ = some (.u (.bool (p && q))) := by
  rw [zhc, hc, hx, hy, zlu]
  cases p <;> rfl
theorem yf {c : Operand} {p q : Bool} (hc : evP F c = .u (.bool p)) (hx : evP F x = .u (.bool true)) (hy : evP F y = gv (!p) (.u (.bool q))) : qu P H F ⟨some d, .pick c x y, ty, pos, af, g⟩ = some (.u (.bool (p || q))) := by
  rw [zhc, hc, hx, hy, zlu]
  cases p <;> rfl
theorem Vx {c : Operand} {w p q : Bool} (hw : w = true) (hc : evP F c = .u (.bool p)) (hx : evP F x = gv (w && p) (.u (.bool q))) (hy : evP F y = .u (.bool false)) : qu P H F ⟨some d, .pick c x y, ty, pos, af, g⟩ = some (.u (.bool (p && q))) := by
  subst hw; exact vt hc hx hy
theorem zgs {c : Operand} {w p q : Bool} (hw : w = true) (hc : evP F c = .u (.bool p)) (hx : evP F x = .u (.bool true)) (hy : evP F y = gv (w && !p) (.u (.bool q))) : qu P H F ⟨some d, .pick c x y, ty, pos, af, g⟩ = some (.u (.bool (p || q))) := by
  subst hw; exact yf hc hx hy
def zjh (P : Program) (t : Nat) : Operand → Bool
  | .const (.slice none 0 0) => false
  | .const (.pointer none) => false
  | _ => true
theorem zle {op : BinOp} (hy : zjh P t y = true) : znt P H F op t x y = z6 P op t x y (evP F x) (evP F y) := by
  unfold znt
  split
  · simp [zjh] at hy
  · simp [zjh] at hy
  · rfl
theorem jh {op : BinOp} {p q r : PV} (hy : zjh P t y = true) (h1 : evP F x = p) (h2 : evP F y = q) (h : z6 P op t x y p q = some r) : qu P H F ⟨some d, .binOp op t x y t', ty, pos, af, g⟩ = some r := by
  rw [zj0, zle hy, h1, h2, h]
theorem j3 : z6 P .add t x y (.u (.int .i64 a)) (.u (.int .i64 b)) = some (.u (.int .i64 (w64 (a + b)))) := zl8
theorem Jb : z6 P .sub t x y (.u (.int .i64 a)) (.u (.int .i64 b)) = some (.u (.int .i64 (w64 (a - b)))) := zl9
theorem b_neB (p q : Bool) (ht : P.underlying t = some .bool) : z6 P .neq t x y (.u (.bool p)) (.u (.bool q)) = some (.u (.bool (p != q))) := by
  have he : (Op.equal t (.bool p) (.bool q)).val P = some (p == q) := by
    unfold Op.equal Op.maxDepth Op.equalIn underlying
    simp only [vu, program, Sem.val, ht, Option.bind, v6]
  simp [z6, PV.val2, eqGuard, binOp, vu, v6, zi9, he, ofV, bne]
theorem yn {p : Bool} (hx : evP F x = .u (.bool p)) : qu P H F ⟨some d, .unOp .not t x, ty, pos, af, g⟩ = some (.u (.bool (!p))) := by rw [zkw, hx, zog]
theorem Ja {kx : IntKind} (hs : (ze2 P t).isSome = true) (hd : ze2 P t' = some k) (hx : evP F x = .u (.int kx a)) : qu P H F ⟨some d, .convert t t' x, ty, pos, af, g⟩ = some (.u (.int k (k.wrap a))) := by rw [zhx, hx, zmi hs hd]
theorem Jc {kx : IntKind} (hs : (ze2 P t).isSome = true) (hd : ze2 P t' = some .i64) (hx : evP F x = .u (.int kx a)) : qu P H F ⟨some d, .convert t t' x, ty, pos, af, g⟩ = some (.u (.int .i64 (w64 a))) := Ja hs hd hx
theorem znc {ts : Array Nat} (hx : evP F x = .u (.int k a)) (hy : evP F y = .u (.int k b)) : qu P H F ⟨some d, .call { callee := .builtin .min, args := #[x, y], argTypes := ts }, ty, pos, af, g⟩ = some (.u (.int k (min a b))) := by
  rw [zmn, hx, hy]
  simp [zk1, PV.val2, Builtin.min_, Builtin.min2, v6, ofV]
  split <;> omega
theorem zm2 {ts : Array Nat} (hx : evP F x = .u (.int k a)) (hy : evP F y = .u (.int k b)) : qu P H F ⟨some d, .call { callee := .builtin .max, args := #[x, y], argTypes := ts }, ty, pos, af, g⟩ = some (.u (.int k (max a b))) := by
  rw [zl7, hx, hy]
  simp [zk1, PV.val2, Builtin.max_, Builtin.max2, v6, ofV]
  split <;> omega
theorem qg {α : Type} {kk : Nat} {rep : α → PV} {xs : List α} (ht : yv P t = true) (hx : evP F x = .sl kk (xs.map rep)) : qu P H F ⟨some d, .call { callee := .builtin .len, args := #[x], argTypes := #[t] }, ty, pos, af, g⟩ = some (.u (.int .i64 xs.length)) := by
  rw [zec, hx, zoa _ ht, List.length_map]
theorem yj {s : ByteArray} (ht : Y5 P t = true) (hx : evP F x = .u (.string s)) : qu P H F ⟨some d, .call { callee := .builtin .len, args := #[x], argTypes := #[t] }, ty, pos, af, g⟩ = some (.u (.int .i64 s.size)) := by
  rw [zec, hx, znu _ ht]
theorem Vu {e kk id m : Nat} {q : PV} {cs : List PV} (ht : yv P t = true) (ho : OwnS H e kk id q m cs) (hx : evP F x = q) : qu P H F ⟨some d, .call { callee := .builtin .len, args := #[x], argTypes := #[t] }, ty, pos, af, g⟩ = some (.u (.int .i64 m)) := by
  rw [zec, hx, ho.len ht]
theorem j1 {α : Type} {kk : Nat} {rep : α → PV} {xs : List α} {kd : IntKind} {z : Int} {v : α} (he : esz P t = some kk) (hx : evP F x = .sl kk (xs.map rep)) (hy : evP F y = .u (.int kd z)) (hv : idx xs z = some v) : qu P H F ⟨some d, .indexAddr t x y, ty, pos, af, g⟩ = some (.rp (rep v).cells) := by
  obtain ⟨h0, h1⟩ := y6 hv
  rw [zn, hx, hy, zh3 he _ _ h0, List.getElem?_map, h1]; rfl
theorem qr {p : PV} {cs : List PV} (ht : asz P t = some (false, 1)) (hx : evP F x = .rp (p :: cs)) : qu P H F ⟨some d, .load t x, ty, pos, af, g⟩ = some p := by
  rw [J7, hx, zdb, ht]; rfl
theorem vw {kk : Nat} {cs : List PV} (ht : asz P t = some (true, kk)) (hx : evP F x = .rp cs) (hl : cs.length = kk) : qu P H F ⟨some d, .load t x, ty, pos, af, g⟩ = some (.agg cs) := by
  rw [J7, hx, zdb, ht]
  show vy true kk cs = _
  rw [zc7 _ _ (by omega), List.take_of_length_le (by omega)]
theorem vm {id off v T kk : Nat} {ag : Bool} {cs : List PV} {p : PV} (ht : asz P t = some (ag, kk)) (hx : evP F x = .pp id off v) (hb : H id = ⟨v, some (.box T cs)⟩) (hp : vy ag kk (cs.drop off) = some p) : qu P H F ⟨some d, .load t x, ty, pos, af, g⟩ = some p := by
  rw [J7, hx, Vk, ht]
  show (qn H id v).elim none _ = _
  rw [yz, hb, zdo, if_pos rfl]; exact hp
theorem yu {id o off v T kk fi ft : Nat} {ag : Bool} {cs : List PV} (hf : fof P t fi = some (off, ft)) (ht : asz P ft = some (ag, kk)) (hk : kk ≠ 0) (hx : evP F x = .pp id o v) (hb : H id = ⟨v, some (.box T cs)⟩) : qu P H F ⟨some d, .fieldAddr t x fi, ty, pos, af, g⟩ = some (.pp id (o + off) v) := by
  rw [zbb, hx, zhk, hf]
  show (asz P ft).elim none _ = _
  rw [ht]
  show (if kk = 0 then none else _) = _
  rw [if_neg hk, yz, hb, zdo, if_pos rfl]; rfl
theorem j8 {off kk fi ft : Nat} {ag : Bool} {cs : List PV} (hf : fof P t fi = some (off, ft)) (ht : asz P ft = some (ag, kk)) (hk : kk ≠ 0) (hx : evP F x = .rp cs) : qu P H F ⟨some d, .fieldAddr t x fi, ty, pos, af, g⟩ = some (.rp (cs.drop off)) := by
  rw [zbb, hx, zhi, hf]
  show (asz P ft).elim none _ = _
  rw [ht]
  show (if kk = 0 then none else _) = _
  rw [if_neg hk]
theorem zon {s : ByteArray} {kd : IntKind} {z : Int} {c : UInt8} (ht : Y5 P t = true) (hx : evP F x = .u (.string s)) (hy : evP F y = .u (.int kd z)) (h0 : 0 ≤ z) (hc : s[z.toNat]? = some c) : qu P H F ⟨some d, .index t x y, ty, pos, af, g⟩ = some (.u (.int .u8 c.toNat)) := by
  rw [zex, hx, hy, zku ht _ _ h0, hc]; rfl
theorem vj {cs : List PV} {p : PV} {i : Nat} (hx : evP F x = .tup cs) (hp : cs[i]? = some p) : qu P H F ⟨some d, .extract x i, ty, pos, af, g⟩ = some p := by
  rw [zhu, hx]; exact hp
theorem zmz {f : Fn} {A B : Array Operand} {ps qs : List PV} (hA : A.toList.map (evP F) = ps) (hB : B.toList.map (evP F) = qs) : qu P H F ⟨some d, .makeFunc f A B, ty, pos, af, g⟩ = some (.fn f ps qs) := by rw [zhb, hA, hB]
end
end Go.Proofs.Ytpohfkgjghiofaa.L

namespace Go.Proofs.Ytpohfkgjghiofaa
open Go Go.RowKit L
set_option linter.unusedVariables false
set_option linter.unusedSimpArgs false
abbrev iK (k : IntKind) (z : Int) : PV := .u (.int k z)
abbrev Arr (n : Nat) (α : Type) := {l : List α // l.length = n}
def arV {α : Type} {n : Nat} (rep : α → PV) (a : Arr n α) : PV := .agg (a.1.map rep)
def arZ {α : Type} (n : Nat) (z : α) : Arr n α := ⟨List.replicate n z, List.length_replicate ..⟩
theorem vc {α : Type} {n : Nat} {rep : α → PV} (a : Arr n α) (h : ∀ x, NoP (rep x)) : NoP (arV rep a) := .agg _ fun c hc => by obtain ⟨z, _, rfl⟩ := List.mem_map.1 hc; exact h z
theorem jj {α : Type} {n : Nat} (rep : α → PV) (a : Arr n α) (h : ∀ x, (rep x).cells = [rep x]) : (arV rep a).cells.length = n := by simp [arV, PV.cells, a.2]
theorem v8 {α : Type} {n : Nat} (H : PHeap) (rep : α → PV) (a : Arr n α) (h : ∀ x, ya H (rep x) = true) : okC H (arV rep a) = true := by simp [arV, okC, h]
theorem zoc {ps qs : List PV} (hp : ∀ p ∈ ps, NoP p) (hq : ∀ p ∈ qs, NoP p) : ∀ p ∈ ps ++ qs, NoP p := fun p h => (List.mem_append.1 h).elim (hp p) (hq p)
theorem Vr {p : PV} (h : NoP p) : ∀ c ∈ p.cells, NoP c := fun c hc => h.cell hc
theorem lf1 {α : Type} {rep : α → PV} {H : PHeap} (h : ∀ x, (rep x).cells = [rep x]) (h2 : ∀ x, ya H (rep x) = true) : ∀ x, ∀ c ∈ (rep x).cells, ya H c = true := fun x c hc => by rw [h x] at hc; simp at hc; subst hc; exact h2 x
theorem lfa {α : Type} {rep : α → PV} {H : PHeap} (h : ∀ x, (rep x).cells.all (ya H) = true) : ∀ x, ∀ c ∈ (rep x).cells, ya H c = true := fun x c hc => List.all_eq_true.1 (h x) c hc
theorem zet {α : Type} {n : Nat} (H : PHeap) (rep : α → PV) (a : Arr n α) (h : ∀ x, ya H (rep x) = true) : (arV rep a).cells.all (ya H) = true := by simp [arV, PV.cells, h]
theorem zll {A L : List PV} {m k : Nat} (h : A.length = m) (h2 : L.length = k) : (PV.agg (A ++ L)).cells.length = m + k := by simp [PV.cells, h, h2]
theorem zls {A L : List PV} {f : PV → Bool} (h : A.all f = true) (h2 : L.all f = true) : (PV.agg (A ++ L)).cells.all f = true := by simp only [PV.cells, List.all_append, h, h2]; rfl
theorem ld_l {A L : List PV} {m : Nat} (h : A.length = m) : vy true m ((A ++ L).drop 0) = some (.agg A) := by
  simp [vy, ← h]
theorem znl {A : List PV} {m : Nat} (h : A.length = m) : vy true m (A.drop 0) = some (.agg A) := by
  simp [vy, ← h]
theorem zhq {A L : List PV} {m i : Nat} {ag : Bool} {k : Nat} {p : PV} (h : A.length = m) (hp : vy ag k (L.drop i) = some p) : vy ag k ((A ++ L).drop (m + i)) = some p := by
  subst h
  rw [List.drop_append, List.drop_of_length_le (by omega), List.nil_append]
  simpa using hp
theorem yo {cs : List PV} {k : Nat} (h : cs.length = k) : vy true k (cs.drop 0) = some (.agg cs) := znl h
def app {α : Type} (b : Nat) (xs ys : List α) : Option (List α) := if (xs.length + ys.length) * b ≤ 140737488355328 ∧ xs.length + ys.length ≤ maxLen then some (xs ++ ys) else none
theorem zg5 {α : Type} {b : Nat} {xs ys zs : List α} (h : app b xs ys = some zs) : xs.length + ys.length ≤ maxLen ∧ (xs.length + ys.length) * b ≤ 140737488355328 ∧ zs = xs ++ ys := by
  unfold app at h; split at h
  · rename_i hc; cases h; exact ⟨hc.2, hc.1, rfl⟩
  · cases h
theorem app_of {α : Type} {b : Nat} {xs ys : List α} (h : (xs.length + ys.length) * b ≤ 140737488355328) (h2 : xs.length + ys.length ≤ 140737488355328) : app b xs ys = some (xs ++ ys) := by
  unfold app; rw [if_pos ⟨h, Nat.le_trans h2 (by decide)⟩]
def mkS {α : Type} (b : Nat) (z : α) (n : Int) : Option (List α) := if 0 ≤ n ∧ b * n.toNat ≤ 281474976710656 ∧ n.toNat ≤ maxLen then some (List.replicate n.toNat z) else none
theorem mkS_of {α : Type} {b n : Nat} {z : α} (h : b * n ≤ 281474976710656) (h2 : n ≤ 281474976710656) : mkS b z (n : Int) = some (List.replicate n z) := by
  unfold mkS; rw [if_pos ⟨by omega, by simpa using h, Nat.le_trans (by simpa using h2) (by decide)⟩]; simp
def zfp {α : Type} (xs : List α) (lo hi : Int) : Option (List α) := if 0 ≤ lo ∧ 0 ≤ hi ∧ lo.toNat ≤ hi.toNat ∧ hi.toNat ≤ xs.length then some ((xs.take hi.toNat).drop lo.toNat) else none
def zmt (s : ByteArray) (lo hi : Int) : Option ByteArray := if 0 ≤ lo ∧ 0 ≤ hi ∧ lo.toNat ≤ hi.toNat ∧ hi.toNat ≤ s.size then some (s.extract lo.toNat hi.toNat) else none
def Yc (s : ByteArray) (z : Int) : Option Int := if 0 ≤ z then (s[z.toNat]?).map fun c => (c.toNat : Int) else none
theorem zmb {s : ByteArray} {z x : Int} (h : Yc s z = some x) : 0 ≤ z ∧ ∃ c, s[z.toNat]? = some c ∧ x = (c.toNat : Int) := by
  unfold Yc at h; split at h
  · rename_i h0
    cases hc : s[z.toNat]? with
    | none => rw [hc] at h; cases h
    | some c => rw [hc] at h; cases h; exact ⟨h0, c, rfl, rfl⟩
  · cases h
def yh : PV → Nat
  | .ps _ v => v
  | _ => 0
section
variable {P : Program} {W : Env} {n : Nat} {H : PHeap} {F : PFrame} {ops : Array Oper} {o : Oper} {l : List Oper} {K : PFrame → PHeap → Prop}
variable {d ty : Nat} {pos : String} {af : Array Edge} {g : Option (Nat × Bool)} {x y : Operand} {t t' : Nat}
theorem PQ.nil {o : Oper} {k : Nat} (h : o.op = .move (.const (.slice none 0 0)) ∨ o.op = .assign (.const (.slice none 0 0))) : PQ P W o F H (.sl k []) :=
  PQ.of_run fun V a w hr hh => ⟨.slice none 0 0, by rcases h with h | h <;> simp [execOp, h] <;> rfl, .nil _ _ _⟩
theorem J1 {k : Nat} : PQ P W ⟨some d, .assign (.const (.slice none 0 0)), ty, pos, af, g⟩ F H (.sl k []) := PQ.nil (.inr rfl)
theorem PQ.boxR {o : Oper} {v : PV} (ho : o.op = .box t x) (hv : evP F x = v) (hok : okC H v = true) : PQ P W o F H (.rp v.cells) := fun V a w hr hx => by
  subst hv
  have hrv := Rp.eval (P := P) (F := F) (a := a) (Z := W.Z) (H := H) (V := V) (w := w) x fun t ht => hx t (by rw [ho, ht]; simp [Op.operands])
  obtain ⟨hR, h1⟩ := hrv.cells hr hok
  have hex : (execOp a.eval o).run P w = .ok (.value (.pointer (some ⟨w.heap.size, 0, none⟩))) (w.alloc (.cells (a.eval x).cells t)) := by
    simp only [execOp, ho]
    simp [Instr.box, newVar, newRow]
  have hb : Below w.heap.size w (w.alloc (.cells (a.eval x).cells t)) := (Below.refl _ _).alloc (Nat.le_refl _) _
  refine Jn hex ⟨_, rfl, ?_, hb⟩
  have hlen := hR.1
  refine Rp.rp _ w.heap.size 0 (fun i => ((a.eval x).cells[i]?).getD undef) (fun hz => ?_) (by simp) (fun i p hi => ?_) (fun i p hi => ?_)
  · rcases hz with hz | ⟨id, h3, h4⟩
    · have := Env.z_lt hr _ hz; omega
    · have := (hr.own_lt h3 h4).2; omega
  · have hlt := (List.getElem?_eq_some_iff.1 hi).1
    have hia : i < (a.eval x).cells.size := by simpa [hlen] using hlt
    rw [Nat.zero_add]
    simp only [World.cell?]
    rw [heap_alloc_new]
    simp [hia]
  · have hlt := (List.getElem?_eq_some_iff.1 hi).1
    have hia : i < (a.eval x).cells.size := by simpa [hlen] using hlt
    have : ((a.eval x).cells[i]?).getD undef = (a.eval x).cells[i] := by simp [hia]
    rw [this]
    exact (hR.2 i p _ hi (by simp [hia])).grow hb
theorem zk {v : PV} {T : Nat} (hv : evP F x = v) (hok : okC H v = true) : PQ P W ⟨some d, .box T x, ty, pos, af, g⟩ F H (.rp v.cells) := PQ.boxR rfl hv hok
theorem zcg {α : Type} {m : Nat} {rep : α → PV} {a : Arr m α} {kd : IntKind} {z : Int} {v : α} (he : arr P t = some (m, 1)) (hx : evP F x = .rp (arV rep a).cells) (hy : evP F y = .u (.int kd z)) (hv : idx a.1 z = some v) : qu P H F ⟨some d, .indexAddr t x y, ty, pos, af, g⟩ = some (.rp ((arV rep a).cells.drop (z.toNat * 1))) := by
  obtain ⟨h0, h1⟩ := y6 hv
  obtain ⟨hlt, _⟩ := List.getElem?_eq_some_iff.1 h1
  rw [zn, hx, hy, zcs _ _ h0, he]
  show (if z.toNat < m then _ else none) = _
  rw [if_pos (a.2 ▸ hlt)]
theorem zb0 {α : Type} {m : Nat} {rep : α → PV} {a : Arr m α} {z : Int} {v : α} (hv : idx a.1 z = some v) : vy false 1 ((arV rep a).cells.drop (z.toNat * 1)) = some (rep v) := by
  obtain ⟨h0, h1⟩ := y6 hv
  simp [vy, arV, PV.cells, h1]
theorem zn7 {α : Type} {m e : Nat} {rep : α → PV} {a : Arr m α} {kd : IntKind} {z : Int} {v : α} (h1 : asz P e = some (false, 1)) (he : arr P t = some (m, 1)) (hae : zgh P t = some e) (hx : evP F x = arV rep a) (hy : evP F y = .u (.int kd z)) (hv : idx a.1 z = some v) : qu P H F ⟨some d, .index t x y, ty, pos, af, g⟩ = some (rep v) := by
  have hl := zb0 (rep := rep) hv
  obtain ⟨h0, h2⟩ := y6 hv
  obtain ⟨hlt, _⟩ := List.getElem?_eq_some_iff.1 h2
  rw [zex, hx, hy]
  unfold arV
  rw [zk2 _ _ h0, he]
  show (zgh P t).elim none _ = _
  rw [hae]
  show (if z.toNat < m then _ else none) = _
  rw [if_pos (a.2 ▸ hlt), zn6, h1]
  exact hl
theorem yk {s : ByteArray} {kd : IntKind} {z v : Int} (ht : Y5 P t = true) (hx : evP F x = .u (.string s)) (hy : evP F y = .u (.int kd z)) (hv : Yc s z = some v) : qu P H F ⟨some d, .index t x y, ty, pos, af, g⟩ = some (.u (.int .u8 v)) := by
  obtain ⟨h0, c, hc, rfl⟩ := zmb hv
  exact zon ht hx hy h0 hc
theorem zik {α : Type} {xs ys : List α} {lo hi : Int} (h : zfp xs lo hi = some ys) : (0 ≤ lo ∧ 0 ≤ hi ∧ lo.toNat ≤ hi.toNat ∧ hi.toNat ≤ xs.length) ∧ ys = (xs.take hi.toNat).drop lo.toNat := by
  unfold zfp at h; split at h
  · rename_i hc; cases h; exact ⟨hc, rfl⟩
  · cases h
theorem zmj {s u : ByteArray} {lo hi : Int} (h : zmt s lo hi = some u) : (0 ≤ lo ∧ 0 ≤ hi ∧ lo.toNat ≤ hi.toNat ∧ hi.toNat ≤ s.size) ∧ u = s.extract lo.toNat hi.toNat := by
  unfold zmt at h; split at h
  · rename_i hc; cases h; exact ⟨hc, rfl⟩
  · cases h
theorem znm {α : Type} {rep : α → PV} {kk : Nat} {xs ys : List α} {lo hi : Option Operand} {l h : Int} (he : esz P t = some kk) (hx : evP F x = .sl kk (xs.map rep)) (hl : (lo = none ∧ l = 0) ∨ ∃ q, lo = some q ∧ ∃ kd, evP F q = .u (.int kd l)) (hh : (hi = none ∧ h = xs.length) ∨ ∃ q, hi = some q ∧ ∃ kd, evP F q = .u (.int kd h)) (hs : zfp xs l h = some ys) : qu P H F ⟨some d, .slice t x lo hi none, ty, pos, af, g⟩ = some (.sl kk (ys.map rep)) := by
  obtain ⟨⟨h0, h1, h2, h3⟩, rfl⟩ := zik hs
  have bl : J9 0 (lo.map (evP F)) = some l.toNat := by
    rcases hl with ⟨rfl, rfl⟩ | ⟨q, rfl, kd, e⟩
    · rfl
    · simp only [Option.map, e, J9, h0, if_true]
  have bh : J9 (xs.map rep).length (hi.map (evP F)) = some h.toNat := by
    rcases hh with ⟨rfl, rfl⟩ | ⟨q, rfl, kd, e⟩
    · simp [J9]
    · simp only [Option.map, e, J9, h1, if_true]
  rw [zew, hx]
  simp only [zeo, bl, bh]
  rw [if_pos ⟨he, h2, by simpa using h3⟩, List.map_drop, List.map_take]
theorem zl3 {α : Type} {rep : α → PV} {kk : Nat} {xs ys : List α} {q q2 : Operand} {l h : Int} {kd kd2 : IntKind} (he : esz P t = some kk) (hx : evP F x = .sl kk (xs.map rep)) (hl : evP F q = .u (.int kd l)) (hh : evP F q2 = .u (.int kd2 h)) (hs : zfp xs l h = some ys) : qu P H F ⟨some d, .slice t x (some q) (some q2) none, ty, pos, af, g⟩ = some (.sl kk (ys.map rep)) := znm he hx (.inr ⟨q, rfl, kd, hl⟩) (.inr ⟨q2, rfl, kd2, hh⟩) hs
theorem zm0 {s u : ByteArray} {lo hi : Option Operand} {l h : Int} (he : Y5 P t = true) (hx : evP F x = .u (.string s)) (hl : (lo = none ∧ l = 0) ∨ ∃ q, lo = some q ∧ ∃ kd, evP F q = .u (.int kd l)) (hh : (hi = none ∧ h = s.size) ∨ ∃ q, hi = some q ∧ ∃ kd, evP F q = .u (.int kd h)) (hs : zmt s l h = some u) : qu P H F ⟨some d, .slice t x lo hi none, ty, pos, af, g⟩ = some (.u (.string u)) := by
  obtain ⟨⟨h0, h1, h2, h3⟩, rfl⟩ := zmj hs
  have bl : J9 0 (lo.map (evP F)) = some l.toNat := by
    rcases hl with ⟨rfl, rfl⟩ | ⟨q, rfl, kd, e⟩
    · rfl
    · simp only [Option.map, e, J9, h0, if_true]
  have bh : J9 s.size (hi.map (evP F)) = some h.toNat := by
    rcases hh with ⟨rfl, rfl⟩ | ⟨q, rfl, kd, e⟩
    · simp [J9]
    · simp only [Option.map, e, J9, h1, if_true]
  rw [zew, hx]
  simp only [zeo, bl, bh]
  rw [if_pos ⟨he, h2, h3⟩]
theorem zmf {s u : ByteArray} {q q2 : Operand} {l h : Int} {kd kd2 : IntKind} (he : Y5 P t = true) (hx : evP F x = .u (.string s)) (hl : evP F q = .u (.int kd l)) (hh : evP F q2 = .u (.int kd2 h)) (hs : zmt s l h = some u) : qu P H F ⟨some d, .slice t x (some q) (some q2) none, ty, pos, af, g⟩ = some (.u (.string u)) := zm0 he hx (.inr ⟨q, rfl, kd, hl⟩) (.inr ⟨q2, rfl, kd2, hh⟩) hs
theorem bm0 : ([] : List (Nat × Operand)).map (fun x => (x.1, evP F x.2)) = [] := rfl
theorem bm {i : Nat} {x : Operand} {xs : List (Nat × Operand)} {p : PV} {ps : List (Nat × PV)} (h : evP F x = p) (hs : xs.map (fun x => (x.1, evP F x.2)) = ps) : ((i, x) :: xs).map (fun x => (x.1, evP F x.2)) = (i, p) :: ps := by rw [List.map_cons, hs]; simp only [h]
theorem rm {s : Nat} {ss : List Nat} {p : PV} {ps : List PV} (h : F s = p) (hs : ss.map F = ps) : (s :: ss).map F = p :: ps := by rw [List.map_cons, h, hs]
theorem Jg {ps : Array (Nat × Operand)} {ips : List (Nat × PV)} {p : PV} (hp : ps.toList.map (fun x => (x.1, evP F x.2)) = ips) (h : zb2 P H t ips = some p) : qu P H F ⟨some d, .build t ps, ty, pos, af, g⟩ = some p := by rw [zkk, hp, h]
theorem yx {α : Type} {rep : α → PV} {xs : List α} {e k b len : Nat} {z : Value} {ps : Array (Nat × Operand)} {ips : List (Nat × PV)} (ht : zh P t = some (e, k, b, z)) (hz : z.cells.toList.all Value.oneCell' = true) (hbig : len * k ≤ 16777216) (hp : ps.toList.map (fun x => (x.1, evP F x.2)) = ips) (hlit : zbx H k len ips = true) (hc : ips.map (·.2) = xs.map rep) : PQ P W ⟨some d, .buildSlice t len ps, ty, pos, af, g⟩ F H (.sl k (xs.map rep)) := by
  subst hp
  have := PQ.buildSlice (W := W) (F := F) (H := H) (o := ⟨some d, .buildSlice t len ps, ty, pos, af, g⟩) rfl ht hz hbig hlit
  rw [List.map_map] at hc
  rw [← hc]
  exact this
theorem PL.litO {α : Type} {rep : α → PV} {xs : List α} {e k b len d : Nat} {z : Value} {parts : Array (Nat × Operand)} {ips : List (Nat × PV)} (id : Nat) (hg : o.guard = none) (ho : o.op = .buildSlice t len parts) (hd : o.dst = some d) (hdn : d < n) (ht : zh P t = some (e, k, b, z)) (hz : z.cells.toList.all Value.oneCell' = true) (hbig : len * k ≤ 16777216) (hp : (parts.toList.map fun x => (x.1, evP F x.2)) = ips) (hlit : zbx H k len ips = true) (hc : ips.map (·.2) = xs.map rep)
    (h : ∀ q H', ownL e k rep H' id q xs → (∀ j, j ≠ id → H' j = H j) → PL P W n ops l (F.put (some d) q) H' K) : PL P W n ops (o :: l) F H K := by
  have hl := hlit
  simp only [zbx, Bool.and_eq_true, decide_eq_true_eq] at hl
  have hlen : xs.length = len := by
    have h1 := congrArg List.length hl.1
    have h2 := congrArg List.length hc
    simp at h1 h2; omega
  have hk : ∀ p ∈ ips, p.2.cells.length = k := fun p hp => by
    have := List.all_eq_true.1 hl.2 p hp
    simp only [Bool.and_eq_true, decide_eq_true_eq] at this
    exact this.1
  have hfl : ((xs.map rep).flatMap PV.cells).length = len * k := by
    rw [← hc, L.flat_length (k := k) _ (fun y hy => by obtain ⟨p, hp, rfl⟩ := List.mem_map.1 hy; exact hk p hp)]
    rw [hc, List.length_map, hlen]
  refine PL.buildSliceA (cs := (xs.map rep).flatMap PV.cells) id hg ho hd hdn ht hz hbig (Nat.le_trans (Nat.le_of_eq hlen.symm) ?_) hp hlit (by rw [hc]) fun ver H' b1 o1 => h _ H' ?_ o1
  · by_cases hk0 : k = 0
    · obtain ⟨_, _, _, _, _, _, _, hpos⟩ := Vl ht
      omega
    · have : len ≤ len * k := Nat.le_mul_of_pos_right _ (by omega)
      rw [hlen]
      exact Nat.le_trans (Nat.le_trans this hbig) (by decide)
  · have h1 := OwnS.row (k := k) b1 hfl
    unfold ownL
    rw [hlen]; exact h1
theorem ownL.at {α : Type} {e k id : Nat} {rep : α → PV} {q : PV} {xs : List α} {z : Int} {v : α} (h : ownL e k rep H id q xs) (hv : idx xs z = some v) : q = .ps id (yh q) ∧ H id = ⟨yh q, some (.row e k xs.length ((xs.map rep).flatMap PV.cells))⟩ := by
  obtain ⟨h0, h1⟩ := y6 hv
  obtain ⟨hlt, _⟩ := List.getElem?_eq_some_iff.1 h1
  obtain ⟨ver, rfl, hH⟩ := OwnS.pos h (by omega)
  exact ⟨rfl, hH⟩
theorem jx {cs : List PV} {ag : Bool} {kk : Nat} {p : PV} (ht : asz P t = some (ag, kk)) (hx : evP F x = .rp cs) (hp : vy ag kk cs = some p) : qu P H F ⟨some d, .load t x, ty, pos, af, g⟩ = some p := by
  rw [J7, hx, zdb, ht]; exact hp
theorem z7 {α : Type} {e kk id : Nat} {rep : α → PV} {q : PV} {xs : List α} {kd : IntKind} {z : Int} {v : α} (he : esz P t = some kk) (ho : ownL e kk rep H id q xs) (hx : evP F x = q) (hy : evP F y = .u (.int kd z)) (hv : idx xs z = some v) : qu P H F ⟨some d, .indexAddr t x y, ty, pos, af, g⟩ = some (.pp id (z.toNat * kk) (yh q)) := by
  obtain ⟨hq, hH⟩ := ho.at hv
  obtain ⟨h0, h1⟩ := y6 hv
  obtain ⟨hlt, _⟩ := List.getElem?_eq_some_iff.1 h1
  rw [zn, hx, hy]
  generalize hw : yh q = w at *
  rw [hq, zcz _ _ h0, Yb, hH, zdm, if_pos rfl]
  show (if esz P t = some kk ∧ z.toNat < xs.length then _ else none) = _
  rw [if_pos ⟨he, hlt⟩]
theorem Vh {α : Type} {rep : α → PV} (h : ∀ x, (rep x).cells = [rep x]) (xs : List α) : (xs.map rep).flatMap PV.cells = xs.map rep := cells1 h xs
theorem zdd {α : Type} {e id : Nat} {rep : α → PV} {q : PV} {xs : List α} {z : Int} {v : α} (ht : asz P t = some (false, 1)) (hx : evP F x = .pp id (z.toNat * 1) (yh q)) (ho : ownL e 1 rep H id q xs) (hv : idx xs z = some v) (h1 : ∀ x, (rep x).cells = [rep x] := by exact fun _ => rfl) : qu P H F ⟨some d, .load t x, ty, pos, af, g⟩ = some (rep v) := by
  obtain ⟨hq, hH⟩ := ho.at hv
  obtain ⟨h0, hz⟩ := y6 hv
  rw [J7, hx, Vk, ht]
  show (qn H id (yh q)).elim none _ = _
  rw [yz, hH, zfy, if_pos rfl]
  show vy false 1 _ = _
  rw [Zl, Vh h1, List.getElem?_drop, List.getElem?_map]
  simp [hz]
theorem PL.stO {α : Type} {e id : Nat} {rep : α → PV} {q : PV} {xs : List α} {z : Int} {u v : α} (hg : o.guard = none) (ho : o.op = .store t x y) (hd : y7 n o) (hx : evP F x = .pp id (z.toNat * 1) (yh q)) (hr : ownL e 1 rep H id q xs) (ht : asz P t = some (false, 1)) (hv : idx xs z = some u) (hy : evP F y = rep v) (hk : ∀ x, (rep x).cells = [rep x])
    (h : ∀ H', ownL e 1 rep H' id q (xs.set z.toNat v) → (∀ j, j ≠ id → H' j = H j) → PL P W n ops l (F.put o.dst (.u undef)) H' K) (hok : okC H (rep v) = true := by rfl) : PL P W n ops (o :: l) F H K := by
  obtain ⟨hq, hH⟩ := hr.at hv
  obtain ⟨h0, hz⟩ := y6 hv
  obtain ⟨hlt, _⟩ := List.getElem?_eq_some_iff.1 hz
  refine PL.storeR (cs' := (xs.set z.toNat v).map rep) hg ho hd hx hH ht hy hok (hk v) rfl (by rw [Vh hk]; simp; omega) ?_ fun H' b1 o1 => h H' ?_ o1
  · rw [Vh hk, Nat.mul_one]
    simp only [setMany, List.length_singleton]
    apply List.ext_getElem?
    intro i
    have := zx (xs.map rep) [rep v] z.toNat (by simp; omega) i
    unfold setMany at this
    simp only [List.length_singleton] at this
    rw [this, List.getElem?_map (f := rep) (l := xs.set z.toNat v), List.getElem?_set]
    by_cases e : z.toNat = i
    · subst e; simp [hlt]
    · rw [if_neg (by omega), if_neg e, List.getElem?_map]
  · unfold ownL
    have := OwnS.row (k := 1) b1 (by simp)
    rw [Vh hk, List.length_set]
    rw [hq]
    exact this
theorem PL.appG {α : Type} {rep : α → PV} {e k b d id : Nat} {z : Value} {q : PV} {xs ys zs : List α} (hg : o.guard = none) (ho : o.op = .call { callee := .builtin .append, args := #[x, y], argTypes := #[t, t] }) (hd : o.dst = some d) (hdn : d < n) (ht : zh P t = some (e, k, b, z))
    (hs : evP F x = q) (hr : ownL e k rep H id q xs) (hp : evP F y = .sl k (ys.map rep)) (hk : ∀ x, (rep x).cells.length = k) (hleaf : ∀ x, ∀ c ∈ (rep x).cells, ya H c = true) (hz : app b xs ys = some zs)
    (h : ∀ q' H', ownL e k rep H' id q' zs → (∀ j, j ≠ id → H' j = H j) → PL P W n ops l (F.put (some d) q') H' K) : PL P W n ops (o :: l) F H K := by
  obtain ⟨h1, h2, rfl⟩ := zg5 hz
  exact PL.appendL hg ho hd hdn ht hs hr hp hk hleaf h1 h2 h
theorem zm9 {α : Type} {rep : α → PV} (hk : ∀ x, (rep x).cells = [rep x]) (m : Nat) (z : α) : ((List.replicate m z).map rep).flatMap PV.cells = List.replicate m (rep z) := by rw [Vh hk, List.map_replicate]
theorem PL.mkS {α : Type} {rep : α → PV} {e b d : Nat} {zv : Value} {z : α} {xs : List α} {k : IntKind} {m : Int} (id : Nat) (hg : o.guard = none) (ho : o.op = .makeSlice t x x) (hd : o.dst = some d) (hdn : d < n) (ht : zh P t = some (e, 1, b, zv)) (h1z : zv.oneCell' = true) (hrep : rep z = .u zv) (hx : evP F x = .u (.int k m)) (hz : mkS b z m = some xs)
    (h : ∀ q' H', ownL e 1 rep H' id q' xs → (∀ j, j ≠ id → H' j = H j) → PL P W n ops l (F.put (some d) q') H' K) (hk : ∀ x, (rep x).cells = [rep x] := by exact fun _ => rfl) : PL P W n ops (o :: l) F H K := by
  unfold Proofs.Ytpohfkgjghiofaa.mkS at hz
  split at hz
  · rename_i hc
    cases hz
    have hm : m = ((m.toNat : Nat) : Int) := by omega
    rw [hm] at hx
    refine PL.makeSliceA id hg ho hd hdn ht h1z hx hx hc.2.2 hc.2.1 fun ver H' b1 o1 => h _ H' ?_ o1
    unfold ownL
    rw [zm9 hk, hrep, List.length_replicate]
    exact OwnS.row (k := 1) b1 (by simp)
  · cases hz
end
end Go.Proofs.Ytpohfkgjghiofaa

namespace Go.Proofs.Ytpohfkgjghiofaa
open Go Go.RowKit L
set_option linter.unusedVariables false
set_option linter.unusedSimpArgs false
section
variable {P : Program} {W : Env} {n : Nat} {H : PHeap} {F : PFrame} {ops : Array Oper} {o : Oper} {l : List Oper} {K : PFrame → PHeap → Prop}
variable {d ty : Nat} {pos : String} {af : Array Edge} {g : Option (Nat × Bool)} {x y : Operand} {t t' : Nat}
def ownQ' {α : Type} (e k : Nat) (rep : α → PV) (H : PHeap) (id : Nat) (q : PV) (xs : List α) : Prop :=
  ∃ off ver pre, q = .qs id off k ver ∧ pre.length = off ∧ H id = ⟨ver, some (.row e k (off + xs.length) (((pre ++ xs).map rep).flatMap PV.cells))⟩
theorem ownQ'.mono {α : Type} {e k id : Nat} {rep : α → PV} {H' : PHeap} {q : PV} {xs : List α} (h : ownQ' e k rep H id q xs) (he : H' id = H id) : ownQ' e k rep H' id q xs := by
  obtain ⟨off, ver, pre, h1, h2, h3⟩ := h
  exact ⟨off, ver, pre, h1, h2, he.trans h3⟩
theorem HRel.q_shape {V : Nat → Value} {w : World} (hr : HRel P W H V w) {id ver e k m : Nat} {cs : List PV} (hH : H id = ⟨ver, some (.row e k m cs)⟩) :
    (m = 0 ∧ V id = .slice none 0 0) ∨ ∃ b cap cur, V id = .slice (some ⟨b, 0, none⟩) m cap ∧ W.w.heap.size ≤ b ∧ w.heap[b]? = some (.cells cur e (0, 0)) ∧ m ≤ cap ∧ cap ≤ maxLen ∧ cur.size = cap * k := by
  obtain ⟨vals, ho, _⟩ := hr.row id e k m cs (by rw [hH])
  rcases ho.2 with ⟨e1, h0⟩ | ⟨b, cap, cur, e1, h1, h2, h3, h4, h5, _⟩
  · exact .inl ⟨h0, e1⟩
  · exact .inr ⟨b, cap, cur, e1, h1, h2, h3, h4, h5⟩
theorem PQ.sliceFrom {lo : Operand} {id ver e k m : Nat} {kd : IntKind} {z : Int} {cs : List PV} {o : Oper} (ho : o.op = .slice t x (some lo) none none) (ht : esz P t = some k) (hx : evP F x = .ps id ver) (hH : H id = ⟨ver, some (.row e k m cs)⟩) (hy : evP F lo = .u (.int kd z)) (h0 : 0 ≤ z) (hz : z.toNat ≤ m) : PQ P W o F H (.qs id z.toNat k ver) :=
  PQ.of_run fun V a w hr hh => by
    obtain ⟨e', ti, hu, hti, rfl⟩ := Z7 ht
    have hxv := hh x (by rw [ho]; simp [Op.operands])
    have hyv := hh lo (by rw [ho]; simp [Op.operands])
    rw [hx] at hxv
    rw [hy] at hyv
    have e1 : a.eval x = V id := by
      generalize a.eval x = q at hxv
      cases hxv with
      | ps _ _ _ hvv hq => exact hq (by rw [hH]; rfl) (by rw [hH])
    have e2 : a.eval lo = .int kd z := by generalize a.eval lo = q at hyv; cases hyv; rfl
    rcases HRel.q_shape hr hH with ⟨rfl, hV⟩ | ⟨b, cap, cur, hV, _, _, hc, _, _⟩
    · have hz0 : z.toNat = 0 := by omega
      have hbd := zq (P := P) (w := w) (isS := true) (len := 0) (cap := 0) (l := 0) (h := 0) (lo := some (.int kd z)) (hi := none) (.inr ⟨kd, z, rfl, h0, hz0⟩) (.inl ⟨rfl, rfl⟩) (Nat.le_refl _) (Nat.le_refl _)
      refine ⟨.slice none 0 0, ?_, ?_⟩
      · simp only [execOp, ho]
        simp [e1, e2, hV, Instr.sliceAt, Instr.slice, run_underlying hu, hbd, sizeOf, typeInfo, hti]
      · rw [hz0]
        exact .qs id 0 _ ver _ (by rw [hH]; exact Nat.le_refl _) fun _ _ => ⟨none, 0, 0, none, hV, rfl, Nat.le_refl _, Nat.le_refl _, .inl ⟨rfl, rfl⟩⟩
    · have hbd := zq (P := P) (w := w) (isS := true) (len := m) (cap := cap) (l := z.toNat) (h := m) (lo := some (.int kd z)) (hi := none) (.inr ⟨kd, z, rfl, h0, rfl⟩) (.inl ⟨rfl, rfl⟩) hz hc
      by_cases hcz : cap = z.toNat
      · refine ⟨.slice (some ⟨b, 0, none⟩) (m - z.toNat) (cap - z.toNat), ?_, ?_⟩
        · simp only [execOp, ho]
          simp [e1, e2, hV, Instr.sliceAt, Instr.slice, run_underlying hu, hbd, sizeOf, typeInfo, hti]
          simp [hcz]
        · exact .qs id _ _ ver _ (by rw [hH]; exact Nat.le_refl _) fun _ _ => ⟨_, m, cap, _, hV, rfl, hz, hc, .inr ⟨b, 0, rfl, rfl, .inr hcz⟩⟩
      · refine ⟨.slice (some ⟨b, z.toNat * ti.size, none⟩) (m - z.toNat) (cap - z.toNat), ?_, ?_⟩
        · simp only [execOp, ho]
          simp [e1, e2, hV, Instr.sliceAt, Instr.slice, run_underlying hu, hbd, sizeOf, typeInfo, hti, hcz, zl]
        · exact .qs id _ _ ver _ (by rw [hH]; exact Nat.le_refl _) fun _ _ => ⟨_, m, cap, _, hV, rfl, hz, hc, .inr ⟨b, _, rfl, rfl, .inl rfl⟩⟩
theorem PQ.sliceFromQ {lo : Operand} {id off ver e k m : Nat} {kd : IntKind} {z : Int} {cs : List PV} {o : Oper} (ho : o.op = .slice t x (some lo) none none) (ht : esz P t = some k) (hx : evP F x = .qs id off k ver) (hH : H id = ⟨ver, some (.row e k m cs)⟩) (hy : evP F lo = .u (.int kd z)) (h0 : 0 ≤ z) (hz : off + z.toNat ≤ m) : PQ P W o F H (.qs id (off + z.toNat) k ver) :=
  PQ.of_run fun V a w hr hh => by
    obtain ⟨e', ti, hu, hti, rfl⟩ := Z7 ht
    have hxv := hh x (by rw [ho]; simp [Op.operands])
    have hyv := hh lo (by rw [ho]; simp [Op.operands])
    rw [hx] at hxv
    rw [hy] at hyv
    have e1 : zgr off ti.size (V id) (a.eval x) := by
      generalize a.eval x = q at hxv
      cases hxv with
      | qs _ _ _ _ _ hvv hq => exact hq (by rw [hH]; rfl) (by rw [hH])
    have e2 : a.eval lo = .int kd z := by generalize a.eval lo = q at hyv; cases hyv; rfl
    obtain ⟨ad, mm, cap, ad', hV, hx1, hoff, hmc, hcase⟩ := e1
    have hmm : mm = m := by
      rcases HRel.q_shape hr hH with ⟨rfl, hV2⟩ | ⟨b, cap2, cur, hV2, _⟩ <;> rw [hV] at hV2 <;> cases hV2 <;> rfl
    subst hmm
    have hbd := zq (P := P) (w := w) (isS := true) (len := mm - off) (cap := cap - off) (l := z.toNat) (h := mm - off) (lo := some (.int kd z)) (hi := none) (.inr ⟨kd, z, rfl, h0, rfl⟩) (.inl ⟨rfl, rfl⟩) (by omega) (by omega)
    refine ⟨.slice (if cap - off = z.toNat then ad' else ad'.map (·.add (z.toNat * ti.size))) (mm - off - z.toNat) (cap - off - z.toNat), ?_, ?_⟩
    · simp only [execOp, ho]
      simp [hx1, e2, Instr.sliceAt, Instr.slice, run_underlying hu, hbd, sizeOf, typeInfo, hti]
    · refine .qs id _ _ ver _ (by rw [hH]; exact Nat.le_refl _) fun _ _ => ⟨ad, mm, cap, _, hV, by rw [show mm - off - z.toNat = mm - (off + z.toNat) by omega, show cap - off - z.toNat = cap - (off + z.toNat) by omega], hz, hmc, ?_⟩
      rcases hcase with ⟨r1, r2⟩ | ⟨b, oo, r1, r2, r3⟩
      · left; subst r2; refine ⟨r1, ?_⟩; split <;> rfl
      · right
        subst r2
        by_cases hc : cap - off = z.toNat
        · exact ⟨b, oo, r1, by rw [if_pos hc], .inr (by omega)⟩
        · refine ⟨b, oo + z.toNat * ti.size, r1, by rw [if_neg hc]; simp [zl], ?_⟩
          rcases r3 with r3 | r3
          · left; rw [r3, Nat.add_mul]
          · right; omega
theorem zns {α : Type} {e kk id : Nat} {rep : α → PV} {q : PV} {xs : List α} (ht : yv P t = true) (ho : ownQ' e kk rep H id q xs) (hx : evP F x = q) : PQ P W ⟨some d, .call { callee := .builtin .len, args := #[x], argTypes := #[t] }, ty, pos, af, g⟩ F H (.u (.int .i64 xs.length)) :=
  PQ.of_run fun V a w hr hh => by
    obtain ⟨off, ver, pre, hq, hp, hH⟩ := ho
    have hxv := hh x (by simp [Op.operands, Call.operands])
    rw [hx, hq] at hxv
    have e1 : zgr off kk (V id) (a.eval x) := by
      generalize a.eval x = q at hxv
      cases hxv with
      | qs _ _ _ _ _ hvv hq => exact hq (by rw [hH]; rfl) (by rw [hH])
    obtain ⟨ad, mm, cap, ad', hV, hx1, hoff, hmc, hcase⟩ := e1
    have hmm : mm = off + xs.length := by
      rcases HRel.q_shape hr hH with ⟨h0, hV2⟩ | ⟨b, cap2, cur, hV2, _⟩ <;> rw [hV] at hV2 <;> cases hV2
      · exact h0.symm
      · rfl
    refine ⟨.int .i64 xs.length, ?_, .u _⟩
    have := L.run_len_slice (P := P) ht ty ad' (mm - off) (cap - off) w
    rw [show mm - off = xs.length by omega] at this
    simp only [execOp, resolve, invoke, builtin, Sem.run_bind, Sem.run_pure, Result.andThen_ok, List.map_toArray, List.map_cons, List.map_nil, hx1, show mm - off = xs.length by omega, this]
theorem zne {α : Type} {e kk id : Nat} {rep : α → PV} {q : PV} {xs : List α} {kd : IntKind} {z : Int} {v : α} (he : esz P t = some kk) (ho : ownQ' e kk rep H id q xs) (hx : evP F x = q) (hy : evP F y = .u (.int kd z)) (hv : idx xs z = some v) (hk : ∀ x, (rep x).cells.length = kk) :
    ∃ off ver, PQ P W ⟨some d, .indexAddr t x y, ty, pos, af, g⟩ F H (.pp id off ver) ∧ qn H id ver = some ((H id).body.elim [] fun b => match b with | .row _ _ _ cs => cs | .box _ cs => cs | _ => []) ∧ ∀ j, j < kk → (((H id).body.elim [] fun b => match b with | .row _ _ _ cs => cs | .box _ cs => cs | _ => []).drop off)[j]? = (rep v).cells[j]? := by
  obtain ⟨off, ver, pre, hq, hp, hH⟩ := ho
  obtain ⟨h0, h1⟩ := y6 hv
  obtain ⟨hlt, hge⟩ := List.getElem?_eq_some_iff.1 h1
  refine ⟨(off + z.toNat) * kk, ver, ?_, ?_, ?_⟩
  · exact PQ.of_run fun V a w hr hh => by
      obtain ⟨e', ti, hu, hti, rfl⟩ := Z7 he
      have hxv := hh x (by simp [Op.operands])
      have hyv := hh y (by simp [Op.operands])
      rw [hx, hq] at hxv
      rw [hy] at hyv
      have e1 : zgr off ti.size (V id) (a.eval x) := by
        generalize a.eval x = q at hxv
        cases hxv with
        | qs _ _ _ _ _ hvv hq => exact hq (by rw [hH]; rfl) (by rw [hH])
      have e2 : a.eval y = .int kd z := by generalize a.eval y = q at hyv; cases hyv; rfl
      obtain ⟨ad, mm, cap, ad', hV, hx1, hoff, hmc, hcase⟩ := e1
      rcases HRel.q_shape hr hH with ⟨h0, hV2⟩ | ⟨b, cap2, cur, hV2, _⟩
      · omega
      · rw [hV] at hV2
        cases hV2
        rcases hcase with ⟨r1, _⟩ | ⟨b', oo, r1, r2, r3⟩
        · cases r1
        · cases r1
          subst r2
          have hoo : oo = off * ti.size := by rcases r3 with r3 | r3; exact r3; omega
          have := L.run_indexAt_slice (P := P) hu hti w b oo (off + xs.length - off) (cap - off) kd z h0 (by omega)
          refine ⟨.pointer (some ⟨b, oo + z.toNat * ti.size, none⟩), by simp only [execOp]; rw [hx1, e2]; simp only [Nat.add_sub_cancel_left] at this ⊢; simp [this], ?_⟩
          rw [hoo, ← Nat.add_mul]
          exact .pp id _ ver _ (by rw [hH]; exact Nat.le_refl _) fun _ _ => ⟨b, by rw [hV]; rfl, rfl⟩
  · rw [yz, hH, zfy, if_pos rfl]; rfl
  · intro j hj
    rw [hH]
    show ((((pre ++ xs).map rep).flatMap PV.cells).drop ((off + z.toNat) * kk))[j]? = _
    rw [List.getElem?_drop]
    have hfa := zci (k := kk) (xs := (pre ++ xs).map rep) (fun y hy => by obtain ⟨u, _, rfl⟩ := List.mem_map.1 hy; exact hk u) (off + z.toNat) j (rep v) (by rw [List.getElem?_map, ← hp, List.getElem?_append_right (by omega)]; simp [h1]) hj
    exact hfa
theorem znr {w : World} {t ty e : TypeId} {i : TypeInfo} (ht : P.underlying t = some (.slice e)) (hi : P.info? e = some i)
    {g off m cap : Nat} {cur : Array Value} (hg : w.heap[g]? = some (.cells cur e (0, 0))) (hoff : off ≤ m)
    {a : Addr} {m2 c : Nat} {news : List Value} (hl : news.length = m2 * i.size) (hnews : ∀ j u, news[j]? = some u → w.cell? (a.add j) = some u) (h1 : ∀ u ∈ news, u.oneCell' = true)
    (hroom : m + m2 ≤ cap) (hfit : m * i.size + news.length ≤ cur.size) :
    (Builtin.append_ #[t, t] ty #[.slice (some ⟨g, off * i.size, none⟩) (m - off) (cap - off), .slice (some a) m2 c]).run P w =
      .ok (.slice (some ⟨g, off * i.size, none⟩) (m - off + m2) (cap - off)) (w.setRow g (cur.toList.take (m * i.size) ++ news ++ cur.toList.drop (m * i.size + news.length)).toArray) := by
  have hf := run_firstCells_some (P := P) w i.size m2 a m2 c news hl hnews
  have hst := run_storeCells_at P g (m * i.size) e news 0 cur w hg (by simpa using hfit) h1
  simp only [Nat.add_zero] at hst
  have hadd : off * i.size + (m - off) * i.size = m * i.size := by rw [← Nat.add_mul]; congr 1; omega
  have hroom' : m - off + m2 ≤ cap - off := by omega
  simp [Builtin.append_, run_underlying ht, sizeOf, typeInfo, hi, Builtin.lenOf, hroom', hf, zl, hadd, hst]
theorem zmr {w : World} {base : Nat} {e : TypeId} {i : TypeInfo} {z : Value} (hzs : z.cells.size = i.size) {n m old : Nat} (ho : old < n + m) {xs news : List Value} (hxs : xs.length = n * i.size) (hl : news.length = m * i.size) (h63 : n + m ≤ maxLen) (hbase : base ≤ w.heap.size) (row : Option Nat) :
    (w.drew.alloc (.cells (xs.toArray ++ news.toArray ++ Builtin.zeroCells z.cells (grownCap w (n + m) old e - (n + m))) e)).ownsRow base e i.size
        (.slice (some ⟨w.heap.size, 0, none⟩) (n + m) (grownCap w (n + m) old e)) (n + m) (xs ++ news) ∧
      w.grownBy (w.drew.alloc (.cells (xs.toArray ++ news.toArray ++ Builtin.zeroCells z.cells (grownCap w (n + m) old e - (n + m))) e)) row := by
  have hge := grownCap_ge w (n + m) old e
  have hcm : grownCap w (n + m) old e ≤ maxLen := grownCap_le_maxLen w (n + m) old e h63
  have hlen : (xs ++ news).length = (n + m) * i.size := by rw [List.length_append, hxs, hl, Nat.add_mul]
  refine ⟨⟨hlen, .inr ⟨w.heap.size, _, _, rfl, hbase, heap_alloc_new w.drew _, hge, hcm, ?_, ?_⟩⟩, ⟨rfl, rfl, rfl, by simp, fun k hk _ => heap_alloc_old w.drew _ hk⟩⟩
  · simp only [Array.size_append, List.size_toArray, size_zeroCells, hzs, hxs, hl, ← Nat.add_mul]
    congr 1
    omega
  · simp only [Array.toList_append, List.append_assoc]
    rw [← List.append_assoc, ← hlen]
    exact List.take_left
theorem PE.appendQ {s x : Operand} {t e : TypeId} {k b d id off ver m m2 : Nat} {z : Value} {cs cs2 : List PV} {K : PV → PHeap → Prop} (ho : o.op = .call { callee := .builtin .append, args := #[s, x], argTypes := #[t, t] }) (hd : o.dst = some d) (hdn : d < n) (ht : zh P t = some (e, k, b, z))
    (hs : evP F s = .qs id off k ver) (hH : H id = ⟨ver, some (.row e k m cs)⟩) (hx : zdp H k (evP F x) = some (m2, cs2)) (hleaf : ∀ p ∈ cs2, ya H p = true) (h63 : m - off + m2 ≤ maxLen) (hbytes : (m - off + m2) * b ≤ 140737488355328)
    (hk1 : K (.qs id off k (ver + 1)) (H.set id ⟨ver + 1, some (.row e k (m + m2) (cs ++ cs2))⟩))
    (hk2 : K (.qs id 0 k (ver + 1)) (H.set id ⟨ver + 1, some (.row e k (m - off + m2) (cs.drop (off * k) ++ cs2))⟩)) : PE P W n o F H K := fun V a w hr => by
  obtain ⟨i, hu, hi, hzz, hsz, rfl, hzs, hpos⟩ := Vl ht
  have hb : (H id).body = some (.row e k m cs) := by rw [hH]
  have hve : (H id).ver = ver := by rw [hH]
  have hsv : zgr off k (V id) (a.eval s) := by
    have := Rp.eval (P := P) (F := F) (a := a) (Z := W.Z) (H := H) (V := V) (w := w) s fun t _ => hr.slot t
    rw [hs] at this
    generalize a.eval s = q at this
    cases this with
    | qs _ _ _ _ _ hvv hh => exact hh (by rw [hb]; rfl) hve
  obtain ⟨vals, hown, hR, h1⟩ := hr.heap.row id e k m cs hb
  obtain ⟨ad, c, hxv, hsrc⟩ := zdn hr.heap (Rp.eval (P := P) (F := F) (a := a) x fun t _ => hr.slot t) hx
  have hsrc2 : ∃ news, RpL W.Z H V w cs2 news ∧ (∀ u ∈ news, u.oneCell' = true) ∧ ((m2 = 0 ∧ news = []) ∨ ∃ b, ad = some b ∧ news.length = m2 * k ∧ (∀ j u, news[j]? = some u → w.cell? (b.add j) = some u) ∧ ∀ u ∈ news, u.oneCell' = true) := by
    rcases hsrc with ⟨rfl, rfl⟩ | ⟨b, news, e1, e2, hRn, e4⟩
    · exact ⟨[], ⟨rfl, fun i p v h => by simp at h⟩, (fun u hu => by cases hu), .inl ⟨rfl, rfl⟩⟩
    · have hone : ∀ u ∈ news, u.oneCell' = true := fun u hu => by
        obtain ⟨j, hj, rfl⟩ := List.getElem_of_mem hu
        have hj2 : j < cs2.length := by rw [hRn.1]; exact hj
        exact (hRn.2 j _ _ (List.getElem?_eq_getElem hj2) (List.getElem?_eq_getElem hj)).leaf hr.heap (hleaf _ (List.getElem_mem hj2))
      exact ⟨news, hRn, hone, .inr ⟨b, e1, e2, e4, hone⟩⟩
  obtain ⟨news, hRn, hone, hs2⟩ := hsrc2
  have hob := Jf hown
  obtain ⟨ad0, mm, cap, ad1, hV, hv1, hoff, hmc, hcase⟩ := hsv
  have hmm : mm = m := by
    rcases hown.2 with ⟨e1, h0⟩ | ⟨g', cap', cur', e1, _⟩ <;> rw [hV] at e1 <;> cases e1
    · exact h0.symm
    · rfl
  subst hmm
  -- what the two ways have in common
  have fin : ∀ (off' mn : Nat) (v' vf : Value) (w' : World) (csn : List PV) (vn : List Value),
      (execOp a.eval o).run P w = .ok (.value v') w' → w'.ownsRow W.w.heap.size e k vf mn vn → w.grownBy w' (V id).ownBlock →
      (∀ g, qx vf = some g → w.heap.size ≤ g ∨ qx (V id) = some g) → zgr off' k vf v' → RpL W.Z H V w csn vn → (∀ u ∈ vn, u.oneCell' = true) →
      K (.qs id off' k (ver + 1)) (H.set id ⟨ver + 1, some (.row e k mn csn)⟩) →
      o.wp P a w (fun a' w' => ∃ p H' V', K p H' ∧ Rel P W n (F.put o.dst p) H' V' a' w') (fun _ _ _ => False) := by
    intro off' mn v' vf w' csn vn hex hown' hgr hblk hdr hRc hc1 hk
    refine Jn hex ⟨_, _, yi V id vf, hk, ?_⟩
    have hturn : Turn W H V w id ⟨ver + 1, some (.row e k mn csn)⟩ vf w' := by
      refine ⟨hr.heap.below.grown hgr hr.heap.below.size fun kk hk => ?_, hgr.size, fun bb hlt hn => hgr.block bb hlt fun e' => hn ⟨by rw [hb]; rfl, by rw [← hob]; exact e'.symm⟩, fun g hg => ?_, .inl (by show (H id).ver < ver + 1; omega)⟩
      · exact (hown.lt kk hk).1
      · rcases hblk g hg with h | h
        · exact .inl h
        · exact .inr ⟨by rw [hb]; rfl, h⟩
    rw [hd]
    refine hr.turn hturn (fun bd hbd => ?_) (some d) (fun t ht => by cases ht; exact hdn) ?_
    · cases hbd
      exact ⟨vn, hown', ⟨hRc.1, fun i p v h3 h4 => hturn.rp (hRc.2 i p v h3 h4)⟩, hc1⟩
    · refine .qs _ _ _ _ _ ?_ fun _ _ => ?_
      · simp [PHeap.set]
      · simpa [yi] using hdr
  have hRapp : RpL W.Z H V w (cs ++ cs2) (vals ++ news) := ⟨by simp [hR.1, hRn.1], fun i p v h3 h4 => by
    by_cases hi' : i < cs.length
    · rw [List.getElem?_append_left hi'] at h3
      rw [List.getElem?_append_left (by rw [← hR.1]; exact hi')] at h4
      exact hR.2 i p v h3 h4
    · rw [List.getElem?_append_right (by omega)] at h3
      rw [List.getElem?_append_right (by rw [← hR.1]; omega), ← hR.1] at h4
      exact hRn.2 _ p v h3 h4⟩
  have happ1 : ∀ u ∈ vals ++ news, u.oneCell' = true := fun u hu => by
    rcases List.mem_append.1 hu with hu | hu
    · exact h1 u hu
    · exact hone u hu
  have hcsl : cs.length = mm * k := by rw [hR.1, hown.1]
  have hexe : ∀ {v' w'}, (Builtin.append_ #[t, t] o.type #[.slice ad1 (mm - off) (cap - off), .slice ad m2 c]).run P w = .ok v' w' → (execOp a.eval o).run P w = .ok (.value v') w' := fun hrun => by
    unfold execOp
    simp only [ho, resolve, invoke, builtin, Sem.run_bind, Sem.run_pure, Result.andThen_ok, List.map_toArray, List.map_cons, List.map_nil, hv1, hxv, hrun]
  rcases hs2 with ⟨rfl, rfl⟩ | ⟨bb, rfl, hl, hc, h1n⟩
  · -- nothing is appended
    have hcs2 : cs2 = [] := List.eq_nil_of_length_eq_zero (by simpa using hRn.1)
    subst hcs2
    refine fin off mm (.slice ad1 (mm - off) (cap - off)) (V id) w (cs ++ []) (vals ++ []) (hexe ?_) (by simpa using hown) ⟨rfl, rfl, rfl, Nat.le_refl _, fun _ _ _ => rfl⟩ (fun g hg => .inr hg) ⟨_, _, _, _, hV, rfl, hoff, hmc, hcase⟩ (by simpa using hRapp) (by simpa using happ1) (by simpa using hk1)
    rcases hcase with ⟨rfl, rfl⟩ | ⟨bk, oo, rfl, rfl, _⟩
    · rcases hown.2 with ⟨e1, h0⟩ | ⟨g', cap', cur', e1, _⟩ <;> rw [hV] at e1 <;> cases e1
      cases ad <;> simp [Builtin.append_, run_underlying hu, sizeOf, typeInfo, hi, Builtin.lenOf, Builtin.firstCells, loadCells, loadCellsFrom]
    · have : mm - off ≤ cap - off := Nat.sub_le_sub_right hmc _
      cases ad <;> simp [Builtin.append_, run_underlying hu, sizeOf, typeInfo, hi, Builtin.lenOf, Builtin.firstCells, loadCells, loadCellsFrom, this, storeCells]
  · rcases hown.2 with ⟨e1, h0⟩ | ⟨g, cap', cur, e1, hbg, hg0, hcap, hcm, hcs, htake⟩
    · -- nil
      rw [hV] at e1
      cases e1
      have hoff0 : off = 0 := by omega
      subst hoff0
      have had : ad1 = none := by
        rcases hcase with ⟨_, r⟩ | ⟨_, _, r, _⟩
        · exact r
        · cases r
      subst had
      have hcs0 : cs = [] := List.eq_nil_of_length_eq_zero (by simpa using hcsl)
      subst hcs0
      have hv0 : vals = [] := List.eq_nil_of_length_eq_zero (by simpa using hown.1)
      subst hv0
      obtain ⟨v', w', hrun, h4, h5, h6⟩ := run_append_own (P := P) w W.w.heap.size t o.type e i z k i.bytes hu hi hzz hsz rfl hzs hpos (.slice none 0 0) 0 [] (World.ownsRow_nil _ _ _ _) bb m2 c news hl hc h1n (by omega) (by simpa using hbytes) hr.heap.below.size
      obtain ⟨v'', w'', hrun2, h42, _⟩ := run_append_own (P := P) w w.heap.size t o.type e i z k i.bytes hu hi hzz hsz rfl hzs hpos (.slice none 0 0) 0 [] (World.ownsRow_nil _ _ _ _) bb m2 c news hl hc h1n (by omega) (by simpa using hbytes) (Nat.le_refl _)
      rw [hrun] at hrun2
      cases hrun2
      have hfresh : ∀ g, qx v' = some g → w.heap.size ≤ g := fun g hg => by
        refine (h42.lt g ?_).1
        rw [Jf h42]; exact hg
      have hdr : zgr 0 k v' v' := by
        rcases h4.2 with ⟨e1, e2⟩ | ⟨g', cap', cur', e1, _, _, e5, _⟩
        · exact ⟨none, 0, 0, none, e1, e1, Nat.le_refl _, Nat.le_refl _, .inl ⟨rfl, rfl⟩⟩
        · exact ⟨_, _, _, _, e1, e1, Nat.zero_le _, e5, .inr ⟨g', 0, rfl, rfl, .inl (by simp)⟩⟩
      exact fin 0 (0 - 0 + m2) v' v' w' _ ([] ++ news) (hexe hrun) (by simpa using h4) (by rw [hV]; exact h5) (fun g hg => .inl (hfresh g hg)) hdr (by simpa using hRapp) (by simpa using happ1) hk2
    · rw [hV] at e1
      cases e1
      obtain ⟨oo, rfl, hoo⟩ : ∃ oo, ad1 = some ⟨g, oo, none⟩ ∧ (oo = off * k ∨ cap = off) := by
        rcases hcase with ⟨r, _⟩ | ⟨b', o', r1, r2, r3⟩
        · cases r
        · cases r1; exact ⟨o', r2, r3⟩
      subst hsz
      by_cases hroom : mm + m2 ≤ cap
      · by_cases hm2 : m2 = 0
        · subst hm2
          have hn0 : news = [] := List.eq_nil_of_length_eq_zero (by simpa using hl)
          subst hn0
          have hcs2 : cs2 = [] := List.eq_nil_of_length_eq_zero (by simpa using hRn.1)
          subst hcs2
          refine fin off mm (.slice (some ⟨g, oo, none⟩) (mm - off) (cap - off)) (V id) w (cs ++ []) (vals ++ []) (hexe ?_) (by simpa using hown) ⟨rfl, rfl, rfl, Nat.le_refl _, fun _ _ _ => rfl⟩ (fun g hg => .inr hg) ⟨_, _, _, _, hV, rfl, hoff, hmc, hcase⟩ (by simpa using hRapp) (by simpa using happ1) (by simpa using hk1)
          have : mm - off ≤ cap - off := by omega
          simp [Builtin.append_, run_underlying hu, sizeOf, typeInfo, hi, Builtin.lenOf, Builtin.firstCells, loadCells, loadCellsFrom, this, storeCells]
        · have hoo' : oo = off * i.size := by rcases hoo with h | h; exact h; omega
          subst hoo'
          have hfit : mm * i.size + news.length ≤ cur.size := by rw [hl, hcs, ← Nat.add_mul]; exact Nat.mul_le_mul_right _ hroom
          have hr1 := znr (P := P) (c := c) (ty := o.type) hu hi hg0 hoff hl hc h1n hroom hfit
          have hlen : (vals ++ news).length = (mm + m2) * i.size := by rw [List.length_append, hown.1, hl, Nat.add_mul]
          have heq : mm - off + m2 = mm + m2 - off := (Nat.sub_add_comm hoff).symm
          refine fin off (mm + m2) _ (.slice (some ⟨g, 0, none⟩) (mm + m2) cap) _ (cs ++ cs2) (vals ++ news) (hexe hr1) ⟨hlen, .inr ⟨g, cap, _, rfl, hbg, setRow_heap w g cur _ e _ hg0, hroom, hcm, ?_, ?_⟩⟩ ⟨rfl, rfl, rfl, by simp, fun k _ hk => setRow_other w g k _ (fun e => hk (by rw [hV]; simp [Value.ownBlock, e]))⟩ (fun g' hg' => .inr (by rw [hV]; exact hg')) ⟨_, _, _, _, rfl, by rw [heq], Nat.le_trans hoff (Nat.le_add_right _ _), hroom, .inr ⟨g, _, rfl, rfl, .inl rfl⟩⟩ hRapp happ1 hk1
          · simp only [List.size_toArray, List.length_append, List.length_take, List.length_drop, Array.length_toList]
            omega
          · rw [htake, ← hlen]
            exact List.take_left
      · have holds : ∀ j u, (vals.drop (off * i.size))[j]? = some u → w.cell? ((⟨g, oo, none⟩ : Addr).add j) = some u := fun j u hj => by
          by_cases he : cap = off
          · have hmo : mm = off := by omega
            have : (vals.drop (off * i.size)).length = 0 := by rw [List.length_drop, hown.1, hmo]; omega
            rw [List.eq_nil_of_length_eq_zero this] at hj; cases hj
          · have hoo' : oo = off * i.size := by rcases hoo with h | h; exact h; omega
            subst hoo'
            rw [List.getElem?_drop] at hj
            have := hown.cells (g := g) (by rw [hV]; rfl) _ _ hj
            rw [zl] at this
            rw [zl]
            simpa using this
        have hlo : (vals.drop (off * i.size)).length = (mm - off) * i.size := by rw [List.length_drop, hown.1, Nat.sub_mul]
        have h63' : ((mm - off + m2 : Nat) : Int) ≤ 9223372036854775807 := by simp only [maxLen] at h63; omega
        have hr1 := run_append_grow (P := P) w t o.type e i z hu hi hzz ⟨g, oo, none⟩ (mm - off) (cap - off) (vals.drop (off * i.size)) hlo holds bb m2 c news hl hc (by omega) h63' (growslice_fits (by omega) hbytes)
        obtain ⟨hg1, hg2⟩ := zmr (w := w) (base := W.w.heap.size) (e := e) hzs (old := cap - off) (by omega) hlo hl h63 hr.heap.below.size (V id).ownBlock
        refine fin 0 (mm - off + m2) _ _ _ (cs.drop (off * i.size) ++ cs2) _ (hexe hr1) hg1 hg2 (fun g' hg' => .inl (by cases hg'; exact Nat.le_refl _)) ⟨_, _, _, _, rfl, rfl, Nat.zero_le _, grownCap_ge w _ _ e, .inr ⟨_, 0, rfl, rfl, .inl (by simp)⟩⟩ ⟨?_, fun i' p v h3 h4 => ?_⟩ (fun u hu => ?_) hk2
        · simp [hR.1, hRn.1]
        · by_cases hi' : i' < (cs.drop (off * i.size)).length
          · rw [List.getElem?_append_left hi', List.getElem?_drop] at h3
            rw [List.getElem?_append_left (by simpa [← hR.1] using hi'), List.getElem?_drop] at h4
            exact hR.2 _ p v h3 h4
          · rw [List.getElem?_append_right (by omega)] at h3
            have hle : (vals.drop (off * i.size)).length = (cs.drop (off * i.size)).length := by simp [hR.1]
            rw [List.getElem?_append_right (by omega), hle] at h4
            exact hRn.2 _ p v h3 h4
        · rcases List.mem_append.1 hu with hu | hu
          · exact h1 u (List.mem_of_mem_drop hu)
          · exact hone u hu
def ownQ {α : Type} (e k : Nat) (rep : α → PV) (H : PHeap) (id : Nat) (q : PV) (xs : List α) : Prop := ownL e k rep H id q xs ∨ ownQ' e k rep H id q xs
theorem ownQ.mono {α : Type} {e k id : Nat} {rep : α → PV} {H H' : PHeap} {q : PV} {xs : List α} (h : ownQ e k rep H id q xs) (he : H' id = H id) : ownQ e k rep H' id q xs := h.imp (fun h => h.mono he) (fun h => h.mono he)
theorem zov {α : Type} {e kk id : Nat} {rep : α → PV} {q : PV} {xs : List α} (ht : yv P t = true) (ho : ownQ e kk rep H id q xs) (hx : evP F x = q) : PQ P W ⟨some d, .call { callee := .builtin .len, args := #[x], argTypes := #[t] }, ty, pos, af, g⟩ F H (.u (.int .i64 xs.length)) := by
  rcases ho with ho | ho
  · exact ju (Vu ht ho hx)
  · exact zns ht ho hx
theorem zmo {α : Type} {rep : α → PV} {k : Nat} (hk : ∀ x, (rep x).cells.length = k) (xs : List α) {z j : Nat} {v : α} (hv : xs[z]? = some v) (hj : j < k) : (((xs.map rep).flatMap PV.cells).drop (z * k))[j]? = (rep v).cells[j]? := by
  rw [List.getElem?_drop]
  exact zci (k := k) (xs := xs.map rep) (fun y hy => by obtain ⟨u, _, rfl⟩ := List.mem_map.1 hy; exact hk u) z j (rep v) (by rw [List.getElem?_map, hv]; rfl) hj
theorem zke {cs : List PV} {k : Nat} {c : List PV} (hc : c.length = k) (h : ∀ j, j < k → cs[j]? = c[j]?) : (∀ p, c = [p] → vy false k cs = some p) ∧ vy true k cs = some (.agg c) := by
  constructor
  · intro p hp
    subst hp
    have := h 0 (by simp at hc; omega)
    rw [Zl, this]; rfl
  · have hl : k ≤ cs.length := by
      by_cases h0 : k = 0
      · omega
      · have := h (k - 1) (by omega)
        rw [List.getElem?_eq_getElem (l := c) (by omega)] at this
        obtain ⟨hlt, _⟩ := List.getElem?_eq_some_iff.1 this
        omega
    rw [zc7 _ _ hl]
    congr 2
    apply List.ext_getElem?
    intro i
    rw [List.getElem?_take]
    split
    · rename_i hi; exact h i hi
    · rename_i hi; rw [List.getElem?_eq_none (by omega)]
theorem zo0 {α : Type} {e kk id : Nat} {rep : α → PV} {q : PV} {xs : List α} {kd : IntKind} {z : Int} {v : α} (he : esz P t = some kk) (hk : ∀ x, (rep x).cells.length = kk) (ho : ownQ e kk rep H id q xs) (hx : evP F x = q) (hy : evP F y = .u (.int kd z)) (hv : idx xs z = some v) :
    ∃ p, PQ P W ⟨some d, .indexAddr t x y, ty, pos, af, g⟩ F H p ∧ ∃ cs, (∀ t', Qa P H t' p = (asz P t').elim none fun r => vy r.1 r.2 cs) ∧ (∀ pv, (rep v).cells = [pv] → vy false kk cs = some pv) ∧ vy true kk cs = some (.agg (rep v).cells) := by
  rcases ho with ho | ho
  · obtain ⟨hq, hH⟩ := ho.at hv
    obtain ⟨h0, h1⟩ := y6 hv
    refine ⟨_, ju (z7 he ho hx hy hv), _, fun t' => by rw [Vk, yz, hH, zfy, if_pos rfl]; rfl, ?_⟩
    exact zke (hk v) fun j hj => zmo hk xs h1 hj
  · obtain ⟨off, ver, h1, h2, h3⟩ := zne (ty := ty) (pos := pos) (af := af) (g := g) (d := d) (W := W) he ho hx hy hv hk
    refine ⟨_, h1, _, fun t' => by rw [Vk, h2]; rfl, ?_⟩
    exact zke (hk v) h3
theorem q_ld1 {p pv : PV} {kk : Nat} {cs : List PV} (ht : asz P t = some (false, kk)) (hx : evP F x = p) (h1 : ∀ t', Qa P H t' p = (asz P t').elim none fun r => vy r.1 r.2 cs) (h2 : vy false kk cs = some pv) : qu P H F ⟨some d, .load t x, ty, pos, af, g⟩ = some pv := by
  rw [J7, hx, h1, ht]; exact h2
theorem q_ldA {p pv : PV} {kk : Nat} {cs : List PV} (ht : asz P t = some (true, kk)) (hx : evP F x = p) (h1 : ∀ t', Qa P H t' p = (asz P t').elim none fun r => vy r.1 r.2 cs) (h2 : vy true kk cs = some pv) : qu P H F ⟨some d, .load t x, ty, pos, af, g⟩ = some pv := by
  rw [J7, hx, h1, ht]; exact h2
theorem znh {α : Type} {e kk id : Nat} {rep : α → PV} {q : PV} {xs ys : List α} {lo : Operand} {kd : IntKind} {z : Int} (he : esz P t = some kk) (hk : ∀ x, (rep x).cells.length = kk) (ho : ownQ e kk rep H id q xs) (hx : evP F x = q) (hy : evP F lo = .u (.int kd z)) (hs : zfp xs z xs.length = some ys) (hz : z ≠ 0) :
    ∃ p, PQ P W ⟨some d, .slice t x (some lo) none none, ty, pos, af, g⟩ F H p ∧ ownQ e kk rep H id p ys := by
  obtain ⟨⟨h0, _, h1, _⟩, rfl⟩ := zik hs
  simp only [Int.toNat_natCast, List.take_length] at h1 ⊢
  have hzn : z.toNat ≠ 0 := by omega
  rcases ho with ho | ⟨off, ver, pre, hq, hp, hH⟩
  · obtain ⟨ver, hq, hH⟩ := OwnS.pos ho (by omega)
    subst hq
    refine ⟨_, PQ.sliceFrom rfl he hx hH hy h0 h1, .inr ⟨z.toNat, ver, xs.take z.toNat, rfl, by simp; omega, ?_⟩⟩
    rw [List.take_append_drop, List.length_drop, show z.toNat + (xs.length - z.toNat) = xs.length by omega]
    exact hH
  · subst hq
    refine ⟨_, PQ.sliceFromQ rfl he hx hH hy h0 (by omega), .inr ⟨off + z.toNat, ver, pre ++ xs.take z.toNat, rfl, by simp [hp]; omega, ?_⟩⟩
    rw [List.append_assoc, List.take_append_drop, List.length_drop, show off + z.toNat + (xs.length - z.toNat) = off + xs.length by omega]
    exact hH
theorem PL.appQ {α : Type} {rep : α → PV} {e k b d id : Nat} {z : Value} {q : PV} {xs ys zs : List α} (hg : o.guard = none) (ho : o.op = .call { callee := .builtin .append, args := #[x, y], argTypes := #[t, t] }) (hd : o.dst = some d) (hdn : d < n) (ht : zh P t = some (e, k, b, z))
    (hs : evP F x = q) (hr : ownQ e k rep H id q xs) (hp : evP F y = .sl k (ys.map rep)) (hk : ∀ x, (rep x).cells.length = k) (hleaf : ∀ x, ∀ c ∈ (rep x).cells, ya H c = true) (hz : app b xs ys = some zs)
    (h : ∀ q' H', ownQ e k rep H' id q' zs → (∀ j, j ≠ id → H' j = H j) → PL P W n ops l (F.put (some d) q') H' K) : PL P W n ops (o :: l) F H K := by
  obtain ⟨h1, h2, rfl⟩ := zg5 hz
  rcases hr with hr | ⟨off, ver, pre, hq, hpl, hH⟩
  · exact PL.appendL hg ho hd hdn ht hs hr hp hk hleaf h1 h2 fun q' H' h3 h4 => h q' H' (.inl h3) h4
  · subst hq
    have hfl : ∀ (us : List α), ((us.map rep).flatMap PV.cells).length = us.length * k := fun us => by
      have := L.flat_length (k := k) (us.map rep) (fun y hy => by obtain ⟨z, _, rfl⟩ := List.mem_map.1 hy; exact hk z)
      simpa using this
    refine PL.pe hg (PE.appendQ (off := off) (m := off + xs.length) (m2 := ys.length) (cs2 := (ys.map rep).flatMap PV.cells) ho hd hdn ht hs hH (by rw [hp]; simp [zdp]) (fun p hp => ?_) (by omega) (by rw [show off + xs.length - off + ys.length = xs.length + ys.length by omega]; exact h2) ?_ ?_)
    · obtain ⟨y, hy, hc⟩ := List.mem_flatMap.1 hp
      obtain ⟨z, _, rfl⟩ := List.mem_map.1 hy
      exact hleaf z p hc
    · rw [hd]
      refine h _ _ (.inr ⟨off, ver + 1, pre, rfl, hpl, ?_⟩) fun j hj => by simp [PHeap.set, hj]
      simp [PHeap.set, Nat.add_assoc]
    · rw [hd]
      refine h _ _ (.inr ⟨0, ver + 1, [], rfl, rfl, ?_⟩) fun j hj => by simp [PHeap.set, hj]
      have e1 : (((pre ++ xs).map rep).flatMap PV.cells).drop (off * k) = (xs.map rep).flatMap PV.cells := by
        rw [List.map_append, List.flatMap_append, ← hpl, ← hfl pre]
        exact List.drop_left
      rw [e1]
      simp [PHeap.set]
theorem PL.ex {R : PV → Prop} (hg : o.guard = none) (hd : y7 n o) (h : ∃ p, PQ P W o F H p ∧ R p) (k : ∀ p, R p → PL P W n ops l (F.put o.dst p) H K) : PL P W n ops (o :: l) F H K := by
  obtain ⟨p, h1, h2⟩ := h
  exact PL.qq hg hd h1 (k p h2)
end
end Go.Proofs.Ytpohfkgjghiofaa

namespace Go.Proofs
open Go.Shelf
def Try.lays189_ren : Go.Shelf.Ren := ⟨fun | 189 => 28 | 125 => 48 | 257 => 47 | 128 => 67 | 129 => 68 | 294 => 58 | 295 => 59 | 296 => 60 | 297 => 61 | 298 => 62 | 299 => 63 | 216 => 64 | 300 => 65 | 301 => 66 | 328 => 83 | 329 => 84 | 330 => 85 | 331 => 86 | 332 => 87 | 215 => 88 | 343 => 94 | n => n, fun | 28 => 24 | 3 => 3 | 46 => 88 | 0 => 0 | 51 => 110 | 53 => 80 | 4 => 4 | 183 => 102 | 182 => 101 | 131 => 107 | 5 => 5 | 9 => 9 | 218 => 125 | 222 => 129 | 228 => 139 | 229 => 140 | n => n, fun | n => n⟩
theorem Try.lays189 : Go.Proofs.Lays.n189 Try.prog Try.lays189_ren := {
  mixed := by kernel_rfl
  f125 := Try.func48.trans (congrArg some (by kernel_rfl))
  f128 := Try.func67.trans (congrArg some (by kernel_rfl))
  f129 := Try.func68.trans (congrArg some (by kernel_rfl))
  f189 := Try.func28.trans (congrArg some (by kernel_rfl))
  f215 := Try.func88.trans (congrArg some (by kernel_rfl))
  f216 := Try.func64.trans (congrArg some (by kernel_rfl))
  f257 := Try.func47.trans (congrArg some (by kernel_rfl))
  f294 := Try.func58.trans (congrArg some (by kernel_rfl))
  f295 := Try.func59.trans (congrArg some (by kernel_rfl))
  f296 := Try.func60.trans (congrArg some (by kernel_rfl))
  f297 := Try.func61.trans (congrArg some (by kernel_rfl))
  f298 := Try.func62.trans (congrArg some (by kernel_rfl))
  f299 := Try.func63.trans (congrArg some (by kernel_rfl))
  f300 := Try.func65.trans (congrArg some (by kernel_rfl))
  f301 := Try.func66.trans (congrArg some (by kernel_rfl))
  f328 := Try.func83.trans (congrArg some (by kernel_rfl))
  f329 := Try.func84.trans (congrArg some (by kernel_rfl))
  f330 := Try.func85.trans (congrArg some (by kernel_rfl))
  f331 := Try.func86.trans (congrArg some (by kernel_rfl))
  f332 := Try.func87.trans (congrArg some (by kernel_rfl))
  f343 := Try.func94.trans (congrArg some (by kernel_rfl))
  t0 := Try.underlying0
  a0 := Try.isAgg0
  z0 := Try.sizeOf0
  v0 := Try.zeroValue0
  t3 := Try.underlying3
  a3 := Try.isAgg3
  z3 := Try.sizeOf3
  v3 := Try.zeroValue3
  t4 := Try.underlying4
  a4 := Try.isAgg4
  z4 := Try.sizeOf4
  v4 := Try.zeroValue4
  t5 := Try.underlying5
  a5 := Try.isAgg5
  z5 := Try.sizeOf5
  v5 := Try.zeroValue5
  t9 := Try.underlying9
  a9 := Try.isAgg9
  z9 := Try.sizeOf9
  v9 := Try.zeroValue9
  t28 := Try.underlying24
  a28 := Try.isAgg24
  z28 := Try.sizeOf24
  v28 := Try.zeroValue24
  t46 := Try.underlying88
  a46 := Try.isAgg88
  z46 := Try.sizeOf88
  v46 := Try.zeroValue88
  t51 := Try.underlying110
  a51 := Try.isAgg110
  z51 := Try.sizeOf110
  v51 := Try.zeroValue110
  t53 := Try.underlying80
  a53 := Try.isAgg80
  z53 := Try.sizeOf80
  v53 := Try.zeroValue80
  t131 := Try.underlying107
  a131 := Try.isAgg107
  z131 := Try.sizeOf107
  v131 := Try.zeroValue107
  t182 := Try.underlying101
  a182 := Try.isAgg101
  z182 := Try.sizeOf101
  v182 := Try.zeroValue101
  t183 := Try.underlying102
  a183 := Try.isAgg102
  z183 := Try.sizeOf102
  v183 := Try.zeroValue102
  t218 := Try.underlying125
  a218 := Try.isAgg125
  z218 := Try.sizeOf125
  v218 := Try.zeroValue125
  t222 := Try.underlying129
  a222 := Try.isAgg129
  z222 := Try.sizeOf129
  v222 := Try.zeroValue129
  t228 := Try.underlying139
  a228 := Try.isAgg139
  z228 := Try.sizeOf139
  v228 := Try.zeroValue139
  t229 := Try.underlying140
  a229 := Try.isAgg140
  z229 := Try.sizeOf140
  v229 := Try.zeroValue140 }
open Go.Sort Go.RowKit in
theorem Try.slices_Sort_int (blk off cap : Nat) (zs : List Int) (w : World) (hH : Holds (Value.int .i64) w blk off zs.toArray) (hblk : blk < w.heap.size) (hsz : zs.length < 4611686018427387904) :
    Calls Try.prog 28 #[.slice (some ⟨blk, off, none⟩) zs.length cap] w fun e w' =>
      e = .returned (.tuple #[]) ∧ ∃ n os, w' = grow (putRow (Value.int .i64) (Sort.ahead w n) blk off (zs.mergeSort fun x y => decide (x ≤ y)).toArray) os := Any.slices_Sort_int Try.lays189 blk off cap zs w hH hblk hsz
def Try.laysNm215_ren : Go.Shelf.Ren := ⟨fun | 15 => 32 | n => n, fun | 22 => 24 | 3 => 3 | 4 => 4 | n => n, fun | n => n⟩
theorem Try.laysNm215 : Go.Proofs.Lays2.n15 Try.prog Try.laysNm215_ren := {
  mixed := by kernel_rfl
  f15 := Try.func32.trans (congrArg some (by kernel_rfl))
  t3 := Try.underlying3
  a3 := Try.isAgg3
  z3 := Try.sizeOf3
  v3 := Try.zeroValue3
  t4 := Try.underlying4
  a4 := Try.isAgg4
  z4 := Try.sizeOf4
  v4 := Try.zeroValue4
  t22 := Try.underlying24
  a22 := Try.isAgg24
  z22 := Try.sizeOf24
  v22 := Try.zeroValue24
  i3 := by kernel_rfl }
open Go.RowKit Go.Lib in
theorem Try.slices_Clone_int (b off n c : Nat) (zs : List Int) (w : World) (hz : n ≤ zs.length) (hbig : n * 8 ≤ 140737488355328) (hc : ∀ j, j < zs.length → w.cell? ⟨b, off + j, none⟩ = some (.int .i64 (zs.getD j 0))) :
    Calls Try.prog 32 #[.slice (some ⟨b, off, none⟩) n c] w fun e w' => ∃ v', e = .returned v' ∧ w'.ownsRow w.heap.size 3 1 v' n ((zs.take n).map (Value.int .i64)) ∧ v' ≠ .slice none 0 0 ∧ Below w.heap.size w w' := Any.slices_Clone_int Try.laysNm215 b off n c zs w hz hbig hc
open Go.RowKit Go.Lib in
theorem Try.slices_Clone_int_nil (n c : Nat) (w : World) :
    Calls Try.prog 32 #[.slice none n c] w fun e w' => e = .returned (.slice none 0 0) ∧ w' = w := Any.slices_Clone_int_nil Try.laysNm215 n c w
open Go.RowKit Go.Lib in
theorem Try.slices_Clone_int_zero (a : Addr) (c : Nat) (w : World) :
    Calls Try.prog 32 #[.slice (some a) 0 c] w fun e w' => ∃ v', e = .returned v' ∧ w'.ownsRow w.heap.size 3 1 v' 0 [] ∧ v' ≠ .slice none 0 0 ∧ Below w.heap.size w w' := Any.slices_Clone_int_zero Try.laysNm215 a c w
def Try.laysNm220_ren : Go.Shelf.Ren := ⟨fun | 20 => 29 | n => n, fun | 22 => 24 | 3 => 3 | 4 => 4 | 0 => 0 | n => n, fun | n => n⟩
theorem Try.laysNm220 : Go.Proofs.Lays2.n20 Try.prog Try.laysNm220_ren := {
  mixed := by kernel_rfl
  f20 := Try.func29.trans (congrArg some (by kernel_rfl))
  t0 := Try.underlying0
  a0 := Try.isAgg0
  z0 := Try.sizeOf0
  v0 := Try.zeroValue0
  t3 := Try.underlying3
  a3 := Try.isAgg3
  z3 := Try.sizeOf3
  v3 := Try.zeroValue3
  t4 := Try.underlying4
  a4 := Try.isAgg4
  z4 := Try.sizeOf4
  v4 := Try.zeroValue4
  t22 := Try.underlying24
  a22 := Try.isAgg24
  z22 := Try.sizeOf24
  v22 := Try.zeroValue24
  i3 := by kernel_rfl }
open Go.RowKit Go.Lib Go.Sort in
theorem Try.slices_Compact_int (blk off cap : Nat) (zs : List Int) (w : World) (hH : Holds (Value.int .i64) w blk off zs.toArray) (hsz : zs.length ≤ 9223372036854775807) (hcap : zs.length ≤ cap) :
    Calls Try.prog 29 #[.slice (some ⟨blk, off, none⟩) zs.length cap] w fun e w' => e = .returned (.slice (some ⟨blk, off, none⟩) (Lib.compact zs).length cap) ∧ ∃ q, w' = putRow (Value.int .i64) (Sort.ahead w q) blk off (Lib.compact zs ++ List.replicate (zs.length - (Lib.compact zs).length) 0).toArray := Any.slices_Compact_int Try.laysNm220 blk off cap zs w hH hsz hcap
open Go.RowKit Go.Lib Go.Sort in
theorem Try.slices_Compact_int_empty (a : Option Addr) (cap : Nat) (w : World) :
    Calls Try.prog 29 #[.slice a 0 cap] w fun e w' => e = .returned (.slice a 0 cap) ∧ w' = w := Any.slices_Compact_int_empty Try.laysNm220 a cap w
open Go.RowKit Go.Sort in
theorem Try.slices_Sort_int_none (p : Option Addr) (cap : Nat) (w : World) :
    Calls Try.prog 28 #[.slice p 0 cap] w fun e w' => e = .returned (.tuple #[]) ∧ w' = w := Any.slices_Sort_int_none Try.lays189 p cap w
end Go.Proofs

namespace Go.Proofs.Ytpohfkgjghiofaa
open Go
def zbp (l : List Int) : List Int := l.mergeSort fun x y => decide (x ≤ y)
def zbf (l : List Int) : List Int := Lib.compact l
end Go.Proofs.Ytpohfkgjghiofaa

namespace Go.Proofs.Ytpohfkgjghiofaa
open Go.RowKit
theorem RdI.cells {w : World} {a : Option Addr} {c n : Nat} {l : List Int} (h : RdI w (.slice a n c) l) : n = l.length ∧ (l = [] ∨ ∃ b o, a = some ⟨b, o, none⟩ ∧ ∀ j, j < l.length → w.cell? ⟨b, o + j, none⟩ = some (.int .i64 (l.getD j 0))) := by
  obtain ⟨a', c', hv, hc⟩ := h
  cases hv
  refine ⟨rfl, ?_⟩
  by_cases h0 : l = []
  · exact Or.inl h0
  · have hp : 0 < l.length := List.length_pos_iff.2 h0
    obtain ⟨b, o, ha, _⟩ := hc 0 hp
    refine Or.inr ⟨b, o, ha, fun j hj => ?_⟩
    obtain ⟨b', o', ha', hcell⟩ := hc j hj
    rw [ha] at ha'
    cases ha'
    rw [hcell, List.getD_eq_getElem?_getD, List.getElem?_eq_getElem hj]
    rfl
theorem zl2 (v : Value) (l : List Int) (w : World) (hv : RdI w v l) (hl : l.length ≤ 10000000) :
    Calls Try.prog 32 #[v] w fun e w' => ∃ v', e = .returned v' ∧ OwI w' w.heap.size v' l ∧ Below w.heap.size w w' := by
  obtain ⟨a, c, rfl⟩ := hv.shape
  obtain ⟨_, h0 | ⟨b, o, rfl, hc⟩⟩ := hv.cells
  · subst h0
    cases a with
    | none => exact (Try.slices_Clone_int_nil 0 c w).mono fun e w' ⟨he, hw⟩ => by subst hw; exact ⟨_, he, Ow_nil _ _, Below.refl _ _⟩
    | some a => exact (Try.slices_Clone_int_zero a c w).mono fun e w' ⟨v', he, hown, _, hb⟩ => ⟨v', he, hown, hb⟩
  · exact (Try.slices_Clone_int b o l.length c l w (Nat.le_refl _) (by omega) hc).mono fun e w' ⟨v', he, hown, _, hb⟩ => ⟨v', he, by rw [List.take_length] at hown; exact hown, hb⟩
end Go.Proofs.Ytpohfkgjghiofaa

namespace Go.Proofs.Ytpohfkgjghiofaa
open Go Go.RowKit L
set_option linter.unusedVariables false
set_option linter.unusedSimpArgs false
def zbv {α : Type} (xs : List α) (ys : List α) : Option (List α) := if xs.length ≤ 10000000 then some ys else none
theorem zbl {α : Type} {xs ys zs : List α} (h : zbv xs ys = some zs) : xs.length ≤ 10000000 ∧ zs = ys := by
  unfold zbv at h; split at h
  · cases h; exact ⟨by assumption, rfl⟩
  · cases h
section
variable {P : Program} {W : Env} {n : Nat} {H : PHeap} {F : PFrame} {ops : Array Oper} {o : Oper} {l : List Oper} {K : PFrame → PHeap → Prop} {x : Operand} {ts : Array TypeId}
theorem PL.ownG {α : Type} {rep : α → PV} {enc : α → Value} {f : FuncId} {args : Array Operand} {e d : Nat} {qs : List PV} {xs : List α} (id : Nat) (hg : o.guard = none) (ho : o.op = .call ⟨.value (.func f), args, ts⟩) (hd : o.dst = some d) (hdn : d < n) (hf : Vj P f = true) (ha : args.toList.map (evP F) = qs) (hn : ∀ p ∈ qs, NoP p)
    (hc : zhf P f qs e 1 (fun n us => n = xs.length ∧ us = xs.map enc)) (hrep : ∀ x, rep x = .u (enc x)) (h1 : ∀ x, (rep x).cells = [rep x])
    (h : ∀ q' H', ownL e 1 rep H' id q' xs → (∀ j, j ≠ id → H' j = H j) → PL P W n ops l (F.put (some d) q') H' K) : PL P W n ops (o :: l) F H K := by
  refine PL.pe hg (PE.callOwn (id := id) hd hdn ho (by rw [J2, ha]) hf ⟨rfl, fun i p q h1 h2 => ?_⟩ hc fun m us hR hl => ?_)
  · rw [h1] at h2; cases h2
    exact View.noP (hn p (List.mem_of_getElem? h1))
  · obtain ⟨rfl, rfl⟩ := hR
    rw [hd]
    refine h _ _ ?_ fun j hj => by simp [PHeap.set, hj]
    have hb : (H.set id ⟨(H id).ver + 1, some (.row e 1 xs.length ((xs.map enc).map .u))⟩) id = ⟨(H id).ver + 1, some (.row e 1 xs.length ((xs.map enc).map .u))⟩ := by simp [PHeap.set]
    unfold ownL
    rw [Vh h1]
    have : (xs.map enc).map PV.u = xs.map rep := by rw [List.map_map]; exact List.map_congr_left fun x _ => (hrep x).symm
    rw [this] at hb ⊢
    exact OwnS.row (k := 1) hb (by simp)
theorem us_of {Z : ZM} {V : Nat → Value} {w : World} {xs : List Int} {vals : List Value} (h : RpL Z H V w (xs.map I) vals) : vals = xs.map (.int .i64) := by
  apply List.ext_getElem?
  intro i
  have h1 := h.1
  simp only [List.length_map] at h1
  by_cases hi : i < xs.length
  · have e1 : (xs.map I)[i]? = some (I xs[i]) := by simp [hi]
    have e2 : vals[i]? = some vals[i] := List.getElem?_eq_getElem (by omega)
    have := rpu (h.2 i _ _ e1 e2)
    rw [e2, this]; simp [hi]
  · rw [List.getElem?_eq_none (by omega), List.getElem?_eq_none (by simp; omega)]
theorem znz {V : Nat → Value} {w : World} (xs : List Int) : RpL W.Z H V w (xs.map I) (xs.map (.int .i64)) := by
  have := RpL.us (W := W) (H := H) (V := V) (w := w) (xs.map (Value.int .i64))
  rw [List.map_map] at this
  exact this
end
theorem zms (v : Value) (l : List Int) (B : Nat) (w : World) (hv : w.ownsRow B 3 1 v l.length (l.map (.int .i64))) (hl : l.length ≤ 10000000) :
    Calls Try.prog 28 #[v] w fun e w' => e = .returned (.tuple #[]) ∧ w'.ownsRow B 3 1 v l.length ((zbp l).map (.int .i64)) ∧ w.grownBy w' v.ownBlock := by
  have hlen : (zbp l).length = l.length := List.length_mergeSort l
  rcases hv.2 with ⟨rfl, h0⟩ | ⟨g, cap, cur, rfl, hb, hg, hnc, hcm, hcs, htake⟩
  · have e0 : l = [] := List.eq_nil_of_length_eq_zero h0
    subst e0
    exact (Try.slices_Sort_int_none none 0 w).mono fun e w' ⟨he, hw⟩ => by subst hw; exact ⟨he, by rw [show zbp [] = [] from by simp [zbp]]; exact World.ownsRow_nil _ _ _ _, ⟨rfl, rfl, rfl, Nat.le_refl _, fun _ _ _ => rfl⟩⟩
  · have hlt : g < w.heap.size := (Array.getElem?_eq_some_iff.1 hg).1
    obtain ⟨g', cap', e1, _, _, _, _, _, hH⟩ := Lib.holds_of_ownsRow (enc := Value.int .i64) hv (by simp)
    cases e1
    refine (Try.slices_Sort_int g 0 cap l w hH hlt (by omega)).mono ?_
    rintro e w' ⟨he, n, os, rfl⟩
    exact ⟨he, ownsRow_sortedI (n := n) (os := os) (ts := zbp l) hlen hb hg hnc hcm hcs, grownBy_sortedI _⟩
theorem zj9 (v : Value) (l : List Int) (B : Nat) (w : World) (hv : w.ownsRow B 3 1 v l.length (l.map (.int .i64))) (hl : l.length ≤ 10000000) :
    Calls Try.prog 29 #[v] w fun e w' => ∃ v', e = .returned v' ∧ w'.ownsRow B 3 1 v' (zbf l).length ((zbf l).map (.int .i64)) ∧ w.grownBy w' v.ownBlock ∧ ∀ g, qx v' = some g → qx v = some g := by
  have hle : (Lib.compact l).length ≤ l.length := Lib.compact_length_le l
  rcases hv.2 with ⟨rfl, h0⟩ | ⟨g, cap, cur, rfl, hb, hg, hnc, hcm, hcs, htake⟩
  · have e0 : l = [] := List.eq_nil_of_length_eq_zero h0
    subst e0
    exact (Try.slices_Compact_int_empty none 0 w).mono fun e w' ⟨he, hw⟩ => by subst hw; exact ⟨_, he, World.ownsRow_nil _ _ _ _, ⟨rfl, rfl, rfl, Nat.le_refl _, fun _ _ _ => rfl⟩, fun g hg => hg⟩
  · obtain ⟨g', cap', e1, _, _, _, _, _, hH⟩ := Lib.holds_of_ownsRow (enc := Value.int .i64) hv (by simp)
    cases e1
    refine (Try.slices_Compact_int g 0 cap l w hH (by omega) hnc).mono ?_
    rintro e w' ⟨he, q, rfl⟩
    refine ⟨_, he, ?_, ?_, fun g hg => hg⟩
    · have h := Lib.ownsRow_putRow (q := q) (k := (Lib.compact l).length) (ys := Lib.compact l ++ List.replicate (l.length - (Lib.compact l).length) 0) hv (by simp; omega) hle
      rw [List.take_left] at h
      exact h
    · refine ⟨rfl, rfl, rfl, by simp [Sort.putRow, Sort.mapBlock, Sort.ahead], fun k hk hne => ?_⟩
      have : g ≠ k := fun e => hne (by rw [← e]; rfl)
      simp [Sort.putRow, Sort.mapBlock, Sort.ahead, Array.getElem?_modify, this]
section
variable {W : Env} {n : Nat} {H : PHeap} {F : PFrame} {ops : Array Oper} {o : Oper} {l : List Oper} {K : PFrame → PHeap → Prop} {x : Operand} {ts : Array TypeId}
theorem PE.onInts {f : FuncId} {id ver d : Nat} {xs ys : List Int} {back : Bool} {k : PV → PHeap → Prop} (ho : o.op = .call ⟨.value (.func f), #[x], ts⟩) (hd : y7 n o) (hf : Vj Try.prog f = true) (hx : evP F x = .ps id ver) (hH : H id = ⟨ver, some (.row 3 1 xs.length (xs.map I))⟩)
    (hc : ∀ (v : Value) (B : Nat) (w : World), w.ownsRow B 3 1 v xs.length (xs.map (.int .i64)) → Calls Try.prog f #[v] w fun e w' => ∃ r v', e = .returned r ∧ w'.ownsRow B 3 1 v' ys.length (ys.map (.int .i64)) ∧ w.grownBy w' v.ownBlock ∧ (∀ g, qx v' = some g → qx v = some g) ∧ (if back = true then r = v' else v' = v ∧ r = .tuple #[]))
    (hk : if back = true then k (.ps id (ver + 1)) (H.set id ⟨ver + 1, some (.row 3 1 ys.length (ys.map I))⟩) else k (.u (.tuple #[])) (H.set id ⟨ver, some (.row 3 1 ys.length (ys.map I))⟩)) : PE Try.prog W n o F H k := fun V a w hr => by
  have hb : (H id).body = some (.row 3 1 xs.length (xs.map I)) := by rw [hH]
  have hve : (H id).ver = ver := by rw [hH]
  obtain ⟨vals, hown, hR, h1⟩ := hr.heap.row id _ _ _ _ hb
  have hvals := us_of hR
  subst hvals
  have ht : Z2 F ⟨.value (.func f), #[x], ts⟩ = some (f, [.ps id ver]) := by rw [J2]; simp [hx]
  obtain ⟨vs, he, hRv⟩ := Zb (P := Try.prog) (W := W) (H := H) (V := V) (a := a) (w := w) ho ht hf fun x hx' => Rp.eval (P := Try.prog) x fun t ht => hr.slot t
  obtain ⟨v, rfl, hv⟩ := zoq hRv
  have hvV : v = V id := by
    cases hv with
    | ps _ _ _ hvv hh => exact hh (by rw [hb]; rfl) hve
  subst hvV
  have hob := Jf hown
  refine zd6 he ((hc (V id) _ w hown).mono fun e w' ⟨r, v', h2, h3, h4, h5, h6⟩ => ⟨r, h2, ?_⟩)
  have hbase : ∀ nv, (H id).ver < nv ∨ (nv = (H id).ver ∧ v' = V id) → Turn W H V w id ⟨nv, some (.row 3 1 ys.length (ys.map I))⟩ v' w' := fun nv hnv => by
    refine ⟨hr.heap.below.grown h4 hr.heap.below.size fun kk hk => (hown.lt kk hk).1, h4.size, fun bb hlt hn => h4.block bb hlt fun e' => hn ⟨by rw [hb]; rfl, by rw [← hob]; exact e'.symm⟩, fun g hg => .inr ⟨by rw [hb]; rfl, h5 g hg⟩, ?_⟩
    rcases hnv with h | ⟨h, h'⟩
    · exact .inl h
    · exact .inr ⟨h, h', by rw [hb]; rfl⟩
  cases back
  · simp only [Bool.false_eq_true, if_false] at h6 hk
    obtain ⟨rfl, rfl⟩ := h6
    refine ⟨_, _, yi V id (V id), hk, hr.turn (hbase ver (.inr ⟨hve.symm, rfl⟩)) (fun bd hbd => ?_) o.dst hd (.u _)⟩
    cases hbd
    exact ⟨_, h3, znz ys, fun u hu => by obtain ⟨z, _, rfl⟩ := List.mem_map.1 hu; rfl⟩
  · simp only [if_true] at h6 hk
    subst h6
    refine ⟨_, _, yi V id r, hk, hr.turn (hbase (ver + 1) (.inl (by omega))) (fun bd hbd => ?_) o.dst hd ?_⟩
    · cases hbd
      exact ⟨_, h3, znz ys, fun u hu => by obtain ⟨z, _, rfl⟩ := List.mem_map.1 hu; rfl⟩
    · refine .ps _ _ _ ?_ fun _ _ => ?_
      · simp [PHeap.set]
      · simp [yi]
theorem zjy {id ver : Nat} {xs : List Int} (h : H id = ⟨ver, some (.row 3 1 xs.length (xs.map I))⟩) : ownL 3 1 I H id (.ps id ver) xs := by
  unfold ownL
  rw [Vh (fun _ => rfl)]
  exact OwnS.row (k := 1) h (by simp)
theorem PL.sortI {q : PV} {xs ys : List Int} (id : Nat) (hg : o.guard = none) (ho : o.op = .call ⟨.value (.func 28), #[x], ts⟩) (hd : y7 n o) (hx : evP F x = q) (hr : ownL 3 1 I H id q xs) (hs : zbv xs (zbp xs) = some ys)
    (h : ∀ H', ownL 3 1 I H' id q ys → (∀ j, j ≠ id → H' j = H j) → PL Try.prog W n ops l (F.put o.dst (.u (.tuple #[]))) H' K) : PL Try.prog W n ops (o :: l) F H K := by
  obtain ⟨hl, rfl⟩ := zbl hs
  have hlen : (zbp xs).length = xs.length := List.length_mergeSort xs
  rcases hr.2 with ⟨rfl, h0⟩ | ⟨ver, rfl, hH⟩
  · have e0 : xs = [] := List.eq_nil_of_length_eq_zero h0
    subst e0
    refine PL.pe hg ?_
    have hc : PCall Try.prog 28 [.u (.slice none 0 0)] (· = .u (.tuple #[])) := fun Z w vs hz _ hR => by
      obtain ⟨v, rfl, hv⟩ := zoq hR
      cases hv
      exact (Try.slices_Sort_int_none none 0 w).mono fun e w' ⟨he, hw⟩ => by subst hw; exact ⟨_, _, he, rfl, .u _, .u _, Below.refl _ _⟩
    refine PE.quiet hd (PQ.callB ho (by rw [J2]; simp [hx]) (by kernel_rfl) (ViewL.noPs (js (.u _) j2)) (js (.u _) j2) hc) ?_
    exact h H (by rw [show zbp [] = [] from by simp [zbp]]; exact ownL.nil _ _) fun _ _ => rfl
  · rw [Vh (fun _ => rfl)] at hH
    refine PL.pe hg (PE.onInts (d := 0) (back := false) (ys := zbp xs) ho hd (by kernel_rfl) hx hH (fun v B w hv => (zms v xs B w hv hl).mono fun e w' ⟨h1, h2, h3⟩ => ⟨_, v, h1, by rw [hlen]; exact h2, h3, fun g hg => hg, by simp⟩) ?_)
    simp only [Bool.false_eq_true, if_false]
    refine h _ (zjy ?_) fun j hj => by simp [PHeap.set, hj]
    simp [PHeap.set]
theorem PL.compI {q : PV} {xs ys : List Int} {d : Nat} (id : Nat) (hg : o.guard = none) (ho : o.op = .call ⟨.value (.func 29), #[x], ts⟩) (hd : o.dst = some d) (hdn : d < n) (hx : evP F x = q) (hr : ownL 3 1 I H id q xs) (hs : zbv xs (zbf xs) = some ys)
    (h : ∀ q' H', ownL 3 1 I H' id q' ys → (∀ j, j ≠ id → H' j = H j) → PL Try.prog W n ops l (F.put (some d) q') H' K) : PL Try.prog W n ops (o :: l) F H K := by
  obtain ⟨hl, rfl⟩ := zbl hs
  have hdk : y7 n o := fun t ht => by rw [hd] at ht; cases ht; exact hdn
  rcases hr.2 with ⟨rfl, h0⟩ | ⟨ver, rfl, hH⟩
  · have e0 : xs = [] := List.eq_nil_of_length_eq_zero h0
    subst e0
    refine PL.pe hg ?_
    have hc : PCall Try.prog 29 [.u (.slice none 0 0)] (· = .u (.slice none 0 0)) := fun Z w vs hz _ hR => by
      obtain ⟨v, rfl, hv⟩ := zoq hR
      cases hv
      exact (Try.slices_Compact_int_empty none 0 w).mono fun e w' ⟨he, hw⟩ => by subst hw; exact ⟨_, _, he, rfl, .u _, .u _, Below.refl _ _⟩
    refine PE.quiet hdk (PQ.callB ho (by rw [J2]; simp [hx]) (by kernel_rfl) (ViewL.noPs (js (.u _) j2)) (js (.u _) j2) hc) ?_
    rw [hd]
    exact h _ H (ownL.nil _ _) fun _ _ => rfl
  · rw [Vh (fun _ => rfl)] at hH
    refine PL.pe hg (PE.onInts (d := 0) (back := true) (ys := zbf xs) ho hdk (by kernel_rfl) hx hH (fun v B w hv => (zj9 v xs B w hv hl).mono fun e w' ⟨v', h1, h2, h3, h4⟩ => ⟨v', v', h1, h2, h3, h4, by simp⟩) ?_)
    simp only [if_true]
    rw [hd]
    refine h _ _ (zjy ?_) fun j hj => by simp [PHeap.set, hj]
    simp [PHeap.set]
theorem zlz {xs : List Int} (hl : xs.length ≤ 10000000) : zhf Try.prog 32 [slI xs] 3 1 (fun n us => n = xs.length ∧ us = xs.map (.int .i64)) := fun w vs h => by
  obtain ⟨v, rfl, hv⟩ := zoq h
  exact (zl2 v xs w (rd_of (fun _ => rfl) hv) hl).mono fun e w' ⟨v', h1, h2, h3⟩ => ⟨v', _, _, h1, ⟨rfl, rfl⟩, h2, fun u hu => by obtain ⟨z, _, rfl⟩ := List.mem_map.1 hu; rfl, h3⟩
theorem PL.cloneI {xs ys : List Int} {d : Nat} (id : Nat) (hg : o.guard = none) (ho : o.op = .call ⟨.value (.func 32), #[x], ts⟩) (hd : o.dst = some d) (hdn : d < n) (hx : evP F x = slI xs) (hs : zbv xs xs = some ys)
    (h : ∀ q' H', ownL 3 1 I H' id q' ys → (∀ j, j ≠ id → H' j = H j) → PL Try.prog W n ops l (F.put (some d) q') H' K) : PL Try.prog W n ops (o :: l) F H K := by
  obtain ⟨hl, rfl⟩ := zbl hs
  exact PL.ownG id hg ho hd hdn (by kernel_rfl) (am hx am0) (js (ye _) j2) (zlz hl) (fun _ => rfl) (fun _ => rfl) h
end
end Go.Proofs.Ytpohfkgjghiofaa

namespace Go.Proofs.Ytpohfkgjghiofaa.L
open Go Go.RowKit Go.Proofs.Ytpohfkgjghiofaa
set_option linter.unusedVariables false
set_option linter.unusedSimpArgs false
def Weak (p q : PV) : Prop := ∀ (Z : ZM) (H : PHeap) (V : Nat → Value) (w : World) (v : Value), Rp Z H V w p v → Rp Z H V w q v
theorem Weak.refl (p : PV) : Weak p p := fun _ _ _ _ _ h => h
theorem Weak.nil (k : Nat) : Weak (.u (.slice none 0 0)) (.sl k []) := fun _ _ _ _ _ h => by cases h; exact .nil _ _ _
def WeakL (ps qs : List PV) : Prop := ps.length = qs.length ∧ ∀ (i : Nat) (p q : PV), ps[i]? = some p → qs[i]? = some q → Weak p q
theorem WeakL.nil : WeakL [] [] := ⟨rfl, fun i p q h => by simp at h⟩
theorem WeakL.cons {p q : PV} {ps qs : List PV} (h : Weak p q) (hs : WeakL ps qs) : WeakL (p :: ps) (q :: qs) := ⟨by simp [hs.1], fun i p' q' h1 h2 => by
  cases i with
  | zero => simp at h1 h2; subst h1 h2; exact h
  | succ i => exact hs.2 i p' q' (by simpa using h1) (by simpa using h2)⟩
theorem WeakL.refl (ps : List PV) : WeakL ps ps := ⟨rfl, fun i p q h1 h2 => by rw [h1] at h2; cases h2; exact Weak.refl _⟩
theorem WeakL.app {ps qs ps' qs' : List PV} (h : WeakL ps qs) (h' : WeakL ps' qs') : WeakL (ps ++ ps') (qs ++ qs') := ⟨by simp [h.1, h'.1], fun i p q h1 h2 => by
  by_cases hi : i < ps.length
  · rw [List.getElem?_append_left hi] at h1
    rw [List.getElem?_append_left (by rw [← h.1]; exact hi)] at h2
    exact h.2 i p q h1 h2
  · rw [List.getElem?_append_right (by omega)] at h1
    rw [List.getElem?_append_right (by rw [← h.1]; omega), ← h.1] at h2
    exact h'.2 _ p q h1 h2⟩
theorem Weak.agg {ps qs : List PV} (h : WeakL ps qs) : Weak (.agg ps) (.agg qs) := fun Z H V w v hv => by
  cases hv with
  | agg _ vs hl hc =>
    refine .agg _ vs (by rw [← h.1]; exact hl) fun i q u h1 h2 => ?_
    have hi : i < ps.length := by rw [h.1]; exact (List.getElem?_eq_some_iff.1 h1).1
    exact h.2 i _ q (List.getElem?_eq_getElem hi) h1 Z H V w u (hc i _ u (List.getElem?_eq_getElem hi) h2)
section
variable {P : Program} {W : Env} {n : Nat} {H : PHeap} {F : PFrame} {ops : Array Oper} {o : Oper} {l : List Oper} {K : PFrame → PHeap → Prop}
variable {d ty : Nat} {pos : String} {af : Array Edge} {g : Option (Nat × Bool)} {x y : Operand} {t t' : Nat}
theorem PQ.weak {p q : PV} (h : PQ P W o F H p) (hw : Weak p q) : PQ P W o F H q := fun V a w hr hx =>
  zlw (h V a w hr hx) fun a' w' ⟨v, h1, h2, h3⟩ => ⟨v, h1, hw _ _ _ _ _ h2, h3⟩
theorem zlv {ps : Array (Nat × Operand)} {ips : List (Nat × PV)} {p q : PV} (hp : ps.toList.map (fun x => (x.1, evP F x.2)) = ips) (h : zb2 P H t ips = some p) (hw : Weak p q) : PQ P W ⟨some d, .build t ps, ty, pos, af, g⟩ F H q := PQ.weak (ju (Jg hp h)) hw
theorem Rp.same {Z : ZM} {V : Nat → Value} {w : World} {H' : PHeap} (hs : ∀ i, (H' i).ver = (H i).ver ∧ (H' i).body.isSome = (H i).body.isSome) {p : PV} {v : Value} (h : Rp Z H V w p v) : Rp Z H' V w p v :=
  h.mono (fun b hb hlt => ⟨fun hz => hb (hz.imp id fun ⟨i, h1, h2⟩ => ⟨i, by rw [← (hs i).2]; exact h1, h2⟩), hlt, rfl⟩) (Nat.le_refl _) (fun i => Nat.le_of_eq (hs i).1.symm) (fun i ver _ h1 h2 => ⟨by rw [← (hs i).2]; exact h1, by rw [← (hs i).1]; exact h2, rfl⟩)
theorem HRel.recell {V : Nat → Value} {w : World} {id v T : Nat} {cs cs' : List PV} (hr : HRel P W H V w) (hH : H id = ⟨v, some (.box T cs)⟩) (hc : ∀ vs, RpL W.Z H V w cs vs → RpL W.Z H V w cs' vs) : HRel P W (H.set id ⟨v, some (.box T cs')⟩) V w := by
  have hs : ∀ i, ((H.set id ⟨v, some (.box T cs')⟩) i).ver = (H i).ver ∧ ((H.set id ⟨v, some (.box T cs')⟩) i).body.isSome = (H i).body.isSome := fun i => by
    by_cases e : i = id
    · subst e; simp [PHeap.set, hH]
    · simp [PHeap.set, e]
  refine ⟨hr.below, fun i t k m cs2 h => ?_, fun i t cs2 h => ?_, fun i es h => ?_, fun i => (hr.ghost i).same hs, fun i j g h1 h2 => hr.apart i j g (by rw [← (hs i).2]; exact h1) (by rw [← (hs j).2]; exact h2), hr.zlt, fun i b h1 => hr.nz i b (by rw [← (hs i).2]; exact h1)⟩
  · have e : i ≠ id := fun e => by subst e; simp [PHeap.set] at h
    obtain ⟨vals, ho, hR, h1⟩ := hr.row i t k m cs2 (by simpa [PHeap.set, e] using h)
    exact ⟨vals, ho, hR.mono fun p u hp => hp.same hs, h1⟩
  · by_cases e : i = id
    · subst e
      simp [PHeap.set] at h
      obtain ⟨rfl, rfl⟩ := h
      obtain ⟨g, arr, e1, hg, hh, hR, h1⟩ := hr.box i T cs (by rw [hH])
      exact ⟨g, arr, e1, hg, hh, (hc _ hR).mono fun p u hp => hp.same hs, h1⟩
    · obtain ⟨g, arr, e1, hg, hh, hR, h1⟩ := hr.box i t cs2 (by simpa [PHeap.set, e] using h)
      exact ⟨g, arr, e1, hg, hh, hR.mono fun p u hp => hp.same hs, h1⟩
  · have e : i ≠ id := fun e => by subst e; simp [PHeap.set] at h
    exact hr.map i es (by simpa [PHeap.set, e] using h)
theorem Rel.recell {V : Nat → Value} {a : Act} {w : World} {id v T : Nat} {cs cs' : List PV} (hr : Rel P W n F H V a w) (hH : H id = ⟨v, some (.box T cs)⟩) (hc : ∀ vs, RpL W.Z H V w cs vs → RpL W.Z H V w cs' vs) : Rel P W n F (H.set id ⟨v, some (.box T cs')⟩) V a w := by
  refine ⟨hr.heap.recell hH hc, hr.size, hr.defers, fun i => (hr.slot i).same fun i => ?_⟩
  by_cases e : i = id
  · subst e; simp [PHeap.set, hH]
  · simp [PHeap.set, e]
theorem PL.recell {id v T : Nat} {cs cs' : List PV} (hH : H id = ⟨v, some (.box T cs)⟩) (hw : WeakL cs cs') (h : ∀ H', H' id = ⟨v, some (.box T cs')⟩ → (∀ j, j ≠ id → H' j = H j) → PL P W n ops l F H' K) : PL P W n ops l F H K := fun V a w Q hr hQ => by
  refine h (H.set id ⟨v, some (.box T cs')⟩) (by simp [PHeap.set]) (fun j hj => by simp [PHeap.set, hj]) V a w Q (hr.recell hH fun vs hvs => ⟨by rw [← hw.1]; exact hvs.1, fun i q u h1 h2 => ?_⟩) hQ
  have hi : i < cs.length := by rw [hw.1]; exact (List.getElem?_eq_some_iff.1 h1).1
  exact hw.2 i _ q (List.getElem?_eq_getElem hi) h1 _ _ _ _ _ (hvs.2 i _ u (List.getElem?_eq_getElem hi) h2)
theorem PC.freezeC {α : Type} {rep : α → PV} {c : Code} {Q : Exit → PFrame → PHeap → Prop} {bid v T e k id i : Nat} {q : PV} {xs : List α} {cs cs' : List PV} (hB : H bid = ⟨v, some (.box T cs)⟩) (hi : cs[i]? = some q) (ho : ownL e k rep H id q xs) (hk : ∀ x, (rep x).cells.length = k) (hne : bid ≠ id) (hcs : cs.set i (.sl k (xs.map rep)) = cs')
    (h : ∀ H', H' bid = ⟨v, some (.box T cs')⟩ → (∀ j, j ≠ id → j ≠ bid → H' j = H j) → PC P W n c F H' Q) : PC P W n c F H Q := fun V a w Q' hr hQ => by
  subst hcs
  have hk' : ∀ y ∈ xs.map rep, y.cells.length = k := fun y hy => by obtain ⟨z, _, rfl⟩ := List.mem_map.1 hy; exact hk z
  rcases ho.2 with ⟨rfl, h0⟩ | ⟨ver, rfl, hH⟩
  · have : xs = [] := List.eq_nil_of_length_eq_zero h0
    subst this
    refine h (H.set bid ⟨v, some (.box T (cs.set i (.sl k [])))⟩) (by simp [PHeap.set]) (fun j h1 h2 => by simp [PHeap.set, h2]) V a w Q' (hr.recell hB fun vs hvs => ⟨by simpa using hvs.1, fun j p u h1 h2 => ?_⟩) hQ
    rw [List.getElem?_set] at h1
    split at h1
    · rename_i e
      subst e
      split at h1
      · cases h1
        exact Weak.nil k _ _ _ _ _ (hvs.2 i _ u hi h2)
      · cases h1
    · exact hvs.2 j p u h1 h2
  · have hseen := hr.heap.seen hH (xs.map rep) rfl hk' (by simp)
    have hvle : (H id).ver ≤ ver + 1 := by rw [hH]; exact Nat.le_succ _
    have hr2 : Rel P W n F (H.set id ⟨ver + 1, none⟩) V a w := ⟨hr.heap.drop hvle, hr.size, hr.defers, fun i => (hr.slot i).drop hvle⟩
    have hB2 : (H.set id ⟨ver + 1, none⟩) bid = ⟨v, some (.box T cs)⟩ := by simp [PHeap.set, hne, hB]
    -- the cell holds the row
    obtain ⟨g, arr, e1, hg, hh, hR, h1⟩ := hr.heap.box bid T cs (by rw [hB])
    have hVi : ∀ vs, RpL W.Z H V w cs vs → ∀ u, vs[i]? = some u → u = V id := fun vs hvs u hu => by
      have := hvs.2 i _ u hi hu
      cases this with
      | ps _ _ _ hvv hq => exact hq (by rw [hH]; rfl) (by rw [hH])
    have hr3 : HRel P W ((H.set id ⟨ver + 1, none⟩).set bid ⟨v, some (.box T (cs.set i (.sl k (xs.map rep))))⟩) V w := by
      have hd := hr.heap.drop hvle
      have hs : ∀ j, (((H.set id ⟨ver + 1, none⟩).set bid ⟨v, some (.box T (cs.set i (.sl k (xs.map rep))))⟩) j).ver = ((H.set id ⟨ver + 1, none⟩) j).ver ∧ (((H.set id ⟨ver + 1, none⟩).set bid ⟨v, some (.box T (cs.set i (.sl k (xs.map rep))))⟩) j).body.isSome = ((H.set id ⟨ver + 1, none⟩) j).body.isSome := fun j => by
        by_cases e : j = bid
        · subst e; simp [PHeap.set, hne, hB]
        · simp [PHeap.set, e]
      refine ⟨hd.below, fun j t k' m cs2 h => ?_, fun j t cs2 h => ?_, fun j es h => ?_, fun j => (hd.ghost j).same hs, fun j j' g h1 h2 => hd.apart j j' g (by rw [← (hs j).2]; exact h1) (by rw [← (hs j').2]; exact h2), hd.zlt, fun j b h1 => hd.nz j b (by rw [← (hs j).2]; exact h1)⟩
      · have e : j ≠ bid := fun e => by subst e; simp [PHeap.set] at h
        obtain ⟨vals, ho, hR, h1⟩ := hd.row j t k' m cs2 (by simpa [PHeap.set, e] using h)
        exact ⟨vals, ho, hR.mono fun p u hp => hp.same hs, h1⟩
      · by_cases e : j = bid
        · subst e
          simp [PHeap.set] at h
          obtain ⟨rfl, rfl⟩ := h
          refine ⟨g, arr, e1, hg, hh, ⟨by simpa using hR.1, fun j' p u h3 h4 => ?_⟩, h1⟩
          rw [List.getElem?_set] at h3
          split at h3
          · rename_i e
            subst e
            split at h3
            · cases h3
              have hu := hVi _ hR u h4
              subst hu
              exact hseen.same hs
            · cases h3
          · exact ((hR.2 j' p u h3 h4).drop hvle).same hs
        · obtain ⟨g, arr, e1, hg, hh, hR, h1⟩ := hd.box j t cs2 (by simpa [PHeap.set, e] using h)
          exact ⟨g, arr, e1, hg, hh, hR.mono fun p u hp => hp.same hs, h1⟩
      · have e : j ≠ bid := fun e => by subst e; simp [PHeap.set] at h
        exact hd.map j es (by simpa [PHeap.set, e] using h)
    have hs : ∀ j, (((H.set id ⟨ver + 1, none⟩).set bid ⟨v, some (.box T (cs.set i (.sl k (xs.map rep))))⟩) j).ver = ((H.set id ⟨ver + 1, none⟩) j).ver ∧ (((H.set id ⟨ver + 1, none⟩).set bid ⟨v, some (.box T (cs.set i (.sl k (xs.map rep))))⟩) j).body.isSome = ((H.set id ⟨ver + 1, none⟩) j).body.isSome := fun j => by
      by_cases e : j = bid
      · subst e; simp [PHeap.set, hne, hB]
      · simp [PHeap.set, e]
    exact h _ (by simp [PHeap.set]) (fun j h1 h2 => by simp [PHeap.set, h1, h2]) V a w Q' ⟨hr3, hr.size, hr.defers, fun j => (hr2.slot j).same hs⟩ hQ
end
end Go.Proofs.Ytpohfkgjghiofaa.L
namespace Go.Proofs.Ytpohfkgjghiofaa
open Go Go.RowKit L
section
variable {P : Program} {W : Env} {n : Nat} {H : PHeap} {F : PFrame} {ops : Array Oper} {o : Oper} {l : List Oper} {K : PFrame → PHeap → Prop}
variable {d ty : Nat} {pos : String} {af : Array Edge} {g : Option (Nat × Bool)} {x y : Operand} {t t' : Nat}
theorem zli {A L cs : List PV} {ps : List PV} {m i : Nat} (h : A.length = m) (hs : setMany L i ps = cs) : setMany (A ++ L) (m + i) ps = A ++ cs := by
  subst h hs
  unfold setMany
  rw [List.take_append, List.take_of_length_le (by omega), show A.length + i - A.length = i by omega, show A.length + i + ps.length = A.length + (i + ps.length) by omega, List.drop_append, List.drop_of_length_le (by omega)]
  simp [List.append_assoc]
theorem sm_l {A B L : List PV} {m : Nat} (h : A.length = m) (hb : B.length = m) : setMany (A ++ L) 0 B = B ++ L := by
  unfold setMany
  rw [Nat.zero_add, hb, ← h]
  simp
theorem sm_all {A B : List PV} (h : B.length = A.length) : setMany A 0 B = B := by unfold setMany; simp [h]
theorem zlp {A L cs : List PV} {p : PV} {m i : Nat} (h : A.length = m) (hs : L.set i p = cs) : (A ++ L).set (m + i) p = A ++ cs := by
  subst h hs; rw [List.set_append_right _ _ (by omega)]; simp
theorem zlq {A L : List PV} {p : PV} {m i : Nat} (h : A.length = m) (hs : L[i]? = some p) : (A ++ L)[m + i]? = some p := by
  subst h; rw [List.getElem?_append_right (by omega)]; simpa using hs
def arS {α : Type} {m : Nat} (a : Arr m α) (z : Int) (v : α) : Arr m α := ⟨a.1.set z.toNat v, by rw [List.length_set]; exact a.2⟩
theorem zao {α : Type} {m id v T : Nat} {rep : α → PV} {a : Arr m α} {kd : IntKind} {z : Int} {u : α} (he : arr P t = some (m, 1)) (hx : evP F x = .pp id 0 v) (hb : H id = ⟨v, some (.box T (arV rep a).cells)⟩) (hy : evP F y = .u (.int kd z)) (hv : idx a.1 z = some u) : qu P H F ⟨some d, .indexAddr t x y, ty, pos, af, g⟩ = some (.pp id (z.toNat * 1) v) := by
  obtain ⟨h0, h1⟩ := y6 hv
  obtain ⟨hlt, _⟩ := List.getElem?_eq_some_iff.1 h1
  rw [zn, hx, hy, zhp _ _ h0, he]
  show (if z.toNat < m then _ else none) = _
  rw [if_pos (a.2 ▸ hlt), yz, hb, zdo, if_pos rfl, Nat.zero_add]; rfl
theorem Jt {α : Type} {e k id : Nat} {rep : α → PV} {q : PV} {xs : List α} (h : ownL e k rep H id q xs) : q.cells = [q] := by
  rcases h.2 with ⟨rfl, _⟩ | ⟨v, rfl, _⟩ <;> rfl
theorem Zw {α : Type} {e k id : Nat} {rep : α → PV} {q : PV} {xs : List α} (h : ownL e k rep H id q xs) : okC H q = true := by
  have := OwnS.leaf h
  rcases h.2 with ⟨rfl, _⟩ | ⟨v, rfl, _⟩ <;> exact this
theorem qb {A L : List PV} {m k : Nat} (h : A.length = m) (h2 : L.length = k) : (A ++ L).length = m + k := by rw [List.length_append, h, h2]
theorem zjk {A L : List PV} {f : PV → Bool} (h : A.all f = true) (h2 : L.all f = true) : (A ++ L).all f = true := by rw [List.all_append, h, h2]; rfl
theorem zjf {α : Type} {m : Nat} {rep : α → PV} {a : Arr m α} {z : Int} {v : α} (hv : idx a.1 z = some v) : vy false 1 ((arV rep a).cells.drop (z.toNat * 1)) = some (rep v) := zb0 hv
theorem PL.stB {α : Type} {m id v T : Nat} {rep : α → PV} {a : Arr m α} {z : Int} {u u' : α} (hg : o.guard = none) (ho : o.op = .store t x y) (hd : y7 n o) (hx : evP F x = .pp id (z.toNat * 1) v) (hb : H id = ⟨v, some (.box T (arV rep a).cells)⟩) (ht : asz P t = some (false, 1)) (hv : idx a.1 z = some u) (hy : evP F y = rep u') (hk : ∀ x, (rep x).cells = [rep x]) (hok : okC H (rep u') = true)
    (h : ∀ H', H' id = ⟨v, some (.box T (arV rep (arS a z u')).cells)⟩ → (∀ j, j ≠ id → H' j = H j) → PL P W n ops l (F.put o.dst (.u undef)) H' K) : PL P W n ops (o :: l) F H K := by
  obtain ⟨h0, hz⟩ := y6 hv
  obtain ⟨hlt, _⟩ := List.getElem?_eq_some_iff.1 hz
  have hlen : (arV rep a).cells.length = m := jj rep a hk
  refine PL.storeA (v := rep u') hg ho hd hx hb ht hy hok (hk u') rfl (by rw [hlen]; have := a.2; omega) ?_ h
  show setMany (a.1.map rep) (z.toNat * 1) [rep u'] = (a.1.set z.toNat u').map rep
  apply List.ext_getElem?
  intro i
  have := zx (a.1.map rep) [rep u'] z.toNat (by simp; omega) i
  rw [Nat.mul_one, this, List.getElem?_map (f := rep) (l := a.1.set z.toNat u'), List.getElem?_set]
  by_cases e : z.toNat = i
  · subst e; simp [hlt]
  · rw [if_neg (by simp; omega), if_neg e, List.getElem?_map]
theorem zf {a id v T kk : Nat} {ag : Bool} {cs : List PV} {p : PV} (ht : asz P t = some (ag, kk)) (hx : F a = .pp id 0 v) (hb : H id = ⟨v, some (.box T cs)⟩) (hp : vy ag kk (cs.drop 0) = some p) : Vc P H F (.cell a t) = some p := by
  show Qa P H t (F a) = _
  rw [hx, Vk, ht]
  show (qn H id v).elim none _ = _
  rw [yz, hb, zdo, if_pos rfl]; exact hp
theorem Jy {s : Nat} {p : PV} (h : F s = p) : Vc P H F (.tmp s) = some p := congrArg some h
theorem Zu {fn : Func} {r : ResultVar} {p : PV} (hr : fn.results = #[r]) (h : Vc P H F r = some p) : zco P fn F H = some p := by unfold zco; rw [hr]; exact h
theorem rl0 : ([] : List ResultVar).mapM (Vc P H F) = some [] := rfl
theorem rlc {r : ResultVar} {rs : List ResultVar} {p : PV} {ps : List PV} (h : Vc P H F r = some p) (hs : rs.mapM (Vc P H F) = some ps) : (r :: rs).mapM (Vc P H F) = some (p :: ps) := by
  rw [List.mapM_cons, h, hs]; rfl
theorem Yq {fn : Func} {rs : List ResultVar} {ps : List PV} (hr : fn.results = rs.toArray) (h2 : 2 ≤ rs.length) (h : rs.mapM (Vc P H F) = some ps) : zco P fn F H = some (.tup ps) := by
  have hl : fn.results.toList = rs := by rw [hr]
  unfold zco
  rw [hl]
  match rs, h2, h with
  | a :: b :: r, _, h => simp only; rw [h]; rfl
def cpy {α : Type} (xs ys : List α) : Option (Int × List α) := if xs ≠ [] ∧ ys ≠ [] then some ((min xs.length ys.length : Nat), ys.take xs.length ++ xs.drop ys.length) else none
theorem znw {α : Type} {xs ys : List α} {r : Int × List α} (h : cpy xs ys = some r) : xs ≠ [] ∧ ys ≠ [] ∧ r.1 = ((min xs.length ys.length : Nat) : Int) ∧ r.2 = ys.take xs.length ++ xs.drop ys.length := by
  unfold cpy at h; split at h
  · rename_i hc; cases h; exact ⟨hc.1, hc.2, rfl, rfl⟩
  · cases h
theorem PL.copyO {α : Type} {rep : α → PV} {e id d : Nat} {q : PV} {xs ys : List α} {r : Int × List α} (hg : o.guard = none) (ho : o.op = .call { callee := .builtin .copy, args := #[x, y], argTypes := #[t, t'] }) (hd : o.dst = some d) (hdn : d < n) (hu : P.underlying t = some (.slice e)) (hs : (P.info? e).map (·.size) = some 1)
    (hx : evP F x = q) (hr : ownL e 1 rep H id q xs) (hy : evP F y = .sl 1 (ys.map rep)) (hz : cpy xs ys = some r) (hk : ∀ x, (rep x).cells = [rep x]) (hleaf : ∀ x, ya H (rep x) = true)
    (h : ∀ H', ownL e 1 rep H' id q r.2 → (∀ j, j ≠ id → H' j = H j) → PL P W n ops l (F.put (some d) (.u (.int .i64 r.1))) H' K) : PL P W n ops (o :: l) F H K := by
  obtain ⟨hx0, hy0, hr1, hr2⟩ := znw hz
  have hxp : xs.length ≠ 0 := fun h => hx0 (List.eq_nil_of_length_eq_zero h)
  have hyp : ys.length ≠ 0 := fun h => hy0 (List.eq_nil_of_length_eq_zero h)
  obtain ⟨ver, rfl, hH⟩ := OwnS.pos hr hxp
  rw [Vh hk] at hH
  have hlen : r.2.length = xs.length := by rw [hr2]; simp; omega
  refine PL.pe hg fun V a w hr => ?_
  have hb : (H id).body = some (.row e 1 xs.length (xs.map rep)) := by rw [hH]
  have hve : (H id).ver = ver := by rw [hH]
  obtain ⟨vals, hown, hR, h1⟩ := hr.heap.row id _ _ _ _ hb
  have hxv : a.eval x = V id := by
    have := Rp.eval (P := P) (F := F) (a := a) (Z := W.Z) (H := H) (V := V) (w := w) x fun t _ => hr.slot t
    rw [hx] at this
    generalize a.eval x = q at this
    cases this with
    | ps _ _ _ hvv hh => exact hh (by rw [hb]; rfl) hve
  obtain ⟨ad, c, hyv, hsrc⟩ := zdn hr.heap (Rp.eval (P := P) (F := F) (a := a) y fun t _ => hr.slot t) (show zdp H 1 (evP F y) = some (ys.length, ys.map rep) by rw [hy]; simp [zdp, Vh hk])
  rcases hsrc with ⟨h0, _⟩ | ⟨ba, news, rfl, hnl, hRn, hcell⟩
  · exact absurd h0 hyp
  rcases hown.2 with ⟨e1, h0⟩ | ⟨g, cap, cur, e1, hbg, hgh, hcap, hcm, hcs, htake⟩
  · exact absurd h0 hxp
  have hnl' : news.length = ys.length := by omega
  have hvl : vals.length = xs.length := by have := hown.1; omega
  have hone : ∀ u ∈ news, u.oneCell' = true := fun u hu => by
    obtain ⟨j, hj, rfl⟩ := List.getElem_of_mem hu
    have hj2 : j < (ys.map rep).length := by rw [hRn.1]; exact hj
    refine (hRn.2 j _ _ (List.getElem?_eq_getElem hj2) (List.getElem?_eq_getElem hj)).leaf hr.heap ?_
    rw [List.getElem_map]; exact hleaf _
  have hrun := run_copy_row (P := P) w t t' o.type e g 0 xs.length cap ba ys.length c cur e (news.take xs.length) hu hs hgh (by rw [List.length_take, hnl', Nat.min_comm]) (fun j v hj => hcell j v (by
    rw [List.getElem?_take] at hj
    split at hj
    · exact hj
    · cases hj)) (by rw [List.length_take]; omega) (fun v hv => hone v (List.mem_of_mem_take hv))
  have hex : (execOp a.eval o).run P w = .ok (.value (goInt (news.take xs.length).length)) (w.setRow g (cur.toList.take 0 ++ news.take xs.length ++ cur.toList.drop (0 + (news.take xs.length).length)).toArray) := by
    unfold execOp
    simp only [ho, resolve, invoke, builtin, Sem.run_bind, Sem.run_pure, Result.andThen_ok, List.map_toArray, List.map_cons, List.map_nil, hxv, hyv, e1, hrun]
  have hob := Jf hown
  have hcn : (news.take xs.length).length = min xs.length ys.length := by rw [List.length_take, hnl']
  have hgi : goInt (news.take xs.length).length = .int .i64 r.1 := by rw [hcn, hr1]; rfl
  have hown' : (w.setRow g (cur.toList.take 0 ++ news.take xs.length ++ cur.toList.drop (0 + (news.take xs.length).length)).toArray).ownsRow W.w.heap.size e 1 (V id) xs.length (news.take xs.length ++ vals.drop ys.length) := by
    refine ⟨by simp [hvl, hnl']; omega, .inr ⟨g, cap, _, e1, hbg, setRow_heap w g cur _ e _ hgh, hcap, hcm, ?_, ?_⟩⟩
    · simp [hnl']; omega
    · have hdrop : vals.drop ys.length = (cur.toList.take xs.length).drop ys.length := by rw [← htake, Nat.mul_one]
      rw [hdrop, Nat.mul_one]
      simp only [List.take_zero, List.nil_append, Nat.zero_add, hcn]
      apply List.ext_getElem?
      intro j
      rw [List.getElem?_take]
      by_cases hj : j < xs.length
      · rw [if_pos hj]
        by_cases hj2 : j < ys.length
        · rw [List.getElem?_append_left (by rw [hcn]; omega), List.getElem?_append_left (by rw [hcn]; omega)]
        · rw [List.getElem?_append_right (by rw [hcn]; omega), List.getElem?_append_right (by rw [hcn]; omega), hcn, List.getElem?_drop, List.getElem?_drop, List.getElem?_take]
          rw [if_pos (by omega)]
          congr 1; omega
      · rw [if_neg hj, List.getElem?_eq_none]
        simp [hcn]; omega
  have hgr : w.grownBy (w.setRow g (cur.toList.take 0 ++ news.take xs.length ++ cur.toList.drop (0 + (news.take xs.length).length)).toArray) (some g) := ⟨rfl, rfl, rfl, by simp, fun k _ hk => setRow_other w g k _ (fun e => hk (by rw [e]))⟩
  have hblk : qx (V id) = some g := by rw [e1]; rfl
  have hturn : Turn W H V w id ⟨ver, some (.row e 1 xs.length (r.2.map rep))⟩ (V id) (w.setRow g (cur.toList.take 0 ++ news.take xs.length ++ cur.toList.drop (0 + (news.take xs.length).length)).toArray) := by
    refine ⟨hr.heap.below.grown hgr hr.heap.below.size fun kk hk => by cases hk; exact hbg, hgr.size, fun bb hlt hn => hgr.block bb hlt fun e' => hn ⟨by rw [hb]; rfl, by rw [hblk]; exact e'.symm⟩, fun g' hg' => .inr ⟨by rw [hb]; rfl, hg'⟩, .inr ⟨hve.symm, rfl, by rw [hb]; rfl⟩⟩
  refine Jn hex ⟨.u (.int .i64 r.1), H.set id ⟨ver, some (.row e 1 xs.length (r.2.map rep))⟩, yi V id (V id), ?_, ?_⟩
  · rw [hd]
    refine h (H.set id ⟨ver, some (.row e 1 xs.length (r.2.map rep))⟩) ?_ fun j hj => by simp [PHeap.set, hj]
    have hb2 : (H.set id ⟨ver, some (.row e 1 xs.length (r.2.map rep))⟩) id = ⟨ver, some (.row e 1 xs.length (r.2.map rep))⟩ := by simp [PHeap.set]
    unfold ownL
    rw [Vh hk, hlen]
    exact OwnS.row (k := 1) hb2 (by simp [hlen])
  · rw [hgi]
    refine hr.turn hturn (fun bd hbd => ?_) o.dst (fun t ht => by rw [hd] at ht; cases ht; exact hdn) (.u _)
    cases hbd
    refine ⟨_, hown', ⟨?_, fun j p u h3 h4 => ?_⟩, fun u hu => ?_⟩
    · rw [List.length_map, hlen]; simp [hvl, hnl']; omega
    · rw [hr2, List.map_append, List.map_take, List.map_drop] at h3
      by_cases hj : j < min xs.length ys.length
      · rw [List.getElem?_append_left (by simp; omega), List.getElem?_take, if_pos (by omega)] at h3
        rw [List.getElem?_append_left (by rw [hcn]; exact hj), List.getElem?_take, if_pos (by omega)] at h4
        exact hturn.rp (hRn.2 j p u h3 h4)
      · rw [List.getElem?_append_right (by simp; omega), List.getElem?_drop] at h3
        rw [List.getElem?_append_right (by rw [hcn]; omega), hcn, List.getElem?_drop] at h4
        have e2 : ((ys.map rep).take xs.length).length = min xs.length ys.length := by simp
        rw [e2] at h3
        exact hturn.rp (hR.2 _ p u h3 h4)
    · rcases List.mem_append.1 hu with hu | hu
      · exact hone u (List.mem_of_mem_take hu)
      · exact h1 u (List.mem_of_mem_drop hu)
end
end Go.Proofs.Ytpohfkgjghiofaa

namespace Go.Proofs.Ytpohfkgjghiofaa.L
open Go Go.RowKit
set_option linter.unusedVariables false
set_option linter.unusedSimpArgs false
structure zkq {α : Type} (P : Program) (key : TypeId) (kv : α → Value) (eqb : α → α → Bool) : Prop where
  chk : ∀ (b : Bool) (k : α) (w : World), (Instr.checkKey b 10000 key (kv k)).run P w = .ok () w
  und : ∃ d, P.underlying key = some d ∧ ∀ k k', Instr.sameNow d (kv k) (kv k') = none ∨ Instr.sameNow d (kv k) (kv k') = some (eqb k k')
  eq : ∀ (k k' : α) (w : World), (Op.equal key (kv k) (kv k')).run P w = .ok (eqb k k') w
  beq : ∀ k k', eqb k k' = true → k = k'
  bits : ∀ k, Instr.sameBits 10000 (kv k) (kv k) = true
def Zj {α β : Type} (eqb : α → α → Bool) (k : α) : List (α × β) → Nat → Option (Nat × β)
  | [], _ => none
  | e :: es, i => if eqb k e.1 then some (i, e.2) else Zj eqb k es (i + 1)
def Qe {α β : Type} (eqb : α → α → Bool) (l : List (α × β)) (k : α) : Option β := (Zj eqb k l 0).map (·.2)
def zh1 {α β : Type} (eqb : α → α → Bool) (l : List (α × β)) (k : α) (v : β) : List (α × β) :=
  match Zj eqb k l 0 with
  | some (i, _) => l.modify i fun e => (k, v)
  | none => l ++ [(k, v)]
section
variable {P : Program} {α β : Type} {key elem : TypeId} {kv : α → Value} {vv : β → Value} {eqb : α → α → Bool}
theorem zim {d : TypeDesc} (hs : ∀ k k', Instr.sameNow d (kv k) (kv k') = none ∨ Instr.sameNow d (kv k) (kv k') = some (eqb k k')) (k : α) : ∀ (es : List MapEntry) (l : List (α × β)) (i : Nat), es.map (fun e => (e.key, e.val)) = l.map (fun e => (kv e.1, vv e.2)) →
    Instr.findNow d (kv k) es i = none ∨ Instr.findNow d (kv k) es i = some ((Zj eqb k l i).map fun r => (r.1, vv r.2))
  | [], [], i, _ => .inr rfl
  | e :: es, x :: l, i, h => by
    simp only [List.map_cons, List.cons.injEq, Prod.mk.injEq] at h
    obtain ⟨⟨h1, h2⟩, h3⟩ := h
    unfold Instr.findNow Zj
    rw [h1, h2]
    rcases hs k x.1 with h4 | h4 <;> rw [h4]
    · exact .inl rfl
    · cases eqb k x.1
      · exact zim hs k es l (i + 1) h3
      · exact .inr rfl
theorem zd7 (he : ∀ (k k' : α) (w : World), (Op.equal key (kv k) (kv k')).run P w = .ok (eqb k k') w) (k : α) (w : World) : ∀ (es : List MapEntry) (l : List (α × β)) (i : Nat), es.map (fun e => (e.key, e.val)) = l.map (fun e => (kv e.1, vv e.2)) →
    (Instr.findAsking key (kv k) es i).run P w = .ok ((Zj eqb k l i).map fun r => (r.1, vv r.2)) w
  | [], [], i, _ => rfl
  | e :: es, x :: l, i, h => by
    simp only [List.map_cons, List.cons.injEq, Prod.mk.injEq] at h
    obtain ⟨⟨h1, h2⟩, h3⟩ := h
    unfold Instr.findAsking Zj
    rw [h1, h2]
    simp only [Sem.run_bind, he, Result.andThen_ok]
    cases eqb k x.1
    · simpa using zd7 he k w es l (i + 1) h3
    · rfl
theorem zc3 (K : zkq P key kv eqb) (k : α) (w : World) {es : List MapEntry} {l : List (α × β)} (h : es.map (fun e => (e.key, e.val)) = l.map (fun e => (kv e.1, vv e.2))) :
    (Instr.findKey key (kv k) es).run P w = .ok ((Zj eqb k l 0).map fun r => (r.1, vv r.2)) w := by
  obtain ⟨d, hd, hs⟩ := K.und
  unfold Instr.findKey
  rw [Sem.run_bind, run_underlying hd, Result.andThen_ok]
  rcases zim (vv := vv) hs k es l 0 h with h1 | h1
  · rw [h1]; exact zd7 K.eq k w es l 0 h
  · rw [h1]; rfl
theorem zdy (K : zkq P key kv eqb) {t : TypeId} (ht : P.underlying t = some (.map key elem)) {zb : β} (hz : ∀ w, (zeroValue elem).run P w = .ok (vv zb) w) (k : α) {w : World} {b : Nat} {arr : Array MapEntry} {clock : Nat} {l : List (α × β)} (hb : w.heap[b]? = some (.map arr clock)) (h : arr.toList.map (fun e => (e.key, e.val)) = l.map (fun e => (kv e.1, vv e.2))) (ok : Bool) :
    (Instr.lookup t (.map (some b)) (kv k) ok).run P w = .ok (if ok then .tuple #[vv ((Qe eqb l k).getD zb), .bool (Qe eqb l k).isSome] else vv ((Qe eqb l k).getD zb)) w := by
  have h1 := zc3 K k w h
  have h2 := K.chk arr.isEmpty k w
  unfold Qe
  cases hf : Zj eqb k l 0 with
  | none => rw [hf] at h1; simp [Instr.lookup, run_underlying ht, MapKept.run_getObj_map hb, h2, h1, hz]
  | some r => rw [hf] at h1; simp [Instr.lookup, run_underlying ht, MapKept.run_getObj_map hb, h2, h1]
theorem zjz {eqb : α → α → Bool} {k : α} : ∀ {l : List (α × β)} {i : Nat} {r : Nat × β}, Zj eqb k l i = some r → ∃ e, l[r.1 - i]? = some e ∧ i ≤ r.1 ∧ eqb k e.1 = true
  | [], i, r, h => by cases h
  | e :: es, i, r, h => by
    unfold Zj at h
    split at h
    · rename_i he; cases h; exact ⟨e, by simp, Nat.le_refl _, he⟩
    · obtain ⟨e', h1, h2, h3⟩ := zjz h
      exact ⟨e', by rw [show r.1 - i = (r.1 - (i + 1)) + 1 by omega]; simpa using h1, by omega, h3⟩
theorem zfb (K : zkq P key kv eqb) {t : TypeId} (ht : P.underlying t = some (.map key elem)) (k : α) (v : β) {w : World} {b : Nat} {arr : Array MapEntry} {clock : Nat} {l : List (α × β)} (hb : w.heap[b]? = some (.map arr clock)) (h : arr.toList.map (fun e => (e.key, e.val)) = l.map (fun e => (kv e.1, vv e.2))) :
    ∃ arr' clock', (Instr.mapUpdate t (.map (some b)) (kv k) (vv v)).run P w = .ok () { w with heap := w.heap.setIfInBounds b (.map arr' clock') } ∧ arr'.toList.map (fun e => (e.key, e.val)) = (zh1 eqb l k v).map (fun e => (kv e.1, vv e.2)) := by
  have h1 := zc3 K k w h
  have h2 := K.chk false k w
  unfold zh1
  cases hf : Zj eqb k l 0 with
  | none =>
    rw [hf] at h1
    refine ⟨arr.push { key := kv k, val := vv v, born := clock }, clock + 1, by simp [Instr.mapUpdate, run_underlying ht, MapKept.run_getObj_map hb, h2, h1, MapKept.run_setObj_map _ hb], ?_⟩
    simp [h]
  | some r =>
    obtain ⟨i, x⟩ := r
    rw [hf] at h1
    obtain ⟨e, h3, _, h4⟩ := zjz hf
    simp only [Nat.sub_zero] at h3
    have hke := K.beq _ _ h4
    have hai : arr.toList[i]?.map (fun e => (e.key, e.val)) = some (kv e.1, vv e.2) := by
      rw [← List.getElem?_map, h, List.getElem?_map, h3]; rfl
    obtain ⟨ae, hae, hae2⟩ := Option.map_eq_some_iff.1 hai
    simp only [Prod.mk.injEq] at hae2
    have hae' : arr[i]? = some ae := by simpa using hae
    refine ⟨arr.modify i fun e => { e with key := kv k, val := vv v }, clock, ?_, ?_⟩
    · have hks : (Instr.keyThatStays (kv e.1) (kv k)).run P w = .ok (kv k) w := by
        rw [← hke]; simp [Instr.keyThatStays, K.bits]
      simp [Instr.mapUpdate, run_underlying ht, MapKept.run_getObj_map hb, h2, h1, hae', hae2.1, hks, MapKept.run_setObj_map _ hb]
    · apply List.ext_getElem?
      intro j
      have hj : (arr.toList[j]?).map (fun e => (e.key, e.val)) = (l[j]?).map (fun e => (kv e.1, vv e.2)) := by rw [← List.getElem?_map, ← List.getElem?_map, h]
      simp only [Array.toList_modify, List.getElem?_map, List.getElem?_modify]
      cases ha : arr.toList[j]? with
      | none => rw [ha] at hj; cases hl : l[j]? with
        | none => rfl
        | some y => rw [hl] at hj; cases hj
      | some y =>
        rw [ha] at hj
        cases hl : l[j]? with
        | none => rw [hl] at hj; cases hj
        | some z =>
          rw [hl] at hj
          simp only [Option.map_some, Option.some.injEq, Prod.mk.injEq] at hj
          by_cases hij : i = j
          · simp [hij]
          · simp [hij, hj]
end
def ownM {α β : Type} (kv : α → Value) (vv : β → Value) (H : PHeap) (id : Nat) (q : PV) (l : List (α × β)) : Prop := ∃ ver, q = .ps id ver ∧ H id = ⟨ver, some (.map (l.map fun e => (kv e.1, vv e.2)))⟩
theorem ownM.mono {α β : Type} {kv : α → Value} {vv : β → Value} {id : Nat} {H H' : PHeap} {q : PV} {l : List (α × β)} (h : ownM kv vv H id q l) (he : H' id = H id) : ownM kv vv H' id q l := by
  obtain ⟨ver, h1, h2⟩ := h
  exact ⟨ver, h1, he.trans h2⟩
section
variable {P : Program} {W : Env} {n : Nat} {H : PHeap} {F : PFrame} {ops : Array Oper} {o : Oper} {l : List Oper} {K : PFrame → PHeap → Prop}
variable {α β : Type} {key elem : TypeId} {kv : α → Value} {vv : β → Value} {eqb : α → α → Bool} {x y z : Operand} {t : TypeId} {id : Nat} {q : PV} {m : List (α × β)}
theorem ownM.at (h : ownM kv vv H id q m) {V : Nat → Value} {w : World} (hr : HRel P W H V w) {v : Value} (hv : Rp W.Z H V w q v) : ∃ ver g arr clock, q = .ps id ver ∧ H id = ⟨ver, some (.map (m.map fun e => (kv e.1, vv e.2)))⟩ ∧ v = .map (some g) ∧ V id = .map (some g) ∧ W.w.heap.size ≤ g ∧ w.heap[g]? = some (.map arr clock) ∧ arr.toList.map (fun e => (e.key, e.val)) = m.map fun e => (kv e.1, vv e.2) := by
  obtain ⟨ver, rfl, hH⟩ := h
  obtain ⟨g, arr, clock, e, hg, hh, he⟩ := hr.map id _ (by rw [hH])
  cases hv with
  | ps _ _ _ hvv hq =>
    have := hq (by rw [hH]; rfl) (by rw [hH])
    exact ⟨ver, g, arr, clock, rfl, hH, by rw [this, e], e, hg, hh, he⟩
theorem PL.mkM {d : Nat} (id : Nat) (hg : o.guard = none) (ho : o.op = .makeMap t none) (hd : o.dst = some d) (hdn : d < n)
    (h : ∀ q' H', ownM kv vv H' id q' ([] : List (α × β)) → (∀ j, j ≠ id → H' j = H j) → PL P W n ops l (F.put (some d) q') H' K) : PL P W n ops (o :: l) F H K := by
  refine PL.pe hg fun V a w hr => ?_
  have hex : (execOp a.eval o).run P w = .ok (.value (.map (some w.heap.size))) (w.alloc (.map #[] 0)) := by
    simp only [execOp, ho]; rfl
  refine Jn hex ⟨.ps id ((H id).ver + 1), H.set id ⟨(H id).ver + 1, some (.map [])⟩, yi V id (.map (some w.heap.size)), ?_, ?_⟩
  · rw [hd]
    exact h _ _ ⟨_, rfl, by simp [PHeap.set]⟩ (fun j hj => by simp [PHeap.set, hj])
  · have hb : Below w.heap.size w (w.alloc (.map #[] 0)) := (Below.refl _ _).alloc (Nat.le_refl _) _
    refine hr.turn (Turn.new hr.heap hb rfl fun g hg => by cases hg; exact Nat.le_refl _) (fun bd hbd => ?_) o.dst (fun t ht => by rw [hd] at ht; cases ht; exact hdn) ?_
    · cases hbd
      exact ⟨_, #[], 0, rfl, hr.heap.below.size, heap_alloc_new w _, rfl⟩
    · refine .ps _ _ _ ?_ fun _ _ => ?_
      · simp [PHeap.set]
      · simp [yi]
variable {d ty : Nat} {pos : String} {af : Array Edge} {g : Option (Nat × Bool)}
theorem m_val {zb : β} {pk : PV} {k : α} {rep : β → PV} (K : zkq P key kv eqb) (ht : P.underlying t = some (.map key elem)) (hz : ∀ w, (zeroValue elem).run P w = .ok (vv zb) w) (hr : ∀ v, rep v = .u (vv v)) (ho : ownM kv vv H id q m) (hx : evP F x = q) (hy : evP F y = pk) (hk : pk.val2 = some (kv k)) :
    PQ P W ⟨some d, .lookup t x y false, ty, pos, af, g⟩ F H (rep ((Qe eqb m k).getD zb)) := PQ.of_run fun V a w hw hh => by
  have hxv := hh x (by simp [Op.operands])
  have hyv := (hh y (by simp [Op.operands])).val2 (by rw [hy]; exact hk)
  rw [hx] at hxv
  obtain ⟨ver, gb, arr, clock, rfl, hH, hv, hV, hg, hb, he⟩ := ho.at hw hxv
  refine ⟨vv ((Qe eqb m k).getD zb), ?_, by rw [hr]; exact .u _⟩
  have h1 := zdy K ht hz k hb he false
  simp only [execOp, hv, hyv, Sem.run_bind, h1, Result.andThen_ok]
  rfl
theorem m_get {zb : β} {pk : PV} {k : α} {rep : β → PV} (K : zkq P key kv eqb) (ht : P.underlying t = some (.map key elem)) (hz : ∀ w, (zeroValue elem).run P w = .ok (vv zb) w) (hr : ∀ v, rep v = .u (vv v)) (ho : ownM kv vv H id q m) (hx : evP F x = q) (hy : evP F y = pk) (hk : pk.val2 = some (kv k)) :
    PQ P W ⟨some d, .lookup t x y true, ty, pos, af, g⟩ F H (.tup [rep ((Qe eqb m k).getD zb), .u (.bool (Qe eqb m k).isSome)]) := PQ.of_run fun V a w hw hh => by
  have hxv := hh x (by simp [Op.operands])
  have hyv := (hh y (by simp [Op.operands])).val2 (by rw [hy]; exact hk)
  rw [hx] at hxv
  obtain ⟨ver, gb, arr, clock, rfl, hH, hv, hV, hg, hb, he⟩ := ho.at hw hxv
  refine ⟨.tuple #[vv ((Qe eqb m k).getD zb), .bool (Qe eqb m k).isSome], ?_, ?_⟩
  · have h1 := zdy K ht hz k hb he true
    simp only [execOp, hv, hyv, Sem.run_bind, h1, Result.andThen_ok]
    rfl
  · refine .tup _ _ rfl fun i p v h1 h2 => ?_
    match i, h1, h2 with
    | 0, h1, h2 => cases h1; cases h2; rw [hr]; exact .u _
    | 1, h1, h2 => cases h1; cases h2; exact .u _
theorem m_len (ht : P.underlying t = some (.map key elem)) (ho : ownM kv vv H id q m) (hx : evP F x = q) : PQ P W ⟨some d, .call { callee := .builtin .len, args := #[x], argTypes := #[t] }, ty, pos, af, g⟩ F H (.u (.int .i64 m.length)) := PQ.of_run fun V a w hw hh => by
  have hxv := hh x (by simp [Op.operands, Call.operands])
  rw [hx] at hxv
  obtain ⟨ver, gb, arr, clock, rfl, hH, hv, hV, hg, hb, he⟩ := ho.at hw hxv
  refine ⟨.int .i64 m.length, ?_, .u _⟩
  have hlen : arr.size = m.length := by have := congrArg List.length he; simpa using this
  have : (Builtin.len_ #[t] ty #[.map (some gb)]).run P w = .ok (goInt m.length) w := by
    simp [Builtin.len_, run_underlying ht, MapKept.run_getObj_map hb, hlen]
  simp only [execOp, resolve, invoke, builtin, Sem.run_bind, Sem.run_pure, Result.andThen_ok, List.map_toArray, List.map_cons, List.map_nil, hv, this]
  rfl
theorem PL.putM {pk pv : PV} {k : α} {v : β} (KL : zkq P key kv eqb) (hg : o.guard = none) (ho : o.op = .mapUpdate t x y z) (hd : y7 n o) (ht : P.underlying t = some (.map key elem)) (hm : ownM kv vv H id q m) (hx : evP F x = q) (hy : evP F y = pk) (hk : pk.val2 = some (kv k)) (hzv : evP F z = pv) (hv2 : pv.val2 = some (vv v))
    (h : ∀ H', ownM kv vv H' id q (zh1 eqb m k v) → (∀ j, j ≠ id → H' j = H j) → PL P W n ops l (F.put o.dst (.u undef)) H' K) : PL P W n ops (o :: l) F H K := by
  refine PL.pe hg fun V a w hr => ?_
  have ev : ∀ (x : Operand), Rp W.Z H V w (evP F x) (a.eval x) := fun x => Rp.eval (P := P) x fun t _ => hr.slot t
  have hxv := ev x
  have hyv := (ev y).val2 (by rw [hy]; exact hk)
  have hzz := (ev z).val2 (by rw [hzv]; exact hv2)
  rw [hx] at hxv
  obtain ⟨ver, gb, arr, clock, rfl, hH, hv, hV, hgb, hb, he⟩ := hm.at hr.heap hxv
  obtain ⟨arr', clock', hrun, he'⟩ := zfb KL ht k v hb he
  have hlt := (Array.getElem?_eq_some_iff.1 hb).1
  have hother : ∀ b, b ≠ gb → (w.heap.setIfInBounds gb (.map arr' clock'))[b]? = w.heap[b]? := fun b hne => by simp [Ne.symm hne]
  have hturn : Turn W H V w id ⟨ver, some (.map ((zh1 eqb m k v).map fun e => (kv e.1, vv e.2)))⟩ (V id) { w with heap := w.heap.setIfInBounds gb (.map arr' clock') } := by
    have hl : (H id).body.isSome = true := by rw [hH]; rfl
    refine ⟨hr.heap.below.trans ⟨rfl, rfl, rfl, by simp, fun b hb => hother b (by omega)⟩, by simp, fun b hb hn => hother b fun e => hn ⟨hl, by rw [e, hV]; rfl⟩, fun g' hg' => .inr ⟨hl, hg'⟩, .inr ⟨by rw [hH], rfl, hl⟩⟩
  have hex : (execOp a.eval o).run P w = .ok .skip { w with heap := w.heap.setIfInBounds gb (.map arr' clock') } := by
    simp only [execOp, ho, hv, hyv, hzz, Sem.run_bind, hrun, Result.andThen_ok]; rfl
  unfold Oper.wp
  rw [hex]
  refine ⟨.u undef, _, yi V id (V id), h (H.set id ⟨ver, some (.map ((zh1 eqb m k v).map fun e => (kv e.1, vv e.2)))⟩) ⟨ver, rfl, by simp [PHeap.set]⟩ (fun j hj => by simp [PHeap.set, hj]), hr.turn hturn (fun bd hbd => ?_) o.dst hd (.u _)⟩
  cases hbd
  exact ⟨gb, arr', clock', hV, hgb, by simp [hlt], he'⟩
end
end Go.Proofs.Ytpohfkgjghiofaa.L

namespace Go.Proofs.Ytpohfkgjghiofaa.L
open Go Go.RowKit
set_option linter.unusedVariables false
set_option linter.unusedSimpArgs false
section
variable {P : Program}
theorem za4 {d : Nat} {t : TypeId} {D : TypeDesc} {x y : Value} {r : Bool} (ht : P.underlying t = some D) (h : Instr.sameNow D x y = some r) (w : World) : (Op.equalIn (d + 1) t x y).run P w = .ok r w := by
  unfold Instr.sameNow at h
  split at h
  · split at h
    · rename_i hk; cases h; subst hk; simp [Op.equalIn, run_underlying ht]
    · cases h
  · cases h; simp [Op.equalIn, run_underlying ht]
  · cases h; simp [Op.equalIn, run_underlying ht]
  · cases h
theorem zej {D : TypeDesc} {x y : Value} {r : Bool} (h : Instr.sameNow D x y = some r) : zes D = false := by
  unfold Instr.sameNow at h
  split at h <;> first | rfl | cases h
def V6 (P : Program) (xs ys : Array Value) (f : Field) : Option Bool :=
  if f.name = "_" then none else
  match P.underlying f.type, xs[f.offset]?, ys[f.offset]? with
  | some d, some x, some y => Instr.sameNow d x y
  | _, _, _ => none
def eqS (P : Program) (t : TypeId) (xs ys : Array Value) : Option (List Bool) :=
  match P.underlying t with
  | some (.struct fs) => if P.stoodInHeld t then none else fs.toList.mapM (V6 P xs ys)
  | _ => none
theorem Y3 {t : TypeId} {D : TypeDesc} (ht : P.underlying t = some D) (ha : zes D = false) {cs : Array Value} {i : Nat} {v : Value} (h : cs[i]? = some v) (w : World) : (part t cs i).run P w = .ok v w := by
  unfold part
  rw [Sem.run_bind, zib ht]
  simp [ha, h]
theorem zds {xs ys : Array Value} {f : Field} {r : Bool} (h : V6 P xs ys f = some r) : f.name ≠ "_" ∧ ∃ D x y, P.underlying f.type = some D ∧ zes D = false ∧ xs[f.offset]? = some x ∧ ys[f.offset]? = some y ∧ Instr.sameNow D x y = some r := by
  unfold V6 at h
  split at h
  · cases h
  · rename_i hn
    refine ⟨hn, ?_⟩
    split at h
    · rename_i D x y h1 h2 h3
      exact ⟨D, x, y, h1, zej h, h2, h3, h⟩
    · cases h
theorem zdu {xs ys : Array Value} {d : Nat} (w : World) : ∀ (fs : List Field) (es : List Bool), fs.mapM (V6 P xs ys) = some es → (Op.eqFields (d + 1) xs ys fs).run P w = .ok (es.all id) w
  | [], es, h => by
    simp at h; subst h; simp [Op.eqFields]
  | f :: fs, es, h => by
    rw [List.mapM_cons] at h
    cases h1 : V6 P xs ys f with
    | none => rw [h1] at h; cases h
    | some r =>
      rw [h1] at h
      cases h2 : fs.mapM (V6 P xs ys) with
      | none => rw [h2] at h; cases h
      | some rs =>
        rw [h2] at h
        cases h
        obtain ⟨hn, D, x, y, hD, hp, hx, hy, hs⟩ := zds h1
        unfold Op.eqFields
        rw [if_pos hn]
        simp only [Sem.run_bind, Y3 hD hp hx, Y3 hD hp hy, za4 hD hs, Result.andThen_ok]
        cases r
        · simp
        · simpa using zdu w fs rs h2
theorem zf8 {t : TypeId} {xs ys : Array Value} {es : List Bool} (h : eqS P t xs ys = some es) : ∃ fs, P.underlying t = some (.struct fs) ∧ P.stoodInHeld t = false ∧ fs.toList.mapM (V6 P xs ys) = some es := by
  unfold eqS at h
  split at h
  · rename_i fs hu
    split at h
    · cases h
    · rename_i hs; exact ⟨fs, hu, by simpa using hs, h⟩
  · cases h
theorem zod {t : TypeId} {xs ys : Array Value} {es : List Bool} (h : eqS P t xs ys = some es) (w : World) (d : Nat) : (Op.equalIn (d + 2) t (.agg xs) (.agg ys)).run P w = .ok (es.all id) w := by
  obtain ⟨fs, hu, hs, he⟩ := zf8 h
  have hf : P.fieldsOf t = fs := by unfold Program.fieldsOf; rw [hu]
  rw [run_equalIn_struct w (d + 1) t xs ys (by rw [hf]; exact hu) hs, hf]
  exact zdu w _ _ he
theorem klawS {α : Type} {t : TypeId} {kc : α → Array Value} {eb : α → α → List Bool} (a0 : α) (h : ∀ a b, eqS P t (kc a) (kc b) = some (eb a b)) (hb : ∀ a b, (eb a b).all id = true → a = b) (hbits : ∀ a, Instr.sameBits 10000 (.agg (kc a)) (.agg (kc a)) = true) : zkq P t (fun a => .agg (kc a)) (fun a b => (eb a b).all id) where
  chk := fun b k w => by
    obtain ⟨fs, hu, hs, he⟩ := zf8 (h k k)
    unfold Instr.checkKey
    simp only [Sem.run_bind, run_underlying hu, Result.andThen_ok]
    rw [← Array.forIn_toList]
    have key : ∀ (l : List Field) (es : List Bool), l.mapM (V6 P (kc k) (kc k)) = some es → ∀ (n : Nat), (forIn l PUnit.unit fun f (_ : PUnit) => (if f.name ≠ "_" then do Instr.checkKey b (n + 1) f.type (← part f.type (kc k) f.offset); pure (ForInStep.yield PUnit.unit) else pure (ForInStep.yield PUnit.unit) : Sem (ForInStep PUnit))).run P w = .ok PUnit.unit w := by
      intro l
      induction l with
      | nil => intro es _ n; simp
      | cons f l ih =>
        intro es hm n
        rw [List.mapM_cons] at hm
        cases h1 : V6 P (kc k) (kc k) f with
        | none => rw [h1] at hm; cases hm
        | some r =>
          rw [h1] at hm
          cases h2 : l.mapM (V6 P (kc k) (kc k)) with
          | none => rw [h2] at hm; cases hm
          | some rs =>
            obtain ⟨hn, D, x, y, hD, hp, hx, hy, hsn⟩ := zds h1
            have hc : (Instr.checkKey b (n + 1) f.type x).run P w = .ok () w := by
              unfold Instr.checkKey
              simp only [Sem.run_bind, run_underlying hD, Result.andThen_ok]
              unfold Instr.sameNow at hsn
              split at hsn <;> first | rfl | cases hsn
            rw [List.forIn_cons, if_pos hn]
            simp only [Sem.run_bind, Y3 hD hp hx, hc, Result.andThen_ok, Sem.run_pure]
            exact ih rs h2 n
    have := key _ _ he 9998
    simp only [Nat.reduceAdd] at this
    rw [this]; rfl
  und := by
    obtain ⟨fs, hu, _, _⟩ := zf8 (h a0 a0)
    exact ⟨_, hu, fun k k' => .inl rfl⟩
  eq := fun a b w => zod (h a b) w 9998
  beq := hb
  bits := hbits
theorem zha (c : Nat → Bool) (body : Nat → Option Bool × Unit → Sem (ForInStep (Option Bool × Unit))) (w : World) : ∀ (l : List Nat), (∀ i ∈ l, (body i (none, ())).run P w = .ok (if c i then .yield (none, ()) else .done (some false, ())) w) →
    (forIn l ((none, ()) : Option Bool × Unit) body).run P w = .ok (if l.all c then none else some false, ()) w
  | [], _ => by simp
  | i :: l, h => by
    rw [List.forIn_cons, Sem.run_bind, h i (by simp)]
    cases hc : c i
    · simp [hc]
    · simpa [hc] using zha c body w l fun j hj => h j (by simp [hj])
theorem zot {t e : TypeId} {n : Nat} {D : TypeDesc} {xs ys : Array Value} {c : Nat → Bool} (hu : P.underlying t = some (.array n e)) (hD : P.underlying e = some D) (hs : ∀ w, (sizeOf e).run P w = .ok 1 w) (h : ∀ i, i < n → ∃ x y, xs[i]? = some x ∧ ys[i]? = some y ∧ Instr.sameNow D x y = some (c i)) (w : World) (d : Nat) :
    (Op.equalIn (d + 2) t (.agg xs) (.agg ys)).run P w = .ok ((List.range n).all c) w := by
  rw [Op.equalIn]
  simp only [Sem.run_bind, run_underlying hu, Result.andThen_ok, hs]
  rw [Std.Legacy.Range.forIn_eq_forIn_range']
  have e1 : List.range' ([:n] : Std.Legacy.Range).start ([:n] : Std.Legacy.Range).size ([:n] : Std.Legacy.Range).step = List.range n := by
    simp [Std.Legacy.Range.size, List.range_eq_range']
  rw [e1]
  have h2 := zha (P := P) c (fun i r => do
      if (!(← Op.equalIn (d + 1) e (← part e xs (i * 1)) (← part e ys (i * 1)))) = true then pure (ForInStep.done (some false, ())) else pure (ForInStep.yield (none, ()))) w (List.range n) fun i hi => by
    obtain ⟨x, y, hx, hy, hsn⟩ := h i (List.mem_range.1 hi)
    simp only [Nat.mul_one, Sem.run_bind, Y3 hD (zej hsn) hx, Y3 hD (zej hsn) hy, za4 hD hsn, Result.andThen_ok]
    cases c i <;> simp
  rw [h2]
  cases (List.range n).all c <;> simp
end
end Go.Proofs.Ytpohfkgjghiofaa.L

namespace Go.Proofs.Ytpohfkgjghiofaa
open Go Go.RowKit L
set_option linter.unusedVariables false
set_option linter.unusedSimpArgs false
section
variable {P : Program} {W : Env} {n : Nat} {H : PHeap} {F : PFrame} {ops : Array Oper} {o : Oper} {l : List Oper} {K : PFrame → PHeap → Prop}
variable {d ty t' : Nat} {pos : String} {af : Array Edge} {g : Option (Nat × Bool)} {x y : Operand} {t : Nat}
theorem zgd {α : Type} {rep : α → PV} {enc : α → Value} (hr : ∀ v, rep v = .u (enc v)) : ∀ l : List α, (l.map rep).mapM zgz = some (l.map enc)
  | [] => rfl
  | a :: l => by simp [hr, zgz, zgd hr l]
theorem zdk {α : Type} {m : Nat} {rep : α → PV} {enc : α → Value} (hr : ∀ v, rep v = .u (enc v)) (a : Arr m α) : (arV rep a).val2 = some (.agg (a.1.map enc).toArray) := by
  simp [arV, PV.val2, zgd hr]
theorem zl4 {a b : List Int} {n : Nat} (ha : a.length = n) (hb : b.length = n) : ((List.range n).all fun i => a.getD i 0 == b.getD i 0) = (a == b) := by
  rw [Bool.eq_iff_iff, List.all_eq_true, beq_iff_eq]
  constructor
  · intro h
    apply List.ext_getElem (by omega)
    intro i h1 h2
    have := h i (List.mem_range.2 (by omega))
    simpa [List.getD, h1, h2] using this
  · intro h i _; rw [h]; simp
theorem zkr {e m : Nat} {kd : IntKind} (hu : P.underlying t = some (.array m e)) (hD : P.underlying e = some (.int kd)) (hs : ∀ w, (sizeOf e).run P w = .ok 1 w) (a b : Arr m Int) (w : World) :
    (Op.equal t (.agg (a.1.map (Value.int kd)).toArray) (.agg (b.1.map (Value.int kd)).toArray)).run P w = .ok (a.1 == b.1) w := by
  have h := zot (P := P) (c := fun i => a.1.getD i 0 == b.1.getD i 0) (xs := (a.1.map (Value.int kd)).toArray) (ys := (b.1.map (Value.int kd)).toArray) hu hD hs (fun i hi => by
    have h1 : i < a.1.length := by rw [a.2]; exact hi
    have h2 : i < b.1.length := by rw [b.2]; exact hi
    exact ⟨.int kd a.1[i], .int kd b.1[i], by simp [h1], by simp [h2], by simp [Instr.sameNow, List.getD, h1, h2]⟩) w 9998
  rw [zl4 a.2 b.2] at h
  exact h
theorem ar_eql {e m : Nat} {kd : IntKind} {rep : Int → PV} (hr : ∀ v, rep v = .u (.int kd v)) (hu : P.underlying t = some (.array m e)) (hD : P.underlying e = some (.int kd)) (hs : ∀ w, (sizeOf e).run P w = .ok 1 w) (hg : P.eqGuardType P.depth t = false) (a b : Arr m Int) (hx : evP F x = arV rep a) (hy : evP F y = arV rep b) :
    PQ P W ⟨some d, .binOp .eql t x y t', ty, pos, af, g⟩ F H (.u (.bool (a.1 == b.1))) := PQ.of_run fun V ac w hw hh => by
  have h1 := (hh x (by simp [Op.operands])).val2 (by rw [hx]; exact zdk hr a)
  have h2 := (hh y (by simp [Op.operands])).val2 (by rw [hy]; exact zdk hr b)
  have h3 := run_eqGuard_agg (P := P) w .eql t x y (a.1.map (Value.int kd)).toArray (b.1.map (Value.int kd)).toArray hg
  have h4 := zkr hu hD hs a b w
  exact ⟨_, by simp only [execOp, h1, h2]; simp [Sem.run_bind, h3, binOp, h4], .u _⟩
theorem ar_neq {e m : Nat} {kd : IntKind} {rep : Int → PV} (hr : ∀ v, rep v = .u (.int kd v)) (hu : P.underlying t = some (.array m e)) (hD : P.underlying e = some (.int kd)) (hs : ∀ w, (sizeOf e).run P w = .ok 1 w) (hg : P.eqGuardType P.depth t = false) (a b : Arr m Int) (hx : evP F x = arV rep a) (hy : evP F y = arV rep b) :
    PQ P W ⟨some d, .binOp .neq t x y t', ty, pos, af, g⟩ F H (.u (.bool (!(a.1 == b.1)))) := PQ.of_run fun V ac w hw hh => by
  have h1 := (hh x (by simp [Op.operands])).val2 (by rw [hx]; exact zdk hr a)
  have h2 := (hh y (by simp [Op.operands])).val2 (by rw [hy]; exact zdk hr b)
  have h3 := run_eqGuard_agg (P := P) w .neq t x y (a.1.map (Value.int kd)).toArray (b.1.map (Value.int kd)).toArray hg
  have h4 := zkr hu hD hs a b w
  exact ⟨_, by simp only [execOp, h1, h2]; simp [Sem.run_bind, h3, binOp, h4], .u _⟩
theorem zl0 {α : Type} {m : Nat} {rep : α → PV} {a : Arr m α} {cs : List PV} (h : vy true m cs = some (arV rep a)) {i : Nat} {v : α} (hv : a.1[i]? = some v) : cs[i]? = some (rep v) := by
  obtain ⟨hlt, _⟩ := List.getElem?_eq_some_iff.1 hv
  have hle : m ≤ cs.length := by
    unfold vy at h
    simp only [if_true] at h
    split at h
    · assumption
    · cases h
  rw [zc7 _ _ hle] at h
  simp only [arV, Option.some.injEq, PV.agg.injEq] at h
  have h2 : (cs.take m)[i]? = some (rep v) := by rw [h, List.getElem?_map, hv]; rfl
  rw [List.getElem?_take] at h2
  split at h2
  · exact h2
  · cases h2
theorem zlx {α : Type} {m : Nat} {rep : α → PV} {a : Arr m α} {cs : List PV} {kd : IntKind} {z : Int} {v : α} (hl : vy true m cs = some (arV rep a)) (he : arr P t = some (m, 1)) (hx : evP F x = .rp cs) (hy : evP F y = .u (.int kd z)) (hv : idx a.1 z = some v) : qu P H F ⟨some d, .indexAddr t x y, ty, pos, af, g⟩ = some (.rp (cs.drop (z.toNat * 1))) := by
  obtain ⟨h0, h1⟩ := y6 hv
  obtain ⟨hlt, _⟩ := List.getElem?_eq_some_iff.1 h1
  rw [zn, hx, hy, zcs _ _ h0, he]
  show (if z.toNat < m then _ else none) = _
  rw [if_pos (a.2 ▸ hlt)]
theorem zlm {α : Type} {m : Nat} {rep : α → PV} {a : Arr m α} {cs : List PV} {z : Int} {v : α} (hl : vy true m cs = some (arV rep a)) (hv : idx a.1 z = some v) : vy false 1 (cs.drop (z.toNat * 1)) = some (rep v) := by
  obtain ⟨h0, h1⟩ := y6 hv
  have := zl0 hl h1
  rw [Zl, Nat.mul_one]
  simpa using this
def zmw (a b : ByteArray) : Option ByteArray := if ((a.size + b.size : Nat) : Int) ≤ 9223372036854775807 then some (a ++ b) else none
theorem b_addS {a b r : ByteArray} (h : zmw a b = some r) : z6 P .add t x y (.u (.string a)) (.u (.string b)) = some (.u (.string r)) := by
  unfold zmw at h
  split at h
  · rename_i hc
    cases h
    have : ¬ ((a.size + b.size : Nat) : Int) > IntKind.i64.max := by simp only [IntKind.max, IntKind.bits] at *; omega
    simp only [z6, PV.val2, eqGuard, binOp, vu, v6, Op.stringOp, ofV, if_neg this]; rfl
  · cases h
def zel (a b : ByteArray) : Bool := Op.bytesLess a.toList b.toList
theorem b_lssS (a b : ByteArray) : z6 P .lss t x y (.u (.string a)) (.u (.string b)) = some (.u (.bool (zel a b))) := by
  simp [z6, PV.val2, eqGuard, binOp, vu, v6, Op.stringOp, ofV, zel]
def zkz (k : IntKind) (a b : Int) : Option Int := if b = 0 then none else some (k.wrap (a.tdiv b))
def zlj (k : IntKind) (a b : Int) : Option Int := if b = 0 then none else some (a.tmod b)
theorem zjt {k : IntKind} {a b r : Int} (h : zkz k a b = some r) : z6 P .quo t x y (.u (.int k a)) (.u (.int k b)) = some (.u (.int k r)) := by
  unfold zkz at h
  split at h
  · cases h
  · rename_i hb; cases h; simp [z6, PV.val2, eqGuard, binOp, vu, v6, Op.intDiv, hb, ofV]
theorem zki {k : IntKind} {a b r : Int} (h : zlj k a b = some r) : z6 P .rem t x y (.u (.int k a)) (.u (.int k b)) = some (.u (.int k r)) := by
  unfold zlj at h
  split at h
  · cases h
  · rename_i hb; cases h; simp [z6, PV.val2, eqGuard, binOp, vu, v6, Op.intDiv, hb, ofV]
theorem zjl {e : Nat} {rep : Int → PV} {xs : List Int} (hr : ∀ v, rep v = .u (.int .u8 v)) (hs : P.underlying t = some (.slice e)) (he : P.underlying e = some (.int .u8)) (hd : P.underlying t' = some .string) (hx : evP F x = .sl 1 (xs.map rep)) :
    PQ P W ⟨some d, .convert t t' x, ty, pos, af, g⟩ F H (.u (.string (strOfNums xs))) := PQ.of_run fun V ac w hw hh => by
  have h1 := hh x (by simp [Op.operands])
  rw [hx] at h1
  refine ⟨_, ?_, .u _⟩
  generalize hxs : xs.map rep = us at h1
  generalize hv : ac.eval x = v at h1
  cases h1 with
  | nil k a c =>
    have : xs = [] := List.map_eq_nil_iff.1 hxs
    subst this
    simp only [execOp, hv, Sem.run_bind, convert, run_underlying hs, run_underlying hd, run_underlying he, Result.andThen_ok]
    cases a <;> simp [convert, run_underlying hs, run_underlying hd, run_underlying he, Conv.bytesToString, loadCells, loadCellsFrom, strOfNums] <;> rfl
  | sl k us b o c gg hu hlen hz hb h1 h2 =>
    subst hxs
    have hfl : (xs.map rep).flatMap PV.cells = xs.map rep := Vh (fun v => by rw [hr]; rfl) xs
    have hcell : ∀ i, i < xs.length → w.cell? ⟨b, o + i, none⟩ = some (.int .u8 (xs.getD i 0)) := fun i hi => by
      have hp : ((xs.map rep).flatMap PV.cells)[i]? = some (rep xs[i]) := by rw [hfl]; simp [hi]
      have h3 := h2 i _ hp
      rw [h1 i _ hp]
      rw [hr] at h3
      generalize gg i = q at h3
      cases h3
      simp [List.getD, hi]
    have := run_convert_bytes_arg (P := P) w t e hs he b o xs.length c xs rfl hcell t' hd
    simp only [execOp, hv, List.length_map, Sem.run_bind, this, Result.andThen_ok]
    rfl
end
end Go.Proofs.Ytpohfkgjghiofaa

namespace Go.Proofs.Ytpohfkgjghiofaa
open Go Go.RowKit L
set_option linter.unusedVariables false
set_option linter.unusedSimpArgs false
section
variable {P : Program} {n : Nat} {H : PHeap} {F : PFrame} {ops : Array Oper} {o : Oper} {l : List Oper}
theorem UF.q {Q : PFrame → Prop} {p : PV} (hg : o.guard = none) (hd : y7 n o) (hp : qu P H F o = some p) (h : zgy P n ops H Q l (F.put o.dst p)) : zgy P n ops H Q (o :: l) F :=
  ⟨hd, .inl ⟨by unfold vd; rw [hg], p, fun W => ju hp, h⟩⟩
theorem UF.qq {Q : PFrame → Prop} {p : PV} (hg : o.guard = none) (hd : y7 n o) (hp : ∀ {W : Env}, PQ P W o F H p) (h : zgy P n ops H Q l (F.put o.dst p)) : zgy P n ops H Q (o :: l) F :=
  ⟨hd, .inl ⟨by unfold vd; rw [hg], p, fun W => hp, h⟩⟩
theorem UF.nil {Q : PFrame → Prop} (h : Q F) : zgy P n ops H Q [] F := h
end
theorem Vp {H : PHeap} {α : Type} {rep : α → PV} {xs : List α} {k len : Nat} {ips : List (Nat × PV)} (h1 : ips.map (·.1) = List.range len) (hc : ips.map (·.2) = xs.map rep) (hk : ∀ x, (rep x).cells.length = k) (ho : ∀ x, okC H (rep x) = true) : zbx H k len ips = true := by
  unfold zbx
  rw [Bool.and_eq_true, decide_eq_true_eq, List.all_eq_true]
  refine ⟨h1, fun p hp => ?_⟩
  have : p.2 ∈ xs.map rep := by rw [← hc]; exact List.mem_map.2 ⟨p, hp, rfl⟩
  obtain ⟨z, _, hz⟩ := List.mem_map.1 this
  rw [Bool.and_eq_true, decide_eq_true_eq, ← hz]
  exact ⟨hk z, ho z⟩
theorem zm8 {H : PHeap} {places : List (Nat × Nat)} {cs : List PV} : Zc H places cs [] = some cs := rfl
theorem ziz {H : PHeap} {places : List (Nat × Nat)} {cs cs1 r : List PV} {i off size : Nat} {p : PV} {rest : List (Nat × PV)} (h1 : places[i]? = some (off, size)) (h2 : p.cells.length = size) (h3 : off + size ≤ cs.length) (h4 : okC H p = true) (h5 : setMany cs off p.cells = cs1) (h6 : Zc H places cs1 rest = some r) : Zc H places cs ((i, p) :: rest) = some r := by
  unfold Zc
  rw [h1]
  simp only
  rw [if_pos ⟨h2, h3, h4⟩, h5]
  exact h6
theorem znp {P : Program} {H : PHeap} {t : Nat} {zs r : List PV} {places : List (Nat × Nat)} {parts : List (Nat × PV)} (h1 : zof P t = some (zs, places)) (h2 : zs.all (ya H) = true) (h3 : Zc H places zs parts = some r) : zb2 P H t parts = some (.agg r) := by
  unfold zb2
  rw [h1]
  simp only
  rw [if_pos h2, h3]; rfl
theorem vz {A B : List PV} {N : Nat} (hb : B.length = N) (ha : A.length = N) : setMany A 0 B = B := sm_all (hb.trans ha.symm)
section
variable {P : Program} {x y : Operand} {t t' : Nat}
def zly (k : IntKind) (a b : Int) : Int := k.wrap ((BitVec.ofInt k.bits a &&& BitVec.ofInt k.bits b).toNat)
def orI (k : IntKind) (a b : Int) : Int := k.wrap ((BitVec.ofInt k.bits a ||| BitVec.ofInt k.bits b).toNat)
def zom (k : IntKind) (a b : Int) : Option Int := if b < 0 then none else some (k.wrap (a * 2 ^ (min b.toNat k.bits)))
def shrT (k : IntKind) (a b : Int) : Option Int := if b < 0 then none else some (a.fdiv (2 ^ (min b.toNat k.bits)))
theorem b_and {k : IntKind} (a b : Int) : z6 P .and t x y (.u (.int k a)) (.u (.int k b)) = some (.u (.int k (zly k a b))) := by simp [z6, PV.val2, eqGuard, binOp, vu, v6, Op.intBits, ofV, zly]
theorem b_or {k : IntKind} (a b : Int) : z6 P .or t x y (.u (.int k a)) (.u (.int k b)) = some (.u (.int k (orI k a b))) := by simp [z6, PV.val2, eqGuard, binOp, vu, v6, Op.intBits, ofV, orI]
theorem zow {k k' : IntKind} {a b r : Int} (h : zom k a b = some r) : z6 P .shl t x y (.u (.int k a)) (.u (.int k' b)) = some (.u (.int k r)) := by
  unfold zom at h
  split at h
  · cases h
  · rename_i hb; cases h; simp [z6, PV.val2, eqGuard, binOp, vu, v6, Op.shift, hb, ofV]
theorem b_shr {k k' : IntKind} {a b r : Int} (h : shrT k a b = some r) : z6 P .shr t x y (.u (.int k a)) (.u (.int k' b)) = some (.u (.int k r)) := by
  unfold shrT at h
  split at h
  · cases h
  · rename_i hb; cases h; simp [z6, PV.val2, eqGuard, binOp, vu, v6, Op.shift, hb, ofV]
end
end Go.Proofs.Ytpohfkgjghiofaa

namespace Go.Proofs.Ytpohfkgjghiofaa
open Go Go.RowKit L
set_option linter.unusedVariables false
set_option linter.unusedSimpArgs false
section
variable {P : Program} {W : Env} {n : Nat} {H : PHeap} {F : PFrame} {ops : Array Oper} {o : Oper} {l : List Oper} {K : PFrame → PHeap → Prop}
theorem vl0 : ViewL H [] [] := ⟨rfl, fun i p q h => by simp at h⟩
theorem vlc {p q : PV} {ps qs : List PV} (h : View H p q) (hs : ViewL H ps qs) : ViewL H (p :: ps) (q :: qs) := ⟨by simp [hs.1], fun i a b h1 h2 => by
  cases i with
  | zero => cases h1; cases h2; exact h
  | succ i => exact hs.2 i a b (by simpa using h1) (by simpa using h2)⟩
theorem View.nilS {k : Nat} : View H (.u (.slice none 0 0)) (.sl k []) := fun P W V w hr v hv => by cases hv; exact .nil _ _ _
theorem ownL.view2 {α : Type} {e k id : Nat} {rep : α → PV} {q : PV} {xs : List α} (h : ownL e k rep H id q xs) (hk : ∀ x, (rep x).cells.length = k) (hn : ∀ x, NoP (rep x)) : View H q (.sl k (xs.map rep)) := by
  rcases h.2 with ⟨rfl, h0⟩ | ⟨ver, rfl, hH⟩
  · have : xs = [] := List.eq_nil_of_length_eq_zero h0
    subst this
    exact View.nilS
  · refine View.row (t := e) (n := xs.length) (cs := (xs.map rep).flatMap PV.cells) ?_ (xs.map rep) (by simp) (fun y hy => by obtain ⟨z, _, rfl⟩ := List.mem_map.1 hy; exact hk z) fun i p q h1 h2 => ?_
    · rw [Yb, hH, zdm, if_pos rfl]
    · rw [h1] at h2
      cases h2
      obtain ⟨y, hy, hp⟩ := List.mem_flatMap.1 (List.mem_of_getElem? h1)
      obtain ⟨z, _, rfl⟩ := List.mem_map.1 hy
      exact View.noP ((hn z).cell hp)
theorem callS {f : FuncId} {d : Option Nat} {args : Array Operand} {ts : Array TypeId} {ty : Nat} {pos : String} {af : Array Edge} {g : Option (Nat × Bool)} {ps qs : List PV} {p0 : PV} (hf : Vj P f = true) (ha : args.toList.map (evP F) = ps) (hv : ViewL H ps qs) (hs : Sc p0) (hc : PCall P f qs (· = p0)) : PQ P W ⟨d, .call ⟨.value (.func f), args, ts⟩, ty, pos, af, g⟩ F H p0 :=
  PQ.callA rfl (by rw [J2, ha]) hf hv hc hs
theorem zkn : ∀ p ∈ ([] : List PV), NoF p := fun p h => by cases h
theorem Yr {p : PV} {ps : List PV} (h : NoF p) (hs : ∀ p ∈ ps, NoF p) : ∀ q ∈ p :: ps, NoF q := fun q hq => by
  rcases List.mem_cons.1 hq with e | hq
  · rw [e]; exact h
  · exact hs q hq
theorem nofa {ps qs : List PV} (hp : ∀ p ∈ ps, NoF p) (hq : ∀ p ∈ qs, NoF p) : ∀ p ∈ ps ++ qs, NoF p := fun p h => (List.mem_append.1 h).elim (hp p) (hq p)
theorem zmm {p : PV} (h : NoF p) : ∀ c ∈ p.cells, NoF c := fun c hc => h.cell hc
theorem zdr (l : List Int) : NoF (slI l) := .sl _ _ fun c hc => by obtain ⟨z, _, rfl⟩ := List.mem_map.1 hc; exact .u _
theorem zoo (l : List Bool) : NoF (slB l) := .sl _ _ fun c hc => by obtain ⟨z, _, rfl⟩ := List.mem_map.1 hc; exact .u _
theorem zna (l : List (List Int)) : NoF (qk l) := .sl _ _ fun c hc => by obtain ⟨z, _, rfl⟩ := List.mem_map.1 hc; exact zdr _
theorem zlr {α : Type} {n : Nat} {rep : α → PV} (a : Arr n α) (h : ∀ x, NoF (rep x)) : NoF (arV rep a) := .agg _ fun c hc => by obtain ⟨z, _, rfl⟩ := List.mem_map.1 hc; exact h z
theorem PL.callG {α : Type} {rep : α → PV} {enc : α → Value} {f : FuncId} {args : Array Operand} {ts : Array TypeId} {e d : Nat} {qs : List PV} {xs : List α} (id : Nat) (hg : o.guard = none) (ho : o.op = .call ⟨.value (.func f), args, ts⟩) (hd : o.dst = some d) (hdn : d < n) (hf : Vj P f = true) (ha : args.toList.map (evP F) = qs) (hn : ∀ p ∈ qs, NoF p)
    (hc : PCall P f qs (· = .fr e 1 (xs.map rep))) (hrep : ∀ x, rep x = .u (enc x))
    (h : ∀ q' H', ownL e 1 rep H' id q' xs → (∀ j, j ≠ id → H' j = H j) → PL P W n ops l (F.put (some d) q') H' K) : PL P W n ops (o :: l) F H K := by
  have h1 : ∀ x, (rep x).cells = [rep x] := fun x => by rw [hrep]; rfl
  refine PL.pe hg (PE.callF (id := id) hd hdn ho (by rw [J2, ha]) hf hn hc (fun p hp => ?_) ?_)
  · rw [Vh h1] at hp
    obtain ⟨z, _, rfl⟩ := List.mem_map.1 hp
    rw [hrep]; exact .u _
  · rw [hd]
    refine h _ _ ?_ fun j hj => by simp [PHeap.set, hj]
    have hb : (H.set id ⟨(H id).ver + 1, some (.row e 1 (xs.map rep).length ((xs.map rep).flatMap PV.cells))⟩) id = ⟨(H id).ver + 1, some (.row e 1 (xs.map rep).length ((xs.map rep).flatMap PV.cells))⟩ := by simp [PHeap.set]
    rw [List.length_map] at hb
    unfold ownL
    rw [List.length_map]
    exact OwnS.row (k := 1) hb (by rw [Vh h1]; simp)
theorem View.rowF {α : Type} {e id : Nat} {rep : α → PV} {enc : α → Value} {q : PV} {xs : List α} (ho : ownL e 1 rep H id q xs) (hrep : ∀ x, rep x = .u (enc x)) : View H q (.fr e 1 (xs.map rep)) := by
  have h1 : ∀ x, (rep x).cells = [rep x] := fun x => by rw [hrep]; rfl
  rcases ho.2 with ⟨rfl, h0⟩ | ⟨ver, rfl, hH⟩
  · have : xs = [] := List.eq_nil_of_length_eq_zero h0
    subst this
    exact View.nilFr
  · intro P W V w hr v hv
    cases hv with
    | ps _ _ _ hvv hh =>
      have e := hh (by rw [hH]; rfl) (by rw [hH])
      subst e
      obtain ⟨vals, hown, hR, hone⟩ := hr.row id _ _ _ _ (by rw [hH])
      refine .fr e 1 _ (V id) vals (fun y hy => by obtain ⟨z, _, rfl⟩ := List.mem_map.1 hy; rw [h1]; rfl) ?_ (fun b hb hz => hr.nz id b (by rw [hH]; rfl) hb (Qj.1 hz)) hone fun i p u h3 h4 => ?_
      · rw [List.length_map]
        exact zaw hown W.hm fun b _ _ => rfl
      · have h5 := hR.2 i p u h3 h4
        rw [Vh h1] at h3
        obtain ⟨z, _, rfl⟩ := List.mem_map.1 (List.mem_of_getElem? h3)
        rw [hrep] at h5 ⊢
        cases h5
        exact .u _
theorem za {α : Type} {fn : Func} {ex : Exit} {e id : Nat} {rep : α → PV} {enc : α → Value} {q : PV} {xs : List α} (he : ex = .normal ∨ ex = .ret) (h : zco P fn F H = some q) (ho : ownL e 1 rep H id q xs) (hrep : ∀ x, rep x = .u (enc x)) : (ex = .normal ∨ ex = .ret) ∧ ∃ q p, zco P fn F H = some q ∧ View H q p ∧ NoP p ∧ p = .fr e 1 (xs.map rep) :=
  ⟨he, q, _, h, View.rowF ho hrep, .fr _ _ _ fun c hc => by obtain ⟨z, _, rfl⟩ := List.mem_map.1 hc; rw [hrep]; exact .u _, rfl⟩
end
end Go.Proofs.Ytpohfkgjghiofaa

namespace Go.Proofs.Ytpohfkgjghiofaa.L
open Go Go.RowKit
set_option linter.unusedVariables false
set_option linter.unusedSimpArgs false
section
variable {P : Program} {W : Env} {n : Nat} {H : PHeap} {F : PFrame}
def PHeap.only (H : PHeap) (D : Nat → Bool) : PHeap := fun i => if D i then H i else ⟨(H i).ver, none⟩
def PHeap.less (H : PHeap) (D : Nat → Bool) : PHeap := fun i => if D i then ⟨(H i).ver + 1, none⟩ else H i
def Env.kept (W : Env) (H : PHeap) (V : Nat → Value) (D : Nat → Bool) : Env := { W with Z := ⟨fun b => W.Z b ∨ ∃ id, D id = false ∧ (H id).body.isSome = true ∧ qx (V id) = some b, W.Z.m⟩ }
theorem zcn {D : Nat → Bool} {i : Nat} {bd : PBody} (h : ((H.only D) i).body = some bd) : D i = true ∧ (H i).body = some bd := by
  unfold PHeap.only at h
  cases hD : D i
  · simp [hD] at h
  · simp only [hD, if_true] at h; exact ⟨rfl, h⟩
theorem Vm {D : Nat → Bool} {i : Nat} (h : ((H.only D) i).body.isSome = true) : D i = true ∧ (H i).body.isSome = true := by
  cases hb : ((H.only D) i).body with
  | none => rw [hb] at h; cases h
  | some bd => obtain ⟨h1, h2⟩ := zcn hb; exact ⟨h1, by rw [h2]; rfl⟩
theorem zcm {D : Nat → Bool} {i : Nat} {bd : PBody} (h : ((H.less D) i).body = some bd) : D i = false ∧ (H i).body = some bd := by
  unfold PHeap.less at h
  cases hD : D i
  · simp only [hD] at h; exact ⟨rfl, by simpa using h⟩
  · simp [hD] at h
theorem Vq {D : Nat → Bool} {i : Nat} (h : ((H.less D) i).body.isSome = true) : D i = false ∧ (H i).body.isSome = true := by
  cases hb : ((H.less D) i).body with
  | none => rw [hb] at h; cases h
  | some bd => obtain ⟨h1, h2⟩ := zcm hb; exact ⟨h1, by rw [h2]; rfl⟩
theorem Rp.only {D : Nat → Bool} {V : Nat → Value} {w : World} {p : PV} {v : Value} (h : Rp W.Z H V w p v) : Rp (W.kept H V D).Z (H.only D) V w p v :=
  h.mono (fun b hz hlt => ⟨fun hz' => by
    rcases hz' with (hz' | ⟨id, _, h2, h3⟩) | ⟨id, h2, h3⟩
    · exact hz (.inl hz')
    · exact hz (.inr ⟨id, h2, h3⟩)
    · exact hz (.inr ⟨id, (Vm h2).2, h3⟩), hlt, rfl⟩) (Nat.le_refl _) (fun id => by unfold PHeap.only; split <;> exact Nat.le_refl _) (fun id ver hv h1 h2 => by
    obtain ⟨h3, h4⟩ := Vm h1
    refine ⟨h4, ?_, rfl⟩
    unfold PHeap.only at h2
    rw [h3] at h2
    simpa using h2)
theorem Rp.less {D : Nat → Bool} {V : Nat → Value} {w : World} {p : PV} {v : Value} (h : Rp W.Z H V w p v) : Rp W.Z (H.less D) V w p v :=
  h.mono (fun b hz hlt => ⟨fun hz' => by
    rcases hz' with hz' | ⟨id, h2, h3⟩
    · exact hz (.inl hz')
    · exact hz (.inr ⟨id, (Vq h2).2, h3⟩), hlt, rfl⟩) (Nat.le_refl _) (fun id => by
    unfold PHeap.less
    split
    · exact Nat.le_succ _
    · exact Nat.le_refl _) (fun id ver hv h1 h2 => by
    obtain ⟨h3, h4⟩ := Vq h1
    refine ⟨h4, ?_, rfl⟩
    unfold PHeap.less at h2
    rw [h3] at h2
    simpa using h2)
theorem HRel.only {D : Nat → Bool} {V : Nat → Value} {w : World} (hr : HRel P W H V w) : HRel P (W.kept H V D) (H.only D) V w := by
  refine ⟨hr.below, fun i t k m cs h => ?_, fun i t cs h => ?_, fun i es h => hr.map i es (zcn h).2, fun i => (hr.ghost i).only, fun i j g h1 h2 => hr.apart i j g (Vm h1).2 (Vm h2).2, fun b hz => ?_, fun i b h1 h2 hz => ?_⟩
  · obtain ⟨vals, ho, hR, h1⟩ := hr.row i t k m cs (zcn h).2
    exact ⟨vals, ho, hR.mono fun p u hp => hp.only, h1⟩
  · obtain ⟨g, arr, e, hg, hh, hR, h1⟩ := hr.box i t cs (zcn h).2
    exact ⟨g, arr, e, hg, hh, hR.mono fun p u hp => hp.only, h1⟩
  · rcases hz with hz | ⟨id, _, h2, h3⟩
    · exact hr.zlt b hz
    · exact (hr.own_lt h2 h3).2
  · rcases hz with hz | ⟨id, h3, h4, h5⟩
    · exact hr.nz i b (Vm h1).2 h2 hz
    · have := hr.apart i id b (Vm h1).2 h4 h2 h5
      subst this
      rw [(Vm h1).1] at h3; cases h3
theorem HRel.less {D : Nat → Bool} {V : Nat → Value} {w : World} (hr : HRel P W H V w) : HRel P W (H.less D) V w := by
  refine ⟨hr.below, fun i t k m cs h => ?_, fun i t cs h => ?_, fun i es h => hr.map i es (zcm h).2, fun i => (hr.ghost i).less, fun i j g h1 h2 => hr.apart i j g (Vq h1).2 (Vq h2).2, hr.zlt, fun i b h1 h2 => hr.nz i b (Vq h1).2 h2⟩
  · obtain ⟨vals, ho, hR, h1⟩ := hr.row i t k m cs (zcm h).2
    exact ⟨vals, ho, hR.mono fun p u hp => hp.less, h1⟩
  · obtain ⟨g, arr, e, hg, hh, hR, h1⟩ := hr.box i t cs (zcm h).2
    exact ⟨g, arr, e, hg, hh, hR.mono fun p u hp => hp.less, h1⟩
theorem PC.freezeD {c : Code} {Q : Exit → PFrame → PHeap → Prop} {p q : PV} (D : Nat → Bool) (s : Nat) (hs : F s = p) (hv : View (H.only D) p q) (hq : NoP q) (h : ∀ H', (∀ j, D j = false → H' j = H j) → PC P W n c (F.put (some s) q) H' Q) : PC P W n c F H Q := fun V a w Q' hr hQ => by
  refine h (H.less D) (fun j hj => by simp [PHeap.less, hj]) V a w Q' ⟨hr.heap.less, hr.size, hr.defers, fun i => ?_⟩ hQ
  by_cases e : s = i
  · subst e
    have h1 := hr.slot s
    rw [hs] at h1
    have h2 := hv P (W.kept H V D) V w hr.heap.only _ h1.only
    simp only [PFrame.put, if_true]
    refine h2.noP hq (fun b _ hz hz' => hz (Qj.2 ?_)) (Nat.le_refl _)
    rcases hz' with hz' | ⟨id, h3, h4⟩
    · exact .inl hz'
    · exact .inr ⟨id, (Vq h3).1, (Vq h3).2, h4⟩
  · have e2 : ¬ (some s = some i) := by simpa using e
    simp only [PFrame.put, if_neg e2]
    exact (hr.slot i).less
end
end Go.Proofs.Ytpohfkgjghiofaa.L
namespace Go.Proofs.Ytpohfkgjghiofaa
open Go Go.RowKit L
set_option linter.unusedVariables false
set_option linter.unusedSimpArgs false
section
variable {P : Program} {W : Env} {n : Nat} {H : PHeap} {F : PFrame} {ops : Array Oper} {o o2 : Oper} {l : List Oper} {K : PFrame → PHeap → Prop}
variable {α : Type} {rep : α → PV} {et e base id : Nat} {q : PV} {ll : List (List α)} {x y px : Operand} {t : Nat}
def innerL (e base : Nat) (rep : α → PV) (H : PHeap) (cs : List PV) (ll : List (List α)) : Prop := cs.length = ll.length ∧ ∀ (j : Nat) (c : PV) (l : List α), cs[j]? = some c → ll[j]? = some l → ownL e 1 rep H (base + j) c l
def ownLL (et e base : Nat) (rep : α → PV) (H : PHeap) (id : Nat) (q : PV) (ll : List (List α)) : Prop := ∃ cs ver, innerL e base rep H cs ll ∧ q = .ps id ver ∧ H id = ⟨ver, some (.row et 1 ll.length cs)⟩
def ownLLc (et e base : Nat) (rep : α → PV) (H : PHeap) (id : Nat) (q : PV) (ll : List (List α)) (z : Nat) (p : PV) : Prop := ∃ cs ver, innerL e base rep H cs ll ∧ q = .ps id ver ∧ H id = ⟨ver, some (.row et 1 ll.length cs)⟩ ∧ cs[z]? = some p
theorem innerL.mono {H' : PHeap} {cs : List PV} (h : innerL e base rep H cs ll) (he : ∀ j, base ≤ j → H' j = H j) : innerL e base rep H' cs ll := ⟨h.1, fun j c l h1 h2 => (h.2 j c l h1 h2).mono (he _ (Nat.le_add_right _ _))⟩
theorem ownLL.mono {H' : PHeap} (h : ownLL et e base rep H id q ll) (h1 : H' id = H id) (h2 : ∀ j, base ≤ j → H' j = H j) : ownLL et e base rep H' id q ll := by
  obtain ⟨cs, ver, h3, h4, h5⟩ := h
  exact ⟨cs, ver, h3.mono h2, h4, h1.trans h5⟩
theorem PL.mkLL {b d : Nat} {xs : List (List α)} {k : IntKind} {m : Int} (id base : Nat) (hb : id < base) (hg : o.guard = none) (ho : o.op = .makeSlice t x x) (hd : o.dst = some d) (hdn : d < n) (ht : zh P t = some (et, 1, b, .slice none 0 0)) (hx : evP F x = .u (.int k m)) (hz : Go.Proofs.Ytpohfkgjghiofaa.mkS b ([] : List α) m = some xs)
    (h : ∀ q' H', ownLL et e base rep H' id q' xs → (∀ j, j ≠ id → H' j = H j) → PL P W n ops l (F.put (some d) q') H' K) : PL P W n ops (o :: l) F H K := by
  unfold Proofs.Ytpohfkgjghiofaa.mkS at hz
  split at hz
  · rename_i hc
    cases hz
    have hm : m = ((m.toNat : Nat) : Int) := by omega
    rw [hm] at hx
    refine PL.makeSliceA id hg ho hd hdn ht rfl hx hx hc.2.2 hc.2.1 fun ver H' b1 o1 => h _ H' ⟨List.replicate m.toNat (.u (.slice none 0 0)), ver, ⟨by simp, fun j c l h1 h2 => ?_⟩, rfl, by rw [List.length_replicate]; exact b1⟩ o1
    have hlt := (List.getElem?_eq_some_iff.1 h1).1
    rw [List.length_replicate] at hlt
    rw [List.getElem?_replicate, if_pos hlt] at h1 h2
    cases h1; cases h2
    exact ownL.nil _ _
  · cases hz
theorem ownLL.at {z : Int} {v : List α} (h : ownLL et e base rep H id q ll) (hv : idx ll z = some v) : ∃ ver, q = .ps id ver ∧ yh q = ver ∧ 0 ≤ z ∧ z.toNat < ll.length ∧ ∃ cs, innerL e base rep H cs ll ∧ H id = ⟨ver, some (.row et 1 ll.length cs)⟩ := by
  obtain ⟨cs, ver, h1, rfl, h2⟩ := h
  obtain ⟨h0, hz⟩ := y6 hv
  exact ⟨ver, rfl, rfl, h0, (List.getElem?_eq_some_iff.1 hz).1, cs, h1, h2⟩
variable {d ty : Nat} {pos : String} {af : Array Edge} {g : Option (Nat × Bool)}
theorem ownLL.view (h : ownLL et e base rep H id q ll) (hk : ∀ x, (rep x).cells = [rep x]) (hn : ∀ x, NoP (rep x)) : View H q (.sl 1 (ll.map fun l => .sl 1 (l.map rep))) := by
  obtain ⟨cs, ver, hi, rfl, hH⟩ := h
  have hfl : (ll.map fun l => PV.sl 1 (l.map rep)).flatMap PV.cells = ll.map fun l => PV.sl 1 (l.map rep) := Vh (fun _ => rfl) ll
  refine View.row (t := et) (n := ll.length) (cs := cs) (by rw [Yb, hH, zdm, if_pos rfl]) _ (by simp) (fun y hy => by obtain ⟨z, _, rfl⟩ := List.mem_map.1 hy; rfl) fun i p q h1 h2 => ?_
  rw [hfl, List.getElem?_map] at h2
  obtain ⟨l, h3, rfl⟩ := Option.map_eq_some_iff.1 h2
  exact (hi.2 i p l h1 h3).view2 (fun x => by rw [hk]; rfl) hn
theorem ll_ok (h : ownLL et e base rep H id q ll) : okC H q = true := by
  obtain ⟨cs, ver, hi, rfl, hH⟩ := h
  exact OwnS.leaf (OwnS.row (k := 1) hH (by rw [hi.1]; simp))
theorem zm7 (h : ownLL et e base rep H id q ll) : q.cells = [q] := by
  obtain ⟨cs, ver, hi, rfl, hH⟩ := h; rfl
theorem zlc {bid v T : Nat} {D : Nat → Bool} (hb : H bid = ⟨v, some (.box T [q])⟩) (ho : ownLL et e base rep H id q ll) (hk : ∀ x, (rep x).cells = [rep x]) (hn : ∀ x, NoP (rep x)) (h1 : D bid = true) (h2 : D id = true) (h3 : ∀ j, base ≤ j → D j = true) : View (H.only D) (.pp bid 0 v) (.rp [.sl 1 (ll.map fun l => .sl 1 (l.map rep))]) := by
  have e1 : (H.only D) bid = H bid := by simp [PHeap.only, h1]
  have ho2 : ownLL et e base rep (H.only D) id q ll := ho.mono (by simp [PHeap.only, h2]) fun j hj => by simp [PHeap.only, h3 j hj]
  have hl : qn (H.only D) bid v = some [q] := by rw [yz, e1, hb, zdo, if_pos rfl]
  refine View.pp (cs := [q]) (ds := [.sl 1 (ll.map fun l => .sl 1 (l.map rep))]) hl rfl fun i p q' h4 h5 => ?_
  match i, h4, h5 with
  | 0, h4, h5 => 
    simp at h4 h5
    subst h4; subst h5
    exact ho2.view hk hn
  | i + 1, h4, h5 => simp at h5
end
end Go.Proofs.Ytpohfkgjghiofaa

namespace Go.Proofs.Ytpohfkgjghiofaa
open Go Go.RowKit L
set_option linter.unusedVariables false
set_option linter.unusedSimpArgs false
section
variable {P : Program} {W : Env} {n : Nat} {H : PHeap} {F : PFrame} {J : PHeap → Prop} {ops : Array Oper} {o : Oper} {l : List Oper} {K : PFrame → PHeap → Prop}
theorem JF.q {Q : PFrame → Prop} {p : PV} (hg : o.guard = none) (hd : y7 n o) (hp : ∀ {H : PHeap}, J H → qu P H F o = some p) (h : zft P W n ops J Q l (F.put o.dst p)) : zft P W n ops J Q (o :: l) F :=
  ⟨hd, .inl ⟨by unfold vd; rw [hg], p, fun H hH => ju (hp hH), h⟩⟩
theorem JF.qq {Q : PFrame → Prop} {p : PV} (hg : o.guard = none) (hd : y7 n o) (hp : ∀ {H : PHeap}, J H → PQ P W o F H p) (h : zft P W n ops J Q l (F.put o.dst p)) : zft P W n ops J Q (o :: l) F :=
  ⟨hd, .inl ⟨by unfold vd; rw [hg], p, fun H hH => hp hH, h⟩⟩
theorem JF.ex {Q : PFrame → Prop} {R : PV → Prop} (hg : o.guard = none) (hd : y7 n o) (h : ∃ p, (∀ H, J H → PQ P W o F H p) ∧ R p) (k : ∀ p, R p → zft P W n ops J Q l (F.put o.dst p)) : zft P W n ops J Q (o :: l) F := by
  obtain ⟨p, h1, h2⟩ := h
  exact JF.qq hg hd (fun {H} hH => h1 H hH) (k p h2)
variable {α : Type} {rep : α → PV} {et e base id : Nat} {q : PV} {ll : List (List α)} {x y px : Operand} {t d ty : Nat} {pos : String} {af : Array Edge} {g : Option (Nat × Bool)}
theorem zlo {H' : PHeap} {kd : IntKind} {z : Int} {v : List α} (he : esz P t = some 1) (ho : ownLL et e base rep H id q ll) (hid : H' id = H id) (hx : evP F x = q) (hy : evP F y = .u (.int kd z)) (hv : idx ll z = some v) : qu P H' F ⟨some d, .indexAddr t x y, ty, pos, af, g⟩ = some (.pp id (z.toNat * 1) (yh q)) := by
  obtain ⟨ver, hq, hvq, h0, hlt, cs, _, hH⟩ := ho.at hv
  rw [zn, hx, hy, hvq, hq, zcz _ _ h0, Yb, hid, hH, zdm, if_pos rfl]
  show (if esz P t = some 1 ∧ z.toNat < ll.length then _ else none) = _
  rw [if_pos ⟨he, hlt⟩]
theorem ll_ldJ {z : Int} {v : List α} (ht : asz P t = some (false, 1)) (ho : ownLL et e base rep H id q ll) (hJ : ∀ H', J H' → H' id = H id) (hx : evP F x = .pp id (z.toNat * 1) (yh q)) (hv : idx ll z = some v) : ∃ p, (∀ H', J H' → PQ P W ⟨some d, .load t x, ty, pos, af, g⟩ F H' p) ∧ ownLLc et e base rep H id q ll z.toNat p := by
  obtain ⟨ver, hq, hvq, h0, hlt, cs, hi, hH⟩ := ho.at hv
  have hzc : z.toNat < cs.length := by rw [hi.1]; exact hlt
  refine ⟨cs[z.toNat], fun H' hH' => ju ?_, cs, ver, hi, hq, hH, List.getElem?_eq_getElem hzc⟩
  rw [J7, hx, hvq, Vk, yz, hJ H' hH', hH, zfy, if_pos rfl, ht]
  show vy false 1 (cs.drop (z.toNat * 1)) = _
  rw [Zl, Nat.mul_one]
  simp [hzc]
theorem PE.appI {b : Nat} {zv : Value} {xs ys zs : List α} (ho : o.op = .call { callee := .builtin .append, args := #[x, y], argTypes := #[t, t] }) (hd : o.dst = some d) (hdn : d < n) (ht : zh P t = some (e, 1, b, zv))
    (hs : evP F x = q) (hr : ownL e 1 rep H id q xs) (hp : evP F y = .sl 1 (ys.map rep)) (hk : ∀ x, (rep x).cells = [rep x]) (hleaf : ∀ x, ya H (rep x) = true) (hz : app b xs ys = some zs) :
    PE P W n o F H fun pq H' => ownL e 1 rep H' id pq zs ∧ ∀ j, j ≠ id → H' j = H j := by
  obtain ⟨h1, h2, rfl⟩ := zg5 hz
  have hf : ∀ l : List α, (l.map rep).flatMap PV.cells = l.map rep := Vh hk
  have hsrc : zdp H 1 (evP F y) = some (ys.length, ys.map rep) := by rw [hp]; simp [zdp, hf]
  have hlf : ∀ p ∈ ys.map rep, ya H p = true := fun p hp => by obtain ⟨z, _, rfl⟩ := List.mem_map.1 hp; exact hleaf z
  rcases hr.2 with ⟨rfl, h0⟩ | ⟨ver, rfl, hH⟩
  · have : xs = [] := List.eq_nil_of_length_eq_zero h0
    subst this
    refine PE.appendNil (id := id) (k := 1) ho hd hdn ht hs hsrc hlf (by simpa using h1) (by simpa using h2) ⟨?_, fun j hj => by simp [PHeap.set, hj]⟩
    unfold ownL
    rw [hf]
    exact OwnS.row (k := 1) (by simp [PHeap.set]) (by simp)
  · refine PE.append (id := id) (ver := ver) (k := 1) (m := xs.length) (cs := (xs.map rep).flatMap PV.cells) ho hd hdn ht hs (by rw [Yb, hH, zdm, if_pos rfl]) hsrc hlf h1 h2 ⟨?_, fun j hj => by simp [PHeap.set, hj]⟩
    have hfx := hf xs
    have hfa := hf (xs ++ ys)
    unfold ownL
    rw [hfa]
    refine OwnS.row (ver := ver + 1) (k := 1) (m := (xs ++ ys).length) (cs := (xs ++ ys).map rep) ?_ (by simp)
    simp only [PHeap.set, if_true]
    rw [hfx, List.length_append, List.map_append]
theorem PL.stLL {H0 : PHeap} {z : Int} {v zs : List α} {p pq : PV} (hlt : id < base) (hg : o.guard = none) (ho : o.op = .store et px y) (hd2 : o.dst = none) (hte : asz P et = some (false, 1))
    (hc : ownLLc et e base rep H0 id q ll z.toNat p) (hm : ∀ j, j ≠ base + z.toNat → H j = H0 j) (hr1 : ownL e 1 rep H (base + z.toNat) pq zs) (hv : idx ll z = some v) (hy : evP F y = pq) (hp : evP F px = .pp id (z.toNat * 1) (yh q))
    (h : ∀ H', ownLL et e base rep H' id q (ll.set z.toNat zs) → (∀ j, j ≠ id → j < base → H' j = H0 j) → PL P W n ops l (F.put none (.u undef)) H' K) : PL P W n ops (o :: l) F H K := by
  obtain ⟨cs, ver, hi, hq, hH, hcz⟩ := hc
  obtain ⟨h0, hz1⟩ := y6 hv
  obtain ⟨hzl, _⟩ := List.getElem?_eq_some_iff.1 hz1
  have hH' : H id = ⟨ver, some (.row et 1 ll.length cs)⟩ := by rw [hm id (by omega)]; exact hH
  have hcl : cs.length = ll.length := hi.1
  rw [hq] at hp
  refine PL.storeR (cs' := cs.set z.toNat pq) hg ho (fun t ht => by rw [hd2] at ht; cases ht) hp hH' hte hy (Zw hr1) (Jt hr1) rfl (by omega) ?_ fun H'' b1 o1 => ?_
  · rw [Nat.mul_one]
    unfold setMany
    apply List.ext_getElem?
    intro i
    have := zx cs [pq] z.toNat (by simp; omega) i
    unfold setMany at this
    simp only [List.length_singleton] at this ⊢
    rw [this, List.getElem?_set]
    by_cases e : z.toNat = i
    · subst e
      have : z.toNat < cs.length := by omega
      simp [this]
    · have h3 : ¬ (z.toNat ≤ i ∧ i < z.toNat + 1) := by omega
      rw [if_neg h3, if_neg e]
  · rw [hd2]
    refine h H'' ⟨cs.set z.toNat pq, ver, ⟨by simp [hcl], fun j c l h1 h2 => ?_⟩, hq, by rw [List.length_set]; exact b1⟩ fun j h1 h2 => ?_
    · rw [List.getElem?_set] at h1 h2
      by_cases e : z.toNat = j
      · subst e
        have hlt2 : z.toNat < cs.length := by omega
        simp only [if_true, hlt2, hzl] at h1 h2
        cases h1; cases h2
        exact hr1.mono (o1 _ (by omega))
      · rw [if_neg e] at h1 h2
        exact (hi.2 j c l h1 h2).mono (by rw [o1 _ (by omega), hm _ (by omega)])
    · rw [o1 j h1, hm j (by omega)]
theorem ownLLc.inner {z : Int} {v : List α} {p : PV} (hc : ownLLc et e base rep H id q ll z.toNat p) (hv : idx ll z = some v) : ownL e 1 rep H (base + z.toNat) p v := by
  obtain ⟨cs, ver, hi, hq, hH, hcz⟩ := hc
  exact hi.2 _ _ _ hcz (y6 hv).2
end
end Go.Proofs.Ytpohfkgjghiofaa

namespace Go.Proofs.Ytpohfkgjghiofaa
open Go Go.RowKit L
theorem Tot.for {σ α : Type} {body : Int × σ → G ((Int × σ) ⊕ α)} {Q : α → Prop} (N : Nat) (I : Nat → σ → Prop)
    (h : ∀ (k : Nat) s, k < N → I k s → Tot (body ((k : Int), s)) fun r => match r with | .inl s' => s'.1 = ((k + 1 : Nat) : Int) ∧ I (k + 1) s'.2 | .inr a => Q a)
    (hN : ∀ s, I N s → Tot (body ((N : Int), s)) fun r => match r with | .inl _ => False | .inr a => Q a) {s : σ} (h0 : I 0 s) : Tot (G.loop body (0, s)) Q := by
  refine Tot.loop (fun s => ∃ k : Nat, s.1 = (k : Int) ∧ k ≤ N ∧ I k s.2) (fun s => N + 1 - s.1.toNat) ?_ ⟨0, rfl, Nat.zero_le _, h0⟩
  rintro ⟨i, s⟩ ⟨k, hi, hk, hI⟩
  simp only at hi hI
  subst hi
  rcases Nat.lt_or_ge k N with hlt | hge
  · refine (h k s hlt hI).mono fun r hr => ?_
    cases r with
    | inl s' =>
      obtain ⟨h1, h2⟩ := hr
      refine ⟨⟨k + 1, h1, hlt, h2⟩, ?_⟩
      show N + 1 - s'.1.toNat < N + 1 - ((k : Nat) : Int).toNat
      rw [h1]
      simp only [Int.toNat_natCast]
      omega
    | inr a => exact hr
  · have : k = N := by omega
    subst this
    refine (hN s hI).mono fun r hr => ?_
    cases r with
    | inl s' => exact hr.elim
    | inr a => exact hr
theorem Jl {k : Nat} (h : k < 9223372036854775807) : w64 ((k : Int) + 1) = ((k + 1 : Nat) : Int) := by
  unfold w64
  rw [zg6 (by omega) (by omega)]; rfl
theorem Tot.forC {σ α : Type} {body : σ → G (σ ⊕ α)} {Q : α → Prop} (c : σ → Int) (N : Nat) (I : Nat → σ → Prop) (hc : ∀ k s, I k s → c s = (k : Int))
    (h : ∀ (k : Nat) s, k < N → I k s → Tot (body s) fun r => match r with | .inl s' => I (k + 1) s' | .inr a => Q a)
    (hN : ∀ s, I N s → Tot (body s) fun r => match r with | .inl _ => False | .inr a => Q a) {s : σ} (h0 : I 0 s) : Tot (G.loop body s) Q := by
  refine Tot.loop (fun s => ∃ k : Nat, k ≤ N ∧ I k s) (fun s => N + 1 - (c s).toNat) ?_ ⟨0, Nat.zero_le _, h0⟩
  rintro s ⟨k, hk, hI⟩
  rcases Nat.lt_or_ge k N with hlt | hge
  · refine (h k s hlt hI).mono fun r hr => ?_
    cases r with
    | inl s' =>
      refine ⟨⟨k + 1, hlt, hr⟩, ?_⟩
      show N + 1 - (c s').toNat < N + 1 - (c s).toNat
      rw [hc _ _ hr, hc _ _ hI]
      simp only [Int.toNat_natCast]
      omega
    | inr a => exact hr
  · have : k = N := by omega
    subst this
    refine (hN s hI).mono fun r hr => ?_
    cases r with
    | inl s' => exact hr.elim
    | inr a => exact hr
def Jw : Int → List Int → Bool
  | _, [] => true
  | n, x :: xs => if n < x then false else Jw (if x = n then n + 1 else n) xs
end Go.Proofs.Ytpohfkgjghiofaa

namespace Go.Proofs.Ytpohfkgjghiofaa.L
open Go Go.RowKit
set_option linter.unusedVariables false
theorem e_ {α : Sort _} (a : α) : a = a := rfl
theorem bs {α β : Type} {m : G α} {f : α → G β} {n : Nat} {r : β} (h : G.bind m f n = some r) : ∃ a, m n = some a ∧ f a n = some r := G.bind_some h
theorem cz {α : Type} {b : Bool} {x y : G α} {n : Nat} {r : α} (h : G.cond b x y n = some r) : (b = true ∧ x n = some r) ∨ (b = false ∧ y n = some r) := G.cond_some h
theorem pz {α : Type} {a r : α} {n : Nat} (h : G.pure a n = some r) : a = r := G.pure_some h
section
variable {P : Program} {W : Env} {n : Nat} {F : PFrame} {H : PHeap} {o : Oper} {l : List Oper} {ops : Array Oper}
theorem Q1 {K : PFrame → PHeap → Prop} {d : Nat} {op : Op} {ty : Nat} {pos : String} {af : Array Edge} (p : PV) (hp : qu P H F ⟨some d, op, ty, pos, af, none⟩ = some p) (h : PL P W n ops l (F.put (some d) p) H K) (hd : d < n := by decide) : PL P W n ops (⟨some d, op, ty, pos, af, none⟩ :: l) F H K := PL.q rfl (j4 hd) hp h
theorem Q2 {Q : PFrame → Prop} {d : Nat} {op : Op} {ty : Nat} {pos : String} {af : Array Edge} (p : PV) (hp : qu P H F ⟨some d, op, ty, pos, af, none⟩ = some p) (h : Qg P W n ops H Q l (F.put (some d) p)) (hd : d < n := by decide) : Qg P W n ops H Q (⟨some d, op, ty, pos, af, none⟩ :: l) F := QF.q rfl (j4 hd) hp h
theorem Q3 {K : PFrame → PHeap → Prop} {d : Nat} {op : Op} {ty : Nat} {pos : String} {af : Array Edge} (p : PV) (hp : PQ P W ⟨some d, op, ty, pos, af, none⟩ F H p) (h : PL P W n ops l (F.put (some d) p) H K) (hd : d < n := by decide) : PL P W n ops (⟨some d, op, ty, pos, af, none⟩ :: l) F H K := PL.qq rfl (j4 hd) hp h
theorem Q4 {Q : PFrame → Prop} {d : Nat} {op : Op} {ty : Nat} {pos : String} {af : Array Edge} (p : PV) (hp : PQ P W ⟨some d, op, ty, pos, af, none⟩ F H p) (h : Qg P W n ops H Q l (F.put (some d) p)) (hd : d < n := by decide) : Qg P W n ops H Q (⟨some d, op, ty, pos, af, none⟩ :: l) F := QF.qq rfl (j4 hd) hp h
section
variable {j g d : Nat} {op : Op} {ty : Nat} {pos : String} {af : Array Edge} {b c c' : Bool} {want : Bool}
theorem GT {K : PFrame → PHeap → Prop} (p : PV) (hj : (ops[j]?).bind (·.dst) = some g) (hF : F g = .u (.bool b)) (hp : b = true → qu P H F ⟨some d, op, ty, pos, af, some (j, true)⟩ = some p) (h : PL P W n ops l (F.put (some d) (gv b p)) H K) (hd : d < n := by decide) : PL P W n ops (⟨some d, op, ty, pos, af, some (j, true)⟩ :: l) F H K := PL.gq (c := true) rfl hj hF (zor _) (j4 hd) (fun hb => ju (hp hb)) h
theorem GF {K : PFrame → PHeap → Prop} (p : PV) (hj : (ops[j]?).bind (·.dst) = some g) (hF : F g = .u (.bool b)) (hp : (!b) = true → qu P H F ⟨some d, op, ty, pos, af, some (j, false)⟩ = some p) (h : PL P W n ops l (F.put (some d) (gv (!b) p)) H K) (hd : d < n := by decide) : PL P W n ops (⟨some d, op, ty, pos, af, some (j, false)⟩ :: l) F H K := PL.gq (c := true) rfl hj hF (zoh _) (j4 hd) (fun hb => ju (hp hb)) h
theorem GTq {K : PFrame → PHeap → Prop} (p : PV) (hj : (ops[j]?).bind (·.dst) = some g) (hF : F g = .u (.bool b)) (hp : b = true → PQ P W ⟨some d, op, ty, pos, af, some (j, true)⟩ F H p) (h : PL P W n ops l (F.put (some d) (gv b p)) H K) (hd : d < n := by decide) : PL P W n ops (⟨some d, op, ty, pos, af, some (j, true)⟩ :: l) F H K := PL.gq (c := true) rfl hj hF (zor _) (j4 hd) hp h
theorem GFq {K : PFrame → PHeap → Prop} (p : PV) (hj : (ops[j]?).bind (·.dst) = some g) (hF : F g = .u (.bool b)) (hp : (!b) = true → PQ P W ⟨some d, op, ty, pos, af, some (j, false)⟩ F H p) (h : PL P W n ops l (F.put (some d) (gv (!b) p)) H K) (hd : d < n := by decide) : PL P W n ops (⟨some d, op, ty, pos, af, some (j, false)⟩ :: l) F H K := PL.gq (c := true) rfl hj hF (zoh _) (j4 hd) hp h
theorem HT {Q : PFrame → Prop} (p : PV) (hj : (ops[j]?).bind (·.dst) = some g) (hF : F g = .u (.bool b)) (hp : b = true → qu P H F ⟨some d, op, ty, pos, af, some (j, true)⟩ = some p) (h : Qg P W n ops H Q l (F.put (some d) (gv b p))) (hd : d < n := by decide) : Qg P W n ops H Q (⟨some d, op, ty, pos, af, some (j, true)⟩ :: l) F := QF.gq (c := true) rfl hj hF (zor _) (j4 hd) (fun hb => ju (hp hb)) h
theorem HF_ {Q : PFrame → Prop} (p : PV) (hj : (ops[j]?).bind (·.dst) = some g) (hF : F g = .u (.bool b)) (hp : (!b) = true → qu P H F ⟨some d, op, ty, pos, af, some (j, false)⟩ = some p) (h : Qg P W n ops H Q l (F.put (some d) (gv (!b) p))) (hd : d < n := by decide) : Qg P W n ops H Q (⟨some d, op, ty, pos, af, some (j, false)⟩ :: l) F := QF.gq (c := true) rfl hj hF (zoh _) (j4 hd) (fun hb => ju (hp hb)) h
theorem HTq {Q : PFrame → Prop} (p : PV) (hj : (ops[j]?).bind (·.dst) = some g) (hF : F g = .u (.bool b)) (hp : b = true → PQ P W ⟨some d, op, ty, pos, af, some (j, true)⟩ F H p) (h : Qg P W n ops H Q l (F.put (some d) (gv b p))) (hd : d < n := by decide) : Qg P W n ops H Q (⟨some d, op, ty, pos, af, some (j, true)⟩ :: l) F := QF.gq (c := true) rfl hj hF (zor _) (j4 hd) hp h
theorem HFq {Q : PFrame → Prop} (p : PV) (hj : (ops[j]?).bind (·.dst) = some g) (hF : F g = .u (.bool b)) (hp : (!b) = true → PQ P W ⟨some d, op, ty, pos, af, some (j, false)⟩ F H p) (h : Qg P W n ops H Q l (F.put (some d) (gv (!b) p))) (hd : d < n := by decide) : Qg P W n ops H Q (⟨some d, op, ty, pos, af, some (j, false)⟩ :: l) F := QF.gq (c := true) rfl hj hF (zoh _) (j4 hd) hp h
end
theorem SR {Q : Exit → PFrame → PHeap → Prop} {id : Nat} {l : List Oper} {y : Code} (h : ∀ K : PFrame → PHeap → Prop, (∀ F H, PC P W n y F H Q → K F H) → PL P W n l.toArray l F H K) : PC P W n (.seq (.region id l.toArray false) y) F H Q := PC.seq fun K hK => PC.region (h K hK)
theorem A1 {c : Code} {Q : Exit → PFrame → PHeap → Prop} {p0 : PV} (i0 : Nat) (h0 : F i0 = p0) (h : ∀ F : PFrame, F i0 = p0 → PC P W n c F H Q) : PC P W n c F H Q := h F h0
theorem A2 {c : Code} {Q : Exit → PFrame → PHeap → Prop} {p0 p1 : PV} (i0 : Nat) (h0 : F i0 = p0) (i1 : Nat) (h1 : F i1 = p1) (h : ∀ F : PFrame, F i0 = p0 → F i1 = p1 → PC P W n c F H Q) : PC P W n c F H Q := h F h0 h1
theorem A3 {c : Code} {Q : Exit → PFrame → PHeap → Prop} {p0 p1 p2 : PV} (i0 : Nat) (h0 : F i0 = p0) (i1 : Nat) (h1 : F i1 = p1) (i2 : Nat) (h2 : F i2 = p2) (h : ∀ F : PFrame, F i0 = p0 → F i1 = p1 → F i2 = p2 → PC P W n c F H Q) : PC P W n c F H Q := h F h0 h1 h2
theorem A4 {c : Code} {Q : Exit → PFrame → PHeap → Prop} {p0 p1 p2 p3 : PV} (i0 : Nat) (h0 : F i0 = p0) (i1 : Nat) (h1 : F i1 = p1) (i2 : Nat) (h2 : F i2 = p2) (i3 : Nat) (h3 : F i3 = p3) (h : ∀ F : PFrame, F i0 = p0 → F i1 = p1 → F i2 = p2 → F i3 = p3 → PC P W n c F H Q) : PC P W n c F H Q := h F h0 h1 h2 h3
theorem A5 {c : Code} {Q : Exit → PFrame → PHeap → Prop} {p0 p1 p2 p3 p4 : PV} (i0 : Nat) (h0 : F i0 = p0) (i1 : Nat) (h1 : F i1 = p1) (i2 : Nat) (h2 : F i2 = p2) (i3 : Nat) (h3 : F i3 = p3) (i4 : Nat) (h4 : F i4 = p4) (h : ∀ F : PFrame, F i0 = p0 → F i1 = p1 → F i2 = p2 → F i3 = p3 → F i4 = p4 → PC P W n c F H Q) : PC P W n c F H Q := h F h0 h1 h2 h3 h4
theorem A6 {c : Code} {Q : Exit → PFrame → PHeap → Prop} {p0 p1 p2 p3 p4 p5 : PV} (i0 : Nat) (h0 : F i0 = p0) (i1 : Nat) (h1 : F i1 = p1) (i2 : Nat) (h2 : F i2 = p2) (i3 : Nat) (h3 : F i3 = p3) (i4 : Nat) (h4 : F i4 = p4) (i5 : Nat) (h5 : F i5 = p5) (h : ∀ F : PFrame, F i0 = p0 → F i1 = p1 → F i2 = p2 → F i3 = p3 → F i4 = p4 → F i5 = p5 → PC P W n c F H Q) : PC P W n c F H Q := h F h0 h1 h2 h3 h4 h5
theorem A7 {c : Code} {Q : Exit → PFrame → PHeap → Prop} {p0 p1 p2 p3 p4 p5 p6 : PV} (i0 : Nat) (h0 : F i0 = p0) (i1 : Nat) (h1 : F i1 = p1) (i2 : Nat) (h2 : F i2 = p2) (i3 : Nat) (h3 : F i3 = p3) (i4 : Nat) (h4 : F i4 = p4) (i5 : Nat) (h5 : F i5 = p5) (i6 : Nat) (h6 : F i6 = p6) (h : ∀ F : PFrame, F i0 = p0 → F i1 = p1 → F i2 = p2 → F i3 = p3 → F i4 = p4 → F i5 = p5 → F i6 = p6 → PC P W n c F H Q) : PC P W n c F H Q := h F h0 h1 h2 h3 h4 h5 h6
theorem A8 {c : Code} {Q : Exit → PFrame → PHeap → Prop} {p0 p1 p2 p3 p4 p5 p6 p7 : PV} (i0 : Nat) (h0 : F i0 = p0) (i1 : Nat) (h1 : F i1 = p1) (i2 : Nat) (h2 : F i2 = p2) (i3 : Nat) (h3 : F i3 = p3) (i4 : Nat) (h4 : F i4 = p4) (i5 : Nat) (h5 : F i5 = p5) (i6 : Nat) (h6 : F i6 = p6) (i7 : Nat) (h7 : F i7 = p7) (h : ∀ F : PFrame, F i0 = p0 → F i1 = p1 → F i2 = p2 → F i3 = p3 → F i4 = p4 → F i5 = p5 → F i6 = p6 → F i7 = p7 → PC P W n c F H Q) : PC P W n c F H Q := h F h0 h1 h2 h3 h4 h5 h6 h7
theorem A9 {c : Code} {Q : Exit → PFrame → PHeap → Prop} {p0 p1 p2 p3 p4 p5 p6 p7 p8 : PV} (i0 : Nat) (h0 : F i0 = p0) (i1 : Nat) (h1 : F i1 = p1) (i2 : Nat) (h2 : F i2 = p2) (i3 : Nat) (h3 : F i3 = p3) (i4 : Nat) (h4 : F i4 = p4) (i5 : Nat) (h5 : F i5 = p5) (i6 : Nat) (h6 : F i6 = p6) (i7 : Nat) (h7 : F i7 = p7) (i8 : Nat) (h8 : F i8 = p8) (h : ∀ F : PFrame, F i0 = p0 → F i1 = p1 → F i2 = p2 → F i3 = p3 → F i4 = p4 → F i5 = p5 → F i6 = p6 → F i7 = p7 → F i8 = p8 → PC P W n c F H Q) : PC P W n c F H Q := h F h0 h1 h2 h3 h4 h5 h6 h7 h8
theorem A10 {c : Code} {Q : Exit → PFrame → PHeap → Prop} {p0 p1 p2 p3 p4 p5 p6 p7 p8 p9 : PV} (i0 : Nat) (h0 : F i0 = p0) (i1 : Nat) (h1 : F i1 = p1) (i2 : Nat) (h2 : F i2 = p2) (i3 : Nat) (h3 : F i3 = p3) (i4 : Nat) (h4 : F i4 = p4) (i5 : Nat) (h5 : F i5 = p5) (i6 : Nat) (h6 : F i6 = p6) (i7 : Nat) (h7 : F i7 = p7) (i8 : Nat) (h8 : F i8 = p8) (i9 : Nat) (h9 : F i9 = p9) (h : ∀ F : PFrame, F i0 = p0 → F i1 = p1 → F i2 = p2 → F i3 = p3 → F i4 = p4 → F i5 = p5 → F i6 = p6 → F i7 = p7 → F i8 = p8 → F i9 = p9 → PC P W n c F H Q) : PC P W n c F H Q := h F h0 h1 h2 h3 h4 h5 h6 h7 h8 h9
theorem A11 {c : Code} {Q : Exit → PFrame → PHeap → Prop} {p0 p1 p2 p3 p4 p5 p6 p7 p8 p9 p10 : PV} (i0 : Nat) (h0 : F i0 = p0) (i1 : Nat) (h1 : F i1 = p1) (i2 : Nat) (h2 : F i2 = p2) (i3 : Nat) (h3 : F i3 = p3) (i4 : Nat) (h4 : F i4 = p4) (i5 : Nat) (h5 : F i5 = p5) (i6 : Nat) (h6 : F i6 = p6) (i7 : Nat) (h7 : F i7 = p7) (i8 : Nat) (h8 : F i8 = p8) (i9 : Nat) (h9 : F i9 = p9) (i10 : Nat) (h10 : F i10 = p10) (h : ∀ F : PFrame, F i0 = p0 → F i1 = p1 → F i2 = p2 → F i3 = p3 → F i4 = p4 → F i5 = p5 → F i6 = p6 → F i7 = p7 → F i8 = p8 → F i9 = p9 → F i10 = p10 → PC P W n c F H Q) : PC P W n c F H Q := h F h0 h1 h2 h3 h4 h5 h6 h7 h8 h9 h10
theorem A12 {c : Code} {Q : Exit → PFrame → PHeap → Prop} {p0 p1 p2 p3 p4 p5 p6 p7 p8 p9 p10 p11 : PV} (i0 : Nat) (h0 : F i0 = p0) (i1 : Nat) (h1 : F i1 = p1) (i2 : Nat) (h2 : F i2 = p2) (i3 : Nat) (h3 : F i3 = p3) (i4 : Nat) (h4 : F i4 = p4) (i5 : Nat) (h5 : F i5 = p5) (i6 : Nat) (h6 : F i6 = p6) (i7 : Nat) (h7 : F i7 = p7) (i8 : Nat) (h8 : F i8 = p8) (i9 : Nat) (h9 : F i9 = p9) (i10 : Nat) (h10 : F i10 = p10) (i11 : Nat) (h11 : F i11 = p11) (h : ∀ F : PFrame, F i0 = p0 → F i1 = p1 → F i2 = p2 → F i3 = p3 → F i4 = p4 → F i5 = p5 → F i6 = p6 → F i7 = p7 → F i8 = p8 → F i9 = p9 → F i10 = p10 → F i11 = p11 → PC P W n c F H Q) : PC P W n c F H Q := h F h0 h1 h2 h3 h4 h5 h6 h7 h8 h9 h10 h11
theorem A13 {c : Code} {Q : Exit → PFrame → PHeap → Prop} {p0 p1 p2 p3 p4 p5 p6 p7 p8 p9 p10 p11 p12 : PV} (i0 : Nat) (h0 : F i0 = p0) (i1 : Nat) (h1 : F i1 = p1) (i2 : Nat) (h2 : F i2 = p2) (i3 : Nat) (h3 : F i3 = p3) (i4 : Nat) (h4 : F i4 = p4) (i5 : Nat) (h5 : F i5 = p5) (i6 : Nat) (h6 : F i6 = p6) (i7 : Nat) (h7 : F i7 = p7) (i8 : Nat) (h8 : F i8 = p8) (i9 : Nat) (h9 : F i9 = p9) (i10 : Nat) (h10 : F i10 = p10) (i11 : Nat) (h11 : F i11 = p11) (i12 : Nat) (h12 : F i12 = p12) (h : ∀ F : PFrame, F i0 = p0 → F i1 = p1 → F i2 = p2 → F i3 = p3 → F i4 = p4 → F i5 = p5 → F i6 = p6 → F i7 = p7 → F i8 = p8 → F i9 = p9 → F i10 = p10 → F i11 = p11 → F i12 = p12 → PC P W n c F H Q) : PC P W n c F H Q := h F h0 h1 h2 h3 h4 h5 h6 h7 h8 h9 h10 h11 h12
theorem A14 {c : Code} {Q : Exit → PFrame → PHeap → Prop} {p0 p1 p2 p3 p4 p5 p6 p7 p8 p9 p10 p11 p12 p13 : PV} (i0 : Nat) (h0 : F i0 = p0) (i1 : Nat) (h1 : F i1 = p1) (i2 : Nat) (h2 : F i2 = p2) (i3 : Nat) (h3 : F i3 = p3) (i4 : Nat) (h4 : F i4 = p4) (i5 : Nat) (h5 : F i5 = p5) (i6 : Nat) (h6 : F i6 = p6) (i7 : Nat) (h7 : F i7 = p7) (i8 : Nat) (h8 : F i8 = p8) (i9 : Nat) (h9 : F i9 = p9) (i10 : Nat) (h10 : F i10 = p10) (i11 : Nat) (h11 : F i11 = p11) (i12 : Nat) (h12 : F i12 = p12) (i13 : Nat) (h13 : F i13 = p13) (h : ∀ F : PFrame, F i0 = p0 → F i1 = p1 → F i2 = p2 → F i3 = p3 → F i4 = p4 → F i5 = p5 → F i6 = p6 → F i7 = p7 → F i8 = p8 → F i9 = p9 → F i10 = p10 → F i11 = p11 → F i12 = p12 → F i13 = p13 → PC P W n c F H Q) : PC P W n c F H Q := h F h0 h1 h2 h3 h4 h5 h6 h7 h8 h9 h10 h11 h12 h13
theorem A15 {c : Code} {Q : Exit → PFrame → PHeap → Prop} {p0 p1 p2 p3 p4 p5 p6 p7 p8 p9 p10 p11 p12 p13 p14 : PV} (i0 : Nat) (h0 : F i0 = p0) (i1 : Nat) (h1 : F i1 = p1) (i2 : Nat) (h2 : F i2 = p2) (i3 : Nat) (h3 : F i3 = p3) (i4 : Nat) (h4 : F i4 = p4) (i5 : Nat) (h5 : F i5 = p5) (i6 : Nat) (h6 : F i6 = p6) (i7 : Nat) (h7 : F i7 = p7) (i8 : Nat) (h8 : F i8 = p8) (i9 : Nat) (h9 : F i9 = p9) (i10 : Nat) (h10 : F i10 = p10) (i11 : Nat) (h11 : F i11 = p11) (i12 : Nat) (h12 : F i12 = p12) (i13 : Nat) (h13 : F i13 = p13) (i14 : Nat) (h14 : F i14 = p14) (h : ∀ F : PFrame, F i0 = p0 → F i1 = p1 → F i2 = p2 → F i3 = p3 → F i4 = p4 → F i5 = p5 → F i6 = p6 → F i7 = p7 → F i8 = p8 → F i9 = p9 → F i10 = p10 → F i11 = p11 → F i12 = p12 → F i13 = p13 → F i14 = p14 → PC P W n c F H Q) : PC P W n c F H Q := h F h0 h1 h2 h3 h4 h5 h6 h7 h8 h9 h10 h11 h12 h13 h14
end
end Go.Proofs.Ytpohfkgjghiofaa.L
