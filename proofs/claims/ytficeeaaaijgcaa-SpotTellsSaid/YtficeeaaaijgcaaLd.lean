/-
  More of the operations that only read or make a value, told by pure values.
-/
import Derived.Test.YtficeeaaaijgcaaLc
namespace Go.Proofs.Ytficeeaaaijgcaa.L
open Go Go.RowKit
set_option linter.unusedVariables false
set_option linter.unusedSimpArgs false
section
variable {P : Program} {W : Env} {H : PHeap} {F : PFrame}

/-! cells of a value -/
def leafOk (H : PHeap) : PV → Bool
  | .u v => v.oneCell'
  | .sl _ _ | .rp _ | .fn _ _ _ => true
  | .ps id ver => (liveRow H id ver).isSome
  | .pp id _ ver => (liveCells H id ver).isSome
  | _ => false
def okC (H : PHeap) : PV → Bool
  | .agg cs => cs.all (leafOk H)
  | p => leafOk H p

theorem Rp.leaf {V : Nat → Value} {w : World} (hr : HRel P W H V w) {p : PV} {v : Value} (h : Rp W.Z H V w p v) (hp : leafOk H p = true) : v.oneCell' = true := by
  cases h with
  | u v => exact hp
  | nil k a c => rfl
  | sl => rfl
  | rp => rfl
  | fn => rfl
  | ps id ver v hv h =>
    simp only [leafOk] at hp
    cases hl : liveRow H id ver with
    | none => rw [hl] at hp; cases hp
    | some q =>
      obtain ⟨t, k, n, cs⟩ := q
      obtain ⟨hb, hve⟩ := liveRow_spec hl
      rw [h (by rw [hb]; rfl) hve]
      obtain ⟨vals, ho, _⟩ := hr.row id t k n cs hb
      rcases ho.2 with ⟨e, _⟩ | ⟨g', cap, cur, e, _⟩ <;> rw [e] <;> rfl
  | pp id off ver v hv h =>
    simp only [leafOk] at hp
    cases hl : liveCells H id ver with
    | none => rw [hl] at hp; cases hp
    | some q =>
      obtain ⟨h1, h2⟩ := liveCells_live hl
      obtain ⟨g, _, rfl⟩ := h h1 h2
      rfl
  | _ => simp [leafOk] at hp

theorem Rp.cells {V : Nat → Value} {w : World} (hr : HRel P W H V w) {p : PV} {v : Value} (h : Rp W.Z H V w p v) (hp : okC H p = true) : RpL W.Z H V w p.cells v.cells.toList ∧ ∀ u ∈ v.cells.toList, u.oneCell' = true := by
  cases h with
  | agg cs vs hl hc =>
    simp only [okC, List.all_eq_true] at hp
    refine ⟨⟨by simpa [PV.cells, Value.cells] using hl, fun i p v h1 h2 => hc i p v h1 (by simpa [Value.cells] using h2)⟩, fun u hu => ?_⟩
    simp only [Value.cells] at hu
    obtain ⟨i, hi, rfl⟩ := List.getElem_of_mem hu
    have hi' : i < vs.size := by simpa using hi
    have hic : i < cs.length := by omega
    have := hc i cs[i] vs[i] (List.getElem?_eq_getElem hic) (Array.getElem?_eq_getElem hi')
    have := this.leaf hr (hp _ (List.getElem_mem hic))
    simpa using this
  | tup => simp [okC, leafOk] at hp
  | unk => simp [okC, leafOk] at hp
  | u v =>
    have h1 : v.oneCell' = true := hp
    have hc : v.cells = #[v] := by cases v <;> first | rfl | simp [Value.oneCell'] at h1
    rw [hc]
    exact ⟨⟨rfl, fun i p u h1 h2 => by
      cases i with
      | zero => simp [PV.cells] at h1 h2; subst h1 h2; exact .u _
      | succ i => simp [PV.cells] at h1⟩, by simpa using h1⟩
  | nil k a c =>
    exact ⟨⟨rfl, fun i p u h1 h2 => by
      cases i with
      | zero => simp [PV.cells, Value.cells] at h1 h2; subst h1 h2; exact .nil _ _ _
      | succ i => simp [PV.cells] at h1⟩, by simp [Value.cells, Value.oneCell']⟩
  | sl k xs b o c g hu hlen hz hb h1 h2 =>
    exact ⟨⟨rfl, fun i p u h3 h4 => by
      cases i with
      | zero => simp [PV.cells, Value.cells] at h3 h4; subst h3 h4; exact .sl k xs b o c g hu hlen hz hb h1 h2
      | succ i => simp [PV.cells] at h3⟩, by simp [Value.cells, Value.oneCell']⟩
  | rp cs b o g hz hb h1 h2 =>
    exact ⟨⟨rfl, fun i p u h3 h4 => by
      cases i with
      | zero => simp [PV.cells, Value.cells] at h3 h4; subst h3 h4; exact .rp cs b o g hz hb h1 h2
      | succ i => simp [PV.cells] at h3⟩, by simp [Value.cells, Value.oneCell']⟩
  | fn f a b va vb hla hlb ha hb =>
    exact ⟨⟨rfl, fun i p u h3 h4 => by
      cases i with
      | zero => simp [PV.cells, Value.cells] at h3 h4; subst h3 h4; exact .fn f a b va vb hla hlb ha hb
      | succ i => simp [PV.cells] at h3⟩, by simp [Value.cells, Value.oneCell']⟩
  | ps id ver v hv h =>
    have h1 : v.oneCell' = true := Rp.leaf hr (.ps id ver v hv h) hp
    have hc : v.cells = #[v] := by cases v <;> first | rfl | simp [Value.oneCell'] at h1
    rw [hc]
    exact ⟨⟨rfl, fun i p u h3 h4 => by
      cases i with
      | zero => simp [PV.cells] at h3 h4; subst h3 h4; exact .ps id ver _ hv h
      | succ i => simp [PV.cells] at h3⟩, by simpa using h1⟩
  | pp id off ver v hv h =>
    have h1 : v.oneCell' = true := Rp.leaf hr (.pp id off ver v hv h) hp
    have hc : v.cells = #[v] := by cases v <;> first | rfl | simp [Value.oneCell'] at h1
    rw [hc]
    exact ⟨⟨rfl, fun i p u h3 h4 => by
      cases i with
      | zero => simp [PV.cells] at h3 h4; subst h3 h4; exact .pp id off ver _ hv h
      | succ i => simp [PV.cells] at h3⟩, by simpa using h1⟩

/-! values as they are -/
def leafV : PV → Option Value
  | .u v => some v
  | _ => none
def PV.val2 : PV → Option Value
  | .u v => some v
  | .agg cs => (cs.mapM leafV).map fun l => .agg l.toArray
  | _ => none

theorem mapM_leafV : ∀ {cs : List PV} {l : List Value}, cs.mapM leafV = some l → cs = l.map .u
  | [], l, h => by simp at h; subst h; rfl
  | c :: cs, l, h => by
    simp only [List.mapM_cons, bind_pure_comp, Option.bind_eq_bind] at h
    cases hc : leafV c with
    | none => rw [hc] at h; cases h
    | some v =>
      cases hm : cs.mapM leafV with
      | none => rw [hc, hm] at h; cases h
      | some m =>
        rw [hc, hm] at h
        simp at h
        subst h
        have : c = .u v := by cases c <;> simp [leafV] at hc; subst hc; rfl
        rw [this, mapM_leafV hm]
        rfl

theorem Rp.val2 {V : Nat → Value} {w : World} {p : PV} {v u : Value} (h : Rp W.Z H V w p v) (hp : p.val2 = some u) : v = u := by
  cases h with
  | u v => simpa [PV.val2] using hp
  | agg cs vs hl hc =>
    simp only [PV.val2, Option.map_eq_some_iff] at hp
    obtain ⟨l, hl2, rfl⟩ := hp
    have e := mapM_leafV hl2
    subst e
    congr 1
    apply Array.ext'
    apply List.ext_getElem?
    intro i
    simp only [List.length_map] at hl
    by_cases hi : i < l.length
    · have h1 : (l.map PV.u)[i]? = some (.u l[i]) := by simp [hi]
      have hi2 : i < vs.size := by omega
      have h2 := hc i _ vs[i] h1 (Array.getElem?_eq_getElem hi2)
      have h3 : vs[i] = l[i] := by generalize vs[i] = q at h2; cases h2; rfl
      simp [hi, hi2, h3]
    · rw [List.getElem?_eq_none (by simp; omega), List.getElem?_eq_none (by simpa using hi)]
  | _ => simp [PV.val2] at hp

def binP (P : Program) (op : BinOp) (t : TypeId) (x y : Operand) (p q : PV) : Option PV :=
  match p.val2, q.val2 with
  | some a, some b => ((do eqGuard op t x y a b; binOp op t a b : Sem Value).val P).map ofV
  | _, _ => none
def unP (P : Program) (op : UnOp) (p : PV) : Option PV :=
  match p.val2 with
  | some a => ((Op.unary op a).val P).map ofV
  | none => none
def convP (P : Program) (s d : TypeId) (p : PV) : Option PV :=
  match p.val2 with
  | some a => ((convert s d a).val P).map ofV
  | none => none
def bltP (P : Program) (b : Builtin) (ts : Array TypeId) (ty : TypeId) (ps : List PV) : Option PV :=
  match ps.mapM PV.val2 with
  | some vs =>
    match b with
    | .min => ((Builtin.min_ ts ty vs.toArray).val P).map ofV
    | .max => ((Builtin.max_ ts ty vs.toArray).val P).map ofV
    | _ => none
  | none => none

def isSlice (P : Program) (t : TypeId) : Bool := match P.underlying t with | some (.slice _) => true | _ => false
def isStr (P : Program) (t : TypeId) : Bool := match P.underlying t with | some .string => true | _ => false

def lenP (P : Program) (H : PHeap) (t : TypeId) (p : PV) : Option PV :=
  match p with
  | .sl _ xs => if isSlice P t then some (.u (.int .i64 xs.length)) else none
  | .ps id ver => if isSlice P t then (liveRow H id ver).map fun q => .u (.int .i64 q.2.2.1) else none
  | .u (.slice _ n _) => if isSlice P t then some (.u (.int .i64 n)) else none
  | .u (.string s) => if isStr P t then some (.u (.int .i64 s.size)) else none
  | _ => none

theorem run_len_slice {t : TypeId} (ht : isSlice P t = true) (ty : TypeId) (a : Option Addr) (n c : Nat) (w : World) : (Builtin.len_ #[t] ty #[.slice a n c]).run P w = .ok (.int .i64 n) w := by
  unfold isSlice at ht
  split at ht
  · rename_i e hu
    simp [Builtin.len_, run_underlying hu, goInt]
  · cases ht
theorem run_len_str {t : TypeId} (ht : isStr P t = true) (ty : TypeId) (s : ByteArray) (w : World) : (Builtin.len_ #[t] ty #[.string s]).run P w = .ok (.int .i64 s.size) w := by
  unfold isStr at ht
  split at ht
  · rename_i hu
    simp [Builtin.len_, run_underlying hu, goInt]
  · cases ht

theorem HRel.row_shape {V : Nat → Value} {w : World} (hr : HRel P W H V w) {id ver : Nat} {q} (h : liveRow H id ver = some q) {v : Value} (hv : Rp W.Z H V w (.ps id ver) v) : ∃ a c, v = .slice a q.2.2.1 c := by
  obtain ⟨t, k, n, cs⟩ := q
  obtain ⟨hb, hve⟩ := liveRow_spec h
  cases hv with
  | ps _ _ _ hvv hh =>
    rw [hh (by rw [hb]; rfl) hve]
    obtain ⟨vals, ho, _⟩ := hr.row id t k n cs hb
    rcases ho.2 with ⟨e, rfl⟩ | ⟨g', cap, cur, e, _⟩
    · exact ⟨none, 0, e⟩
    · exact ⟨_, cap, e⟩

theorem Rp.sl_shape {V : Nat → Value} {w : World} {k : Nat} {xs : List PV} {v : Value} (h : Rp W.Z H V w (.sl k xs) v) : ∃ a c, v = .slice a xs.length c ∧ xs.length ≤ c ∨ xs = [] ∧ v = .slice a 0 c := by
  cases h with
  | nil k a c => exact ⟨a, c, .inr ⟨rfl, rfl⟩⟩
  | sl k xs b o c g hu hlen => exact ⟨_, c, .inl ⟨rfl, hlen⟩⟩

theorem run_lenP {V : Nat → Value} {w : World} (hr : HRel P W H V w) {t ty : TypeId} {y q : PV} {v : Value} (hx : Rp W.Z H V w y v) (hq : lenP P H t y = some q) : ∃ u, (Builtin.len_ #[t] ty #[v]).run P w = .ok u w ∧ Rp W.Z H V w q u := by
  unfold lenP at hq
  split at hq
  · split at hq
    · rename_i xs ht
      cases hq
      obtain ⟨a, c, ⟨rfl, _⟩ | ⟨rfl, rfl⟩⟩ := hx.sl_shape
      · exact ⟨_, run_len_slice ht ty _ _ _ _, .u _⟩
      · exact ⟨_, run_len_slice ht ty _ _ _ _, .u _⟩
    · cases hq
  · split at hq
    · rename_i id ver ht
      cases hl : liveRow H id ver with
      | none => rw [hl] at hq; cases hq
      | some r =>
        rw [hl] at hq
        cases hq
        obtain ⟨a, c, rfl⟩ := hr.row_shape hl hx
        exact ⟨_, run_len_slice ht ty _ _ _ _, .u _⟩
    · cases hq
  · split at hq
    · rename_i ht
      cases hq
      cases hx
      exact ⟨_, run_len_slice ht ty _ _ _ _, .u _⟩
    · cases hq
  · split at hq
    · rename_i ht
      cases hq
      cases hx
      exact ⟨_, run_len_str ht ty _ _, .u _⟩
    · cases hq
  · cases hq

/-! places -/
theorem flat_at {k : Nat} : ∀ {xs : List PV}, (∀ y ∈ xs, y.cells.length = k) → ∀ (i j : Nat) (y : PV), xs[i]? = some y → j < k → (xs.flatMap PV.cells)[i * k + j]? = y.cells[j]?
  | [], _, i, j, y, h, _ => by simp at h
  | x :: xs, hu, 0, j, y, h, hj => by
    simp at h
    subst h
    have hx := hu x (by simp)
    rw [List.flatMap_cons, Nat.zero_mul, Nat.zero_add, List.getElem?_append_left (by omega)]
  | x :: xs, hu, i + 1, j, y, h, hj => by
    have hx := hu x (by simp)
    simp only [List.getElem?_cons_succ] at h
    rw [List.flatMap_cons, List.getElem?_append_right (by rw [hx, Nat.add_mul]; omega), hx, show (i + 1) * k + j - k = i * k + j by rw [Nat.add_mul]; omega]
    exact flat_at (fun y hy => hu y (by simp [hy])) i j y h hj

def indexAddrP (P : Program) (H : PHeap) (t : TypeId) (p i : PV) : Option PV :=
  match i with
  | .u (.int _ z) =>
    if 0 ≤ z then
      match p with
      | .sl k xs => if esz P t = some k then (xs[z.toNat]?).map fun y => .rp y.cells else none
      | .ps id ver =>
        match liveRow H id ver with
        | some (_, k, n, _) => if esz P t = some k ∧ z.toNat < n then some (.pp id (z.toNat * k) ver) else none
        | none => none
      | .pp id off ver =>
        match arr P t with
        | some (n, k) => if z.toNat < n then (liveCells H id ver).map fun _ => .pp id (off + z.toNat * k) ver else none
        | none => none
      | .rp cs =>
        match arr P t with
        | some (n, k) => if z.toNat < n then some (.rp (cs.drop (z.toNat * k))) else none
        | none => none
      | _ => none
    else none
  | _ => none

theorem run_indexAt_slice {t e : TypeId} {i : TypeInfo} (ht : P.underlying t = some (.slice e)) (hi : P.info? e = some i) (w : World) (b o n c : Nat) (kd : IntKind) (z : Int) (h0 : 0 ≤ z) (hz : z.toNat < n) :
    (Instr.indexAt t (.slice (some ⟨b, o, none⟩) n c) (.int kd z)).run P w = .ok (.pointer (some ⟨b, o + z.toNat * i.size, none⟩)) w := by
  have hz' : z < n := by omega
  simp [Instr.indexAt, run_underlying ht, asIntOf, sizeOf, typeInfo, hi, h0, hz', addr_add]
theorem run_indexAt_arr {t e : TypeId} {i : TypeInfo} {n : Nat} (ht : P.underlying t = some (.array n e)) (hi : P.info? e = some i) (w : World) (b o : Nat) (kd : IntKind) (z : Int) (h0 : 0 ≤ z) (hz : z.toNat < n) :
    (Instr.indexAt t (.pointer (some ⟨b, o, none⟩)) (.int kd z)).run P w = .ok (.pointer (some ⟨b, o + z.toNat * i.size, none⟩)) w := by
  have hz' : z < n := by omega
  simp [Instr.indexAt, Instr.sureAddr, run_underlying ht, asIntOf, sizeOf, typeInfo, hi, h0, hz', addr_add]

theorem run_indexAddrP {V : Nat → Value} {w : World} (hr : HRel P W H V w) {t : TypeId} {y i q : PV} {v u : Value} (hx : Rp W.Z H V w y v) (hi : Rp W.Z H V w i u) (hq : indexAddrP P H t y i = some q) :
    ∃ r, (Instr.indexAt t v u).run P w = .ok r w ∧ Rp W.Z H V w q r := by
  unfold indexAddrP at hq
  split at hq
  rotate_left
  · cases hq
  rename_i kd z
  cases hi
  split at hq
  rotate_left
  · cases hq
  rename_i h0
  split at hq
  · rename_i k xs
    split at hq
    · rename_i he
      obtain ⟨e, ti, ht, hti, rfl⟩ := esz_spec he
      cases hy : xs[z.toNat]? with
      | none => rw [hy] at hq; cases hq
      | some y =>
        rw [hy] at hq
        cases hq
        cases hx with
        | nil => simp at hy
        | sl k xs b o c g hu hlen hz hb h1 h2 =>
          have hlt := (List.getElem?_eq_some_iff.1 hy).1
          refine ⟨_, run_indexAt_slice ht hti w b o xs.length c kd z h0 hlt, .rp _ b _ (fun j => g (z.toNat * ti.size + j)) hz hb (fun j p hj => ?_) (fun j p hj => ?_)⟩
          · have hjk : j < ti.size := by rw [← hu y (List.mem_of_getElem? hy)]; exact (List.getElem?_eq_some_iff.1 hj).1
            have := h1 (z.toNat * ti.size + j) p (by rw [flat_at hu _ j y hy hjk]; exact hj)
            rw [← Nat.add_assoc] at this
            exact this
          · have hjk : j < ti.size := by rw [← hu y (List.mem_of_getElem? hy)]; exact (List.getElem?_eq_some_iff.1 hj).1
            exact h2 (z.toNat * ti.size + j) p (by rw [flat_at hu _ j y hy hjk]; exact hj)
    · cases hq
  · rename_i id ver
    split at hq
    · rename_i t' k n cs hl
      split at hq
      · rename_i hc
        cases hq
        obtain ⟨e, ti, ht, hti, rfl⟩ := esz_spec hc.1
        obtain ⟨hb, hve⟩ := liveRow_spec hl
        cases hx with
        | ps _ _ _ hvv hh =>
          have hV := hh (by rw [hb]; rfl) hve
          obtain ⟨vals, ho, _⟩ := hr.row id t' _ n cs hb
          rcases ho.2 with ⟨e', rfl⟩ | ⟨g', cap, cur, e', _⟩
          · have := hc.2; omega
          · rw [hV, e']
            refine ⟨_, run_indexAt_slice ht hti w g' 0 n cap kd z h0 hc.2, ?_⟩
            rw [Nat.zero_add]
            exact .pp _ _ _ _ hvv fun _ _ => ⟨g', by rw [e']; rfl, rfl⟩
      · cases hq
    · cases hq
  · rename_i id off ver
    split at hq
    · rename_i n k ha
      split at hq
      · rename_i hn
        cases hl : liveCells H id ver with
        | none => rw [hl] at hq; cases hq
        | some cs =>
          rw [hl] at hq
          cases hq
          obtain ⟨h1, h2⟩ := liveCells_live hl
          obtain ⟨e, ti, ht, hti, rfl⟩ := arr_spec ha
          cases hx with
          | pp _ _ _ _ hv' h =>
            obtain ⟨g, hg, rfl⟩ := h h1 h2
            exact ⟨_, run_indexAt_arr ht hti w g off kd z h0 hn, .pp _ _ _ _ hv' fun _ _ => ⟨g, hg, rfl⟩⟩
      · cases hq
    · cases hq
  · rename_i cs
    split at hq
    · rename_i n k ha
      split at hq
      · rename_i hn
        cases hq
        obtain ⟨e, ti, ht, hti, rfl⟩ := arr_spec ha
        cases hx with
        | rp _ b o g hz hb h1 h2 => exact ⟨_, run_indexAt_arr ht hti w b o kd z h0 hn, Rp.rp_drop (W := W) (.rp cs b o g hz hb h1 h2) _⟩
      · cases hq
    · cases hq
  · cases hq

/-! parts of a value -/
def partP (P : Program) (t : TypeId) (cs : List PV) (off : Nat) : Option PV :=
  match asz P t with
  | some (ag, k) => loadP ag k (cs.drop off)
  | none => none
theorem run_partP {V : Nat → Value} {w : World} {t : TypeId} {cs : List PV} {vs : Array Value} {off : Nat} {q : PV} (hl : cs.length = vs.size) (hc : ∀ (i : Nat) (p : PV) (v : Value), cs[i]? = some p → vs[i]? = some v → Rp W.Z H V w p v) (hq : partP P t cs off = some q) :
    ∃ u, (part t vs off).run P w = .ok u w ∧ Rp W.Z H V w q u := by
  unfold partP at hq
  cases ha : asz P t with
  | none => rw [ha] at hq; cases hq
  | some gk =>
    obtain ⟨ag, k⟩ := gk
    rw [ha] at hq
    simp only at hq
    obtain ⟨h1, h2⟩ := asz_spec ha w
    unfold loadP at hq
    cases ag with
    | false =>
      simp only [Bool.false_eq_true, if_false, List.getElem?_drop, Nat.add_zero] at hq
      have hlt := (List.getElem?_eq_some_iff.1 hq).1
      have hv := Array.getElem?_eq_getElem (xs := vs) (show off < vs.size by omega)
      exact ⟨vs[off]'(by omega), by unfold part; simp [Sem.run_bind, h1, hv], hc off q _ hq hv⟩
    | true =>
      simp only [if_true, List.length_drop] at hq
      split at hq
      · rename_i hk
        cases hq
        refine ⟨.agg (vs.extract off (off + k)), by unfold part; simp [Sem.run_bind, h1, h2], ?_⟩
        refine .agg _ _ (by simp; omega) fun i p v h3 h4 => ?_
        rw [List.getElem?_take] at h3
        split at h3
        · rename_i hi
          rw [List.getElem?_drop] at h3
          refine hc (off + i) p v h3 ?_
          rw [Array.getElem?_extract] at h4
          split at h4
          · exact h4
          · cases h4
        · cases h3
      · cases hq

def fieldP (P : Program) (t : TypeId) (f : Nat) (p : PV) : Option PV :=
  match fof P t f, p with
  | some (off, ft), .agg cs => partP P ft cs off
  | _, _ => none
theorem run_fieldP {V : Nat → Value} {w : World} {t : TypeId} {f : Nat} {y q : PV} {v : Value} (hx : Rp W.Z H V w y v) (hq : fieldP P t f y = some q) : ∃ u, (Instr.field t v f).run P w = .ok u w ∧ Rp W.Z H V w q u := by
  unfold fieldP at hq
  split at hq
  · rename_i off ft cs hf
    obtain ⟨fs, fx, hu, hfx, rfl, rfl⟩ := fof_spec hf
    cases hx with
    | agg _ vs hl hc =>
      obtain ⟨u, hu2, hp⟩ := run_partP hl hc hq
      exact ⟨u, by simp [Instr.field, run_underlying hu, hfx, asAgg, hu2], hp⟩
  · cases hq

def indexP (P : Program) (t : TypeId) (p i : PV) : Option PV :=
  match i with
  | .u (.int kd z) =>
    match p with
    | .agg cs =>
      match arr P t, aelem P t with
      | some (n, k), some e => if 0 ≤ z ∧ z.toNat < n then partP P e cs (z.toNat * k) else none
      | _, _ => none
    | .u (.string s) => if isStr P t then (if 0 ≤ z then (s[z.toNat]?).map fun b => .u (.int .u8 b.toNat) else none) else none
    | _ => none
  | _ => none
theorem run_indexP {V : Nat → Value} {w : World} {t : TypeId} {y i q : PV} {v u : Value} (hx : Rp W.Z H V w y v) (hi : Rp W.Z H V w i u) (hq : indexP P t y i = some q) : ∃ r, (Instr.index t v u).run P w = .ok r w ∧ Rp W.Z H V w q r := by
  unfold indexP at hq
  split at hq
  rotate_left
  · cases hq
  rename_i kd z
  cases hi
  split at hq
  · rename_i cs
    split at hq
    · rename_i n k e ha he
      split at hq
      · rename_i hz
        obtain ⟨e', ti, ht, hti, rfl⟩ := arr_spec ha
        have hee : e' = e := by unfold aelem at he; rw [ht] at he; simpa using he
        subst hee
        cases hx with
        | agg _ vs hl hc =>
          obtain ⟨r, hr, hp⟩ := run_partP hl hc hq
          have hz' : z < n := by omega
          exact ⟨r, by simp [Instr.index, run_underlying ht, asIntOf, hz.1, hz', sizeOf, typeInfo, hti, hr], hp⟩
      · cases hq
    · cases hq
  · rename_i s
    cases hx
    split at hq
    · rename_i hs
      split at hq
      · rename_i h0
        cases hb : s[z.toNat]? with
        | none => rw [hb] at hq; cases hq
        | some b =>
          rw [hb] at hq
          cases hq
          unfold isStr at hs
          split at hs
          · rename_i hu
            exact ⟨_, by simp [Instr.index, run_underlying hu, asIntOf, h0, hb], .u _⟩
          · cases hs
      · cases hq
    · cases hq
  · cases hq

def boundP (d : Nat) : Option PV → Option Nat
  | none => some d
  | some (.u (.int _ z)) => if 0 ≤ z then some z.toNat else none
  | _ => none
def sliceP (P : Program) (t : TypeId) (p : PV) (lo hi : Option PV) : Option PV :=
  match p with
  | .sl k xs =>
    match boundP 0 lo, boundP xs.length hi with
    | some l, some h => if esz P t = some k ∧ l ≤ h ∧ h ≤ xs.length then some (.sl k ((xs.take h).drop l)) else none
    | _, _ => none
  | .u (.string s) =>
    match boundP 0 lo, boundP s.size hi with
    | some l, some h => if isStr P t ∧ l ≤ h ∧ h ≤ s.size then some (.u (.string (s.extract l h))) else none
    | _, _ => none
  | _ => none

theorem run_sliceBound {w : World} {kd : IntKind} {z : Int} (h0 : 0 ≤ z) {n : Nat} (hz : z.toNat ≤ n) (c : BoundsCode) : (Instr.sliceBound (.int kd z) n c).run P w = .ok z.toNat w := by
  have : z ≤ n := by omega
  simp [Instr.sliceBound, asIntOf, h0, this]

theorem boundP_rel {V : Nat → Value} {w : World} {d l : Nat} {lo : Option PV} {vo : Option Value} (hlo : ∀ p v, lo = some p → vo = some v → Rp W.Z H V w p v) (hs : lo.isSome = vo.isSome) (hb : boundP d lo = some l) :
    (vo = none ∧ l = d) ∨ ∃ kd z, vo = some (.int kd z) ∧ 0 ≤ z ∧ z.toNat = l := by
  cases lo with
  | none =>
    cases vo with
    | none => simp [boundP] at hb; exact .inl ⟨rfl, hb.symm⟩
    | some v => cases hs
  | some p =>
    cases vo with
    | none => cases hs
    | some v =>
      have hp := hlo p v rfl rfl
      unfold boundP at hb
      split at hb
      · rename_i h; cases h
      · rename_i kd z h
        cases h
        split at hb
        · rename_i h0
          cases hb
          cases hp
          exact .inr ⟨kd, z, rfl, h0, rfl⟩
        · cases hb
      · cases hb

theorem flatMap_take {k : Nat} : ∀ {xs : List PV}, (∀ y ∈ xs, y.cells.length = k) → ∀ m, (xs.take m).flatMap PV.cells = (xs.flatMap PV.cells).take (m * k)
  | [], _, m => by simp
  | x :: xs, hu, 0 => by simp
  | x :: xs, hu, m + 1 => by
    have hx := hu x (by simp)
    rw [List.take_succ_cons, List.flatMap_cons, List.flatMap_cons, flatMap_take (fun y hy => hu y (by simp [hy])) m, List.take_append, hx, Nat.add_mul, Nat.one_mul, Nat.add_sub_cancel, List.take_of_length_le (show x.cells.length ≤ m * k + k by omega)]
theorem flatMap_drop {k : Nat} : ∀ {xs : List PV}, (∀ y ∈ xs, y.cells.length = k) → ∀ m, (xs.drop m).flatMap PV.cells = (xs.flatMap PV.cells).drop (m * k)
  | [], _, m => by simp
  | x :: xs, hu, 0 => by simp
  | x :: xs, hu, m + 1 => by
    have hx := hu x (by simp)
    rw [List.drop_succ_cons, List.flatMap_cons, flatMap_drop (fun y hy => hu y (by simp [hy])) m, List.drop_append, hx, Nat.add_mul, Nat.one_mul, Nat.add_sub_cancel, List.drop_of_length_le (show x.cells.length ≤ m * k + k by omega), List.nil_append]

/-- a piece of a slice -/
theorem Rp.piece {V : Nat → Value} {w : World} {k : Nat} {xs : List PV} {b o c : Nat} (h : Rp W.Z H V w (.sl k xs) (.slice (some ⟨b, o, none⟩) xs.length c)) (l m c' : Nat) (hl : l ≤ m) (hm : m ≤ xs.length) (hc : m - l ≤ c') (hpos : xs ≠ []) : Rp W.Z H V w (.sl k ((xs.take m).drop l)) (.slice (some ⟨b, o + l * k, none⟩) (m - l) c') := by
  cases h with
  | nil => exact absurd rfl hpos
  | sl _ _ _ _ _ g hu hlen hz hb h1 h2 =>
    have hlen' : ((xs.take m).drop l).length = m - l := by simp; omega
    have hut : ∀ y ∈ xs.take m, y.cells.length = k := fun y hy => hu y (List.mem_of_mem_take hy)
    have hget : ∀ (i : Nat) (p : PV), (((xs.take m).drop l).flatMap PV.cells)[i]? = some p → (xs.flatMap PV.cells)[l * k + i]? = some p := fun i p hi => by
      rw [flatMap_drop hut, List.getElem?_drop, flatMap_take hu, List.getElem?_take] at hi
      split at hi
      · exact hi
      · cases hi
    have := Rp.sl (Z := W.Z) (H := H) (V := V) (w := w) k ((xs.take m).drop l) b (o + l * k) c' (fun i => g (l * k + i)) (fun y hy => hut y (List.mem_of_mem_drop hy)) (by rw [hlen']; exact hc) hz hb (fun i p hi => by rw [Nat.add_assoc]; exact h1 _ p (hget i p hi)) (fun i p hi => h2 _ p (hget i p hi))
    rwa [hlen'] at this

theorem run_sliceBounds {w : World} {isS : Bool} {len cap l h : Nat} {lo hi : Option Value} (hlo : (lo = none ∧ l = 0) ∨ ∃ kd z, lo = some (.int kd z) ∧ 0 ≤ z ∧ z.toNat = l) (hhi : (hi = none ∧ h = len) ∨ ∃ kd z, hi = some (.int kd z) ∧ 0 ≤ z ∧ z.toNat = h) (h1 : l ≤ h) (h2 : h ≤ cap) :
    (Instr.sliceBounds isS len cap lo hi none).run P w = .ok (l, h, cap) w := by
  unfold Instr.sliceBounds
  rcases hhi with ⟨rfl, rfl⟩ | ⟨kd, z, rfl, h0, rfl⟩
  · rcases hlo with ⟨rfl, rfl⟩ | ⟨kd', z', rfl, h0', rfl⟩
    · simp
    · simp [run_sliceBound h0' h1]
  · rcases hlo with ⟨rfl, rfl⟩ | ⟨kd', z', rfl, h0', rfl⟩
    · simp [run_sliceBound h0 h2]
    · simp [run_sliceBound h0 h2, run_sliceBound h0' h1]

theorem run_sliceP {V : Nat → Value} {w : World} {t : TypeId} {y q : PV} {lo hi : Option PV} {v : Value} {vl vh : Option Value} (hx : Rp W.Z H V w y v) (hlo : ∀ p v, lo = some p → vl = some v → Rp W.Z H V w p v) (hsl : lo.isSome = vl.isSome) (hhi : ∀ p v, hi = some p → vh = some v → Rp W.Z H V w p v) (hsh : hi.isSome = vh.isSome)
    (hq : sliceP P t y lo hi = some q) : ∃ r, (Instr.sliceAt t v vl vh none).run P w = .ok r w ∧ Rp W.Z H V w q r := by
  unfold sliceP at hq
  split at hq
  · rename_i k xs
    split at hq
    · rename_i l h hl hh
      split at hq
      · rename_i hc
        cases hq
        obtain ⟨hk, h1, h2⟩ := hc
        obtain ⟨e, ti, ht, hti, rfl⟩ := esz_spec hk
        have hlo' := boundP_rel hlo hsl hl
        have hhi' := boundP_rel hhi hsh hh
        obtain ⟨a, c, ⟨rfl, hcap⟩ | ⟨rfl, rfl⟩⟩ := hx.sl_shape
        · have hrun : (Instr.sliceAt t (.slice a xs.length c) vl vh none).run P w = .ok (.slice (if c = l then a else a.map (·.add (l * ti.size))) (h - l) (c - l)) w := by
            have hb := run_sliceBounds (P := P) (w := w) (isS := true) hlo' hhi' h1 (Nat.le_trans h2 hcap)
            simp [Instr.sliceAt, Instr.slice, run_underlying ht, hb, sizeOf, typeInfo, hti]
          refine ⟨_, hrun, ?_⟩
          by_cases hlh : l = h
          · subst hlh
            have : (xs.take l).drop l = [] := by simp
            rw [this, Nat.sub_self]
            exact .nil _ _ _
          · have hpos : xs ≠ [] := by intro e; subst e; simp at h2; omega
            have hcl : ¬ (c = l) := by omega
            rw [if_neg hcl]
            cases hx with
            | nil => exact absurd rfl hpos
            | sl _ _ b o _ g hu hlen hz hb' h3 h4 =>
              simp only [Option.map_some, addr_add]
              exact Rp.piece (.sl _ xs b o c g hu hlen hz hb' h3 h4) l h (c - l) h1 h2 (by omega) hpos
        · simp only [List.length_nil, Nat.le_zero] at h2
          subst h2
          have h1' : l = 0 := by omega
          subst h1'
          have hb := run_sliceBounds (P := P) (w := w) (isS := true) (len := 0) (cap := c) hlo' (by simpa using hhi') (Nat.le_refl 0) (Nat.zero_le c)
          refine ⟨.slice (if c = 0 then a else a.map (·.add (0 * ti.size))) (0 - 0) (c - 0), by simp [Instr.sliceAt, Instr.slice, run_underlying ht, hb, sizeOf, typeInfo, hti], ?_⟩
          simp only [List.take_nil, List.drop_nil, Nat.sub_self]
          exact .nil _ _ _
      · cases hq
    · cases hq
  · rename_i s
    split at hq
    · rename_i l h hl hh
      split at hq
      · rename_i hc
        cases hq
        obtain ⟨hk, h1, h2⟩ := hc
        cases hx
        have hlo' := boundP_rel hlo hsl hl
        have hhi' := boundP_rel hhi hsh hh
        unfold isStr at hk
        split at hk
        · rename_i hu
          have hb := run_sliceBounds (P := P) (w := w) (isS := false) hlo' hhi' h1 h2
          exact ⟨_, by simp [Instr.sliceAt, Instr.slice, run_underlying hu, hb], .u _⟩
        · cases hk
      · cases hq
    · cases hq
  · cases hq
end
end Go.Proofs.Ytficeeaaaijgcaa.L
