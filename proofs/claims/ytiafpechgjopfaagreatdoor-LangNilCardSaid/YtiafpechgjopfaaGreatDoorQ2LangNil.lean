
import Derived.Test.YtiafpechgjopfaaGreatDoorQ1LangNil

namespace Go.Proofs.YtiafpechgjopfaaGreatDoor.T
noncomputable section
set_option maxRecDepth 100000
set_option maxHeartbeats 8000000
set_option linter.unusedVariables false
set_option linter.unusedSimpArgs false
set_option linter.defProp false
open List (replicate range)
open Go Go.RowKit L
def ofC : (t : Ty) → Value → Option t.D
  | .int k, .int k' z => match ikB k k' with
    | true => some z
    | false => none
  | .bool, .bool b => some b
  | .str, .string s => some s.data.toList
  | .sl _, .slice none 0 0 => some []
  | .ref _, .pointer none => some none
  | _, _ => none
theorem ofC_ok {t : Ty} {v : Value} {x : t.D} (h : ofC t v = some x) : zq t = false ∧ (∀ vs, v ≠ .agg vs) ∧ Ref (.u v) (enc t x) := by
  unfold ofC at h
  split at h
  · split at h <;> cases h
    rename_i e
    rw [zp2 e]
    exact ⟨rfl, (fun vs e => by cases e), Ref.refl _⟩
  · cases h; exact ⟨rfl, (fun vs e => by cases e), Ref.refl _⟩
  · cases h; exact ⟨rfl, (fun vs e => by cases e), Ref.refl _⟩
  · cases h; exact ⟨rfl, (fun vs e => by cases e), wbc _ _ _⟩
  · cases h; exact ⟨rfl, (fun vs e => by cases e), Ref.refl _⟩
  · cases h
def Js (t : Ty) : TS → Option t.D
  | .v d => d.as t
  | .c v => ofC t v
  | _ => none
def zco {α : Type} (f : TS → Option α) (ag : Bool) (w : Nat) : Nat → List TS → Option (List α)
  | 0, [] => some []
  | 0, _ => none
  | n + 1, xs => match Jt 512 w xs with
    | none => none
    | some r => match f (Yd ag r.1) with
      | none => none
      | some a => match zco f ag w n r.2 with
        | none => none
        | some l => some (a :: l)
def Yl (s : TS) : Option (List TS) := match zou s with
  | true => zfd s
  | false => none
def zvx {α : Type} (n : Nat) : Option (List α) → Option (Arr n α)
  | some l => match h : Nat.beq l.length n with
    | true => some ⟨l, wb2 h⟩
    | false => none
  | none => none
mutual
def toT : (t : Ty) → TS → Option t.D
  | .int k, s => Js (.int k) s
  | .bool, s => Js .bool s
  | .str, s => Js .str s
  | .sl t, s => Js (.sl t) s
  | .ref t, s => match s with
    | .rd d => match d.as t with
      | some x => some (some x)
      | none => none
    | s => Js (.ref t) s
  | .nil, s => none
  | .cons _ _, s => none
  | .st r, s => match Js (.st r) s with
    | some x => some x
    | none => match Yl s with
      | some xs => toR r xs
      | none => none
  | .arr n t, s => match Js (.arr n t) s with
    | some x => some x
    | none => match Yl s with
      | some xs => zvx n (zco (toT t) (zq t) (wid t) n xs)
      | none => none
  | .tup r, s => match s with
    | .tup xs => toL r xs
    | s => Js (.tup r) s
def toR : (r : Ty) → List TS → Option r.D
  | .nil, [] => some ()
  | .cons a r, xs => match Jt 512 (wid a) xs with
    | none => none
    | some q => match toT a (Yd (zq a) q.1) with
      | none => none
      | some x => match toR r q.2 with
        | none => none
        | some y => some (x, y)
  | _, _ => none
def toL : (r : Ty) → List TS → Option r.D
  | .nil, [] => some ()
  | .cons a r, x :: xs => match toT a x with
    | none => none
    | some p => match toL r xs with
      | none => none
      | some y => some (p, y)
  | _, _ => none
end
def TOk (s : TS) (t : Ty) (x : t.D) : Prop := RefL s.den.cells (je t x) ∧ Ref s.den (enc t x)
theorem Qs {t : Ty} {s : TS} {x : t.D} (h : Js t s = some x) : TOk s t x := by
  unfold Js at h
  split at h
  · rename_i d
    have := wac h
    subst this
    unfold TOk
    simp only [TS.den, qc]
    exact ⟨RefL.refl _, Ref.refl _⟩
  · rename_i v
    obtain ⟨h1, h2, h3⟩ := ofC_ok h
    have e : ofV v = .u v := by cases v <;> first | rfl | exact absurd rfl (h2 _)
    unfold TOk
    simp only [TS.den]
    rw [e]
    refine ⟨?_, h3⟩
    have e2 : je t x = [enc t x] := by
      have h5 := jn t x
      rw [Z4 h1] at h5
      unfold enc mkV
      rw [h1]
      match hc : je t x, h5 with
      | [c], _ => rfl
    rw [e2]
    exact RefL.cons h3 RefL.nil
  · cases h
theorem Qg {ag : Bool} {xs : List TS} (h : Yd ag xs ≠ .dead) : (Yd ag xs).den.cells = jo xs := by
  unfold Yd at h ⊢
  cases ag with
  | true =>
    simp only at h ⊢
    split
    · rename_i x
      split
      · simp only [jo, wcl]
      · simp only [TS.den, PV.cells]
    · simp only [TS.den, PV.cells]
  | false =>
    simp only at h ⊢
    split at h
    · rename_i x hx0
      rw [← zap xs, hx0]
      split at h
      · rename_i hx
        simp only [jo, wcl, hx]
      · rename_i hx
        split at h
        · rename_i l hcs hy
          have h2 := zg7 h
          have h3 : (zp8 l).den.cells = [(zp8 l).den] := Jj h2.1
          simp only [hx, hcs, hy, h3]
          simp only [jo, wcl, Zd hy hcs, PV.cells, h2.2]
        · exact absurd rfl h
    · exact absurd rfl h
theorem zrs (t : Ty) : toT t .dead = none := by cases t <;> simp [toT, Js, Yl, zou, zfd]
theorem ztq {t : Ty} {f : TS → Option t.D} (hf : ∀ s x, f s = some x → TOk s t x) (hd : f .dead = none) : ∀ (n : Nat) (xs : List TS) (l : List t.D), zco f (zq t) (wid t) n xs = some l → RefL (jo xs) (l.flatMap (je t))
  | 0, [], l, h => by simp only [zco] at h; cases h; simp only [jo, wel]; exact RefL.nil
  | 0, _ :: _, l, h => by simp [zco] at h
  | n + 1, xs, l, h => by
    simp only [zco] at h
    split at h <;> try (cases h; done)
    rename_i r hr
    split at h <;> try (cases h; done)
    rename_i a ha
    split at h <;> try (cases h; done)
    rename_i l' hl
    cases h
    obtain ⟨h1, h2⟩ := zd _ _ _ _ hr
    have hnd : Yd (zq t) r.1 ≠ .dead := fun e => by rw [e, hd] at ha; cases ha
    have h3 := (hf _ _ ha).1
    rw [Qg hnd] at h3
    rw [wci, ← h1]
    exact RefL.append h3 (ztq hf hd n r.2 l' hl)
theorem zms {α : Type} {n : Nat} {o : Option (List α)} {v : Arr n α} (h : zvx n o = some v) : o = some v.l := by
  unfold zvx at h
  split at h
  · split at h <;> cases h
    rfl
  · cases h
theorem zay {s : TS} {xs : List TS} (h : Yl s = some xs) : s.den = .agg (jo xs) := by
  unfold Yl at h
  split at h
  · exact Zd h (by assumption)
  · cases h
mutual
theorem Qr : ∀ (t : Ty) (s : TS) (x : t.D), toT t s = some x → TOk s t x
  | .int k, s, x, h => Qs (by simpa only [toT] using h)
  | .bool, s, x, h => Qs (by simpa only [toT] using h)
  | .str, s, x, h => Qs (by simpa only [toT] using h)
  | .sl t, s, x, h => Qs (by simpa only [toT] using h)
  | .ref t, s, x, h => by
    simp only [toT] at h
    split at h
    · rename_i d
      split at h <;> cases h
      rename_i y hy
      have := wac hy
      subst this
      unfold TOk
      simp only [TS.den]
      exact ⟨RefL.refl _, Ref.refl _⟩
    · exact Qs h
  | .nil, s, x, h => by simp [toT] at h
  | .cons _ _, s, x, h => by simp [toT] at h
  | .st r, s, x, h => by
    simp only [toT] at h
    split at h
    · cases h; exact Qs (by assumption)
    · split at h <;> try (cases h; done)
      rename_i xs hp
      have h1 := z02 r xs x h
      unfold TOk
      rw [zay hp]
      exact ⟨h1, Ref.agg h1⟩
  | .arr n t, s, x, h => by
    simp only [toT] at h
    split at h
    · cases h; exact Qs (by assumption)
    · split at h <;> try (cases h; done)
      rename_i xs hp
      have h1 := ztq (fun s x => Qr t s x) (zrs t) _ _ _ (zms h)
      unfold TOk
      rw [zay hp]
      exact ⟨h1, Ref.agg h1⟩
  | .tup r, s, x, h => by
    simp only [toT] at h
    split at h
    · rename_i xs
      have h1 := zzk r xs x h
      unfold TOk
      simp only [TS.den]
      exact ⟨RefL.cons (Ref.tup h1) RefL.nil, Ref.tup h1⟩
    · exact Qs h
theorem z02 : ∀ (r : Ty) (xs : List TS) (x : r.D), toR r xs = some x → RefL (jo xs) (je r x)
  | .nil, xs, x, h => by
    cases xs with
    | nil => simp only [jo, je]; exact RefL.nil
    | cons _ _ => simp [toR] at h
  | .cons a r, xs, x, h => by
    simp only [toR] at h
    split at h <;> try (cases h; done)
    rename_i q hq
    split at h <;> try (cases h; done)
    rename_i p hp
    split at h <;> try (cases h; done)
    rename_i y hy
    cases h
    obtain ⟨h1, h2⟩ := zd _ _ _ _ hq
    have hnd : Yd (zq a) q.1 ≠ .dead := fun e => by rw [e, zrs] at hp; cases hp
    have h3 := (Qr a _ _ hp).1
    rw [Qg hnd] at h3
    simp only [je]
    rw [← h1]
    exact RefL.append h3 (z02 r q.2 y hy)
  | .int k, xs, x, h => by simp [toR] at h
  | .bool, xs, x, h => by simp [toR] at h
  | .str, xs, x, h => by simp [toR] at h
  | .sl t, xs, x, h => by simp [toR] at h
  | .ref t, xs, x, h => by simp [toR] at h
  | .st r, xs, x, h => by simp [toR] at h
  | .arr n t, xs, x, h => by simp [toR] at h
  | .tup r, xs, x, h => by simp [toR] at h
theorem zzk : ∀ (r : Ty) (xs : List TS) (x : r.D), toL r xs = some x → RefL (q8 xs) (q5 r (je r x))
  | .nil, xs, x, h => by
    cases xs with
    | nil => simp only [q8, q5]; exact RefL.nil
    | cons _ _ => simp [toL] at h
  | .cons a r, xs, x, h => by
    cases xs with
    | nil => simp [toL] at h
    | cons z xs =>
      simp only [toL] at h
      split at h <;> try (cases h; done)
      rename_i p hp
      split at h <;> try (cases h; done)
      rename_i y hy
      cases h
      simp only [q8, je, q5]
      have hl := jn a p
      rw [wed hl, wdp hl]
      exact RefL.cons (Qr a z p hp).2 (zzk r xs y hy)
  | .int k, xs, x, h => by simp [toL] at h
  | .bool, xs, x, h => by simp [toL] at h
  | .str, xs, x, h => by simp [toL] at h
  | .sl t, xs, x, h => by simp [toL] at h
  | .ref t, xs, x, h => by simp [toL] at h
  | .st r, xs, x, h => by simp [toL] at h
  | .arr n t, xs, x, h => by simp [toL] at h
  | .tup r, xs, x, h => by simp [toL] at h
end
inductive RK where
  | mp (kt vt : Ty)
  | si
@[reducible] def RK.ty : RK → Ty
  | .mp kt vt => .sl (.st (.cons kt (.cons vt .nil)))
  | .si => .st (.cons .str (.cons (.int .i64) .nil))
def RK.eqB : RK → RK → Bool
  | .mp a b, .mp c d => a.eqB c && b.eqB d
  | .si, .si => true
  | _, _ => false
theorem wa1 {a b : RK} (h : a.eqB b = true) : a = b := by
  cases a <;> cases b <;> simp only [RK.eqB] at h <;> first | cases h; done | skip
  · simp only [wb6] at h
    rw [Ty.eqB_eq h.1, Ty.eqB_eq h.2]
  · rfl
def RK.dflt : (k : RK) → k.ty.D
  | .mp _ _ => []
  | .si => ([], 0, ())
def uV : PV → Value
  | .u v => v
  | _ => undef
def oVs (t : Ty) (x : t.D) : List Value := (je t x).map uV
def oV (t : Ty) (x : t.D) : Value := match zq t with
  | true => .agg (oVs t x).toArray
  | false => (oVs t x).headD undef
def plT : Ty → Bool
  | .int _ => true
  | .bool => true
  | .str => true
  | .arr _ t => plT t
  | .nil => true
  | .cons a r => plT a && plT r
  | .st r => plT r
  | _ => false
theorem zme : ∀ (t : Ty) (x : t.D), plT t = true → ∀ c ∈ je t x, c = .u (uV c)
  | .int k, x, h, c, hc => by simp only [je, wcb] at hc; subst hc; rfl
  | .bool, x, h, c, hc => by simp only [je, wcb] at hc; subst hc; rfl
  | .str, x, h, c, hc => by simp only [je, wcb] at hc; subst hc; rfl
  | .sl _, x, h, c, hc => by simp [plT] at h
  | .ref _, x, h, c, hc => by simp [plT] at h
  | .arr n t, x, h, c, hc => by
    simp only [plT] at h
    simp only [je] at hc
    obtain ⟨y, _, hy⟩ := wcu.1 hc
    exact zme t y h c hy
  | .nil, x, h, c, hc => by simp [je] at hc
  | .cons a r, x, h, c, hc => by
    simp only [plT, wb6] at h
    simp only [je, wcr] at hc
    rcases hc with hc | hc
    · exact zme a x.1 h.1 c hc
    · exact zme r x.2 h.2 c hc
  | .st r, x, h, c, hc => by
    simp only [plT] at h
    simp only [je] at hc
    exact zme r x h c hc
  | .tup _, x, h, c, hc => by simp [plT] at h
theorem zlv (t : Ty) (x : t.D) (h : plT t = true) : enc t x = ofV (oV t x) := by
  have hu := zme t x h
  unfold enc mkV oV
  cases ha : zq t with
  | true =>
    simp only [ofV, oVs, wc7]
    congr 1
    refine (List.ext_getElem (by simp) fun i h1 h2 => ?_)
    simp only [List.getElem_map, Function.comp]
    exact hu _ (wei h1)
  | false =>
    simp only
    have hl := jn t x
    rw [Z4 ha] at hl
    match hc : je t x, hl with
    | [c], _ =>
      have := hu c (by rw [hc]; simp)
      simp only [List.headD_cons, oVs, hc, wcj, wdh]
      cases t <;> first
        | (simp only [je, weo, and_true] at hc; subst hc; rfl)
        | (simp [plT] at h; done)
        | (simp [zq] at ha; done)
def RK.den : (k : RK) → k.ty.D → PBody
  | .mp kt vt, l => zxr (l.map fun e => (oV kt e.1, oV vt e.2.1))
  | .si, x => .raw true [] fun _ o _ => o = .stringIter ⟨⟨x.1⟩⟩ x.2.1.toNat
theorem RK.den_raw (k : RK) (x : k.ty.D) : ∃ p φ, k.den x = .raw p [] φ := by
  cases k
  · exact ⟨_, _, rfl⟩
  · exact ⟨_, _, rfl⟩
abbrev Hole := Option Nat
inductive BD where
  | row (tid : TypeId) (t : Ty) (l : List t.D)   -- elements that are told
  | rowx (tid : TypeId) (k : Nat) (xs : List TS) -- elements, one by one
  | box (tid : TypeId) (xs : List TS)            -- parts
  | obj (k : RK) (x : k.ty.D)                    -- no cells
  | que (tid : TypeId) (t : Ty) (l : List t.D)   -- a row's elements from one on
  | rows (tid it : TypeId) (t : Ty) (l : List (List t.D)) (kv : Nat) (h : Hole) -- elements that are own rows
  | mrows (kt : Ty) (it : TypeId) (t : Ty) (es : List (kt.D × List t.D × Unit)) (kv : Nat) (h : Hole) -- a map of own rows
  | iter (mid mver : Nat) (mask : List Bool) (last : Option Nat) -- a walk over such a map
def Hole.is (h : Hole) (j : Nat) : Bool := match h with
  | some x => Nat.beq j x
  | none => false
def Hole.cell (i v : Nat) (h : Hole) (j : Nat) : PV := match h.is j with
  | true => .unk
  | false => .ps (.c i j) v
def BD.den (i v : Nat) : BD → PBody
  | .row tid t l => .row tid (wid t) l.length (l.flatMap (je t))
  | .rowx tid k xs => .row tid k xs.length (jo xs)
  | .box tid xs => .box tid (jo xs)
  | .obj k x => k.den x
  | .que tid t l => .que tid (wid t) l.length (l.flatMap (je t))
  | .rows tid _ _ l _ h => .row tid 1 l.length ((range l.length).map (h.cell i v))
  | .mrows kt _ _ es _ h => y6 (es.map fun e => oV kt e.1) (range es.length) es.length ((range es.length).map (h.cell i v))
  | .iter mid mver mask last => itB (.o mid) mver mask last
def BD.ch : BD → Nat → Option PBody
  | .rows _ it t l _ h, j => match h.is j with
    | true => none
    | false => (l[j]?).map fun r => .row it (wid t) r.length (r.flatMap (je t))
  | .mrows _ it t es _ h, j => match h.is j with
    | true => none
    | false => (es[j]?).map fun e => .row it (wid t) e.2.1.length (e.2.1.flatMap (je t))
  | _, _ => none
def BD.kv : BD → Nat
  | .rows _ _ _ _ k _ => k
  | .mrows _ _ _ _ k _ => k
  | _ => 0
def BD.flat : BD → Bool
  | .rows _ _ _ _ _ _ => false
  | .mrows _ _ _ _ _ _ => false
  | _ => true
structure GB where
  ver : Nat
  b : Option BD
def GB.cv (x : GB) : Nat := match x.b with
  | some b => x.ver + b.kv
  | none => x.ver
def GB.flat (x : GB) : Bool := match x.b with
  | some b => b.flat
  | none => true
abbrev EF := Nat → TS
abbrev EG := Nat → GB
def EF.put (E : EF) (d : Option Nat) (s : TS) : EF := fun t => match d with
  | none => E t
  | some d => match Nat.beq d t with
    | true => s
    | false => E t
def waj : EG := fun _ => ⟨0, none⟩
def EG.set (G : EG) (id : Nat) (x : GB) : EG := fun i => match Nat.beq i id with
  | true => x
  | false => G i
def v6 (E : EF) : PFrame := fun t => (E t).den
def qr (i : Nat) (x : GB) : zd4 := ⟨x.ver, x.b.map (BD.den i x.cv)⟩
def Qp (x : GB) (j : Nat) : zd4 := ⟨x.cv, x.b.bind fun b => b.ch j⟩
theorem way {x : GB} (h : x.flat = true) : x.cv = x.ver := by
  obtain ⟨ver, b⟩ := x
  cases b with
  | none => rfl
  | some b => cases b <;> first | rfl | cases h
theorem GB.ver_le (x : GB) : x.ver ≤ x.cv := by
  obtain ⟨ver, b⟩ := x
  cases b with
  | none => exact wb7 _
  | some b => exact Nat.le_add_right _ _
theorem zhy {x : GB} (h : x.flat = true) (j : Nat) : Qp x j = ⟨x.ver, none⟩ := by
  unfold Qp
  rw [way h]
  obtain ⟨ver, b⟩ := x
  cases b with
  | none => rfl
  | some b => cases b <;> first | rfl | cases h
def qd (G : EG) (R : PHeap) : PHeap
  | .o i => qr i (G i)
  | .c i j => Qp (G i) j
  | .r x => R x
def ym (x : GB) : Nm → zd4
  | .o i => qr i x
  | .c _ j => Qp x j
  | .r _ => ⟨0, none⟩
theorem z2s {G : EG} {R : PHeap} {k : Nm} {i : Nat} (h : k.rt = some i) : qd G R k = ym (G i) k := by
  cases k <;> cases h <;> rfl
theorem zde (E : EF) (d : Option Nat) (s : TS) : v6 (E.put d s) = (v6 E).put d s.den := by
  funext t
  unfold v6 EF.put PFrame.put
  cases d with
  | none => simp
  | some d =>
    simp only
    by_cases e : d = t
    · subst e; simp
    · have : Nat.beq d t = false := by cases h : Nat.beq d t; rfl; exact absurd (wb2 h) e
      rw [this]
      simp [e]
def zcj (H : PHeap) (id : Nat) (x : GB) : PHeap := fun k => if k.rt = some id then ym x k else H k
theorem zs5 (G : EG) (R : PHeap) (id : Nat) (x : GB) : qd (G.set id x) R = zcj (qd G R) id x := by
  funext k
  unfold zcj EG.set
  cases k with
  | o i => by_cases e : i = id
           · subst e; simp [Nm.rt, qd, ym]
           · have : Nat.beq i id = false := by cases h : Nat.beq i id; rfl; exact absurd (wb2 h) e
             simp [Nm.rt, qd, ym, e, this]
  | c i j => by_cases e : i = id
             · subst e; simp [Nm.rt, qd, ym]
             · have : Nat.beq i id = false := by cases h : Nat.beq i id; rfl; exact absurd (wb2 h) e
               simp [Nm.rt, qd, ym, e, this]
  | r x => simp [Nm.rt, qd]
def evE (E : EF) : Operand → TS
  | .tmp t => E t
  | .const v => .c v
  | .global _ => .dead
  | .func f => .fn (.func f) [] []
theorem zkh (E : EF) (x : Operand) : evP (v6 E) x = (evE E x).den := by
  cases x <;> simp only [evP, evE, v6, TS.den, q8]
inductive HS where
  | v (t : Ty)
  | rd (t : Ty)
  | own (X : Nat)
  | pt (X off : Nat)
  | dead
  | ci (k : IntKind) (z : Int)
  | cb (b : Bool)
  | fn (f : FuncId) (a b : List HS)
  | agg (xs : List HS)
  | tup (xs : List HS)
inductive HB where
  | row (tid : TypeId) (t : Ty)
  | rowx (tid : TypeId) (k : Nat) (xs : List HS)
  | box (tid : TypeId) (xs : List HS)
  | obj (k : RK)
  | que (tid : TypeId) (t : Ty)
  | rows (tid it : TypeId) (t : Ty)
  | mrows (kt : Ty) (it : TypeId) (t : Ty)
  | iter (X : Nat)
structure LH where
  slots : List (Nat × HS)
  heap : List (Nat × HB)
  nx : Nat
inductive MV where
  | id (i ver : Nat)
  | nil
def zxx : Value → Bool
  | .slice none 0 0 => true
  | _ => false
theorem zkp {v : Value} (h : zxx v = true) : v = .slice none 0 0 := by
  unfold zxx at h
  split at h
  · rfl
  · cases h
mutual
def z1z : HS → Nat
  | .v t => wid t
  | .agg xs => z4w xs
  | _ => 1
def z4w : List HS → Nat
  | [] => 0
  | h :: hs => z1z h + z4w hs
end
def zmx : HS → Bool
  | .v t => zq t
  | .agg _ => true
  | _ => false
abbrev PR := List Dyn × List (Nat × MV)
def wad (a b : PR) : PR := (a.1 ++ b.1, a.2 ++ b.2)
def zxp (a b : Option PR) : Option PR := match a with
  | none => none
  | some x => match b with
    | none => none
    | some y => some (wad x y)
theorem Vt {a b : Option PR} {r : PR} (h : zxp a b = some r) : ∃ x y, a = some x ∧ b = some y ∧ r = wad x y := by
  unfold zxp at h
  split at h <;> try (cases h; done)
  split at h <;> cases h
  exact ⟨_, _, rfl, rfl, rfl⟩
mutual
def y4 : HS → TS → Option PR
  | .v t, s => match toT t s with
    | some x => some ([⟨t, x⟩], [])
    | none => none
  | .rd t, s => match s with
    | .rd d => match d.as t with
      | some x => some ([⟨t, x⟩], [])
      | none => none
    | _ => none
  | .own X, s => match s with
    | .own id ver => some ([], [(X, .id id ver)])
    | .c v => match zxx v with
      | true => some ([], [(X, .nil)])
      | false => none
    | _ => none
  | .pt X off, s => match s with
    | .pt id off' ver => match Nat.beq off off' with
      | true => some ([], [(X, .id id ver)])
      | false => none
    | _ => none
  | .dead, _ => some ([], [])
  | .ci k z, s => match s with
    | .c (.int k' z') => match (Ty.int k).eqB (.int k') && decide (z = z') with
      | true => some ([], [])
      | false => none
    | _ => none
  | .cb b, s => match s with
    | .c (.bool b') => match b == b' with
      | true => some ([], [])
      | false => none
    | _ => none
  | .fn f a b, s => match s with
    | .fn (.func f') a' b' => match Nat.beq f f' with
      | true => zxp (Q3 a a') (Q3 b b')
      | false => none
    | _ => none
  | .agg hs, s => match Yl s with
    | some xs => Q5 hs xs
    | none => none
  | .tup hs, s => match s with
    | .tup xs => Q3 hs xs
    | _ => none
def Q3 : List HS → List TS → Option PR
  | [], [] => some ([], [])
  | h :: hs, x :: xs => zxp (y4 h x) (Q3 hs xs)
  | _, _ => none
def Q5 : List HS → List TS → Option PR
  | [], [] => some ([], [])
  | h :: hs, xs => match Jt 512 (z1z h) xs with
    | none => none
    | some q => match Yd (zmx h) q.1 with
      | .dead => none
      | s => zxp (y4 h s) (Q5 hs q.2)
  | [], _ :: _ => none
end
mutual
def ze6 : HS → Nat
  | .v _ => 1
  | .rd _ => 1
  | .fn _ a b => V8 a + V8 b
  | .agg xs => V8 xs
  | .tup xs => V8 xs
  | _ => 0
def V8 : List HS → Nat
  | [] => 0
  | h :: hs => ze6 h + V8 hs
end
def nth (ds : List Dyn) (i : Nat) : Dyn := ds.getD i ⟨.nil, ()⟩
mutual
def unT (ds : List Dyn) : HS → Nat → TS
  | .v _, j => .v (nth ds j)
  | .rd _, j => .rd (nth ds j)
  | .own X, _ => .own X 1
  | .pt X off, _ => .pt X off 1
  | .dead, _ => .dead
  | .ci k z, _ => .c (.int k z)
  | .cb b, _ => .c (.bool b)
  | .fn f a b, j => .fn (.func f) (zck ds a j) (zck ds b (j + V8 a))
  | .agg xs, j => .agg (zck ds xs j)
  | .tup xs, j => .tup (zck ds xs j)
def zck (ds : List Dyn) : List HS → Nat → List TS
  | [], _ => []
  | h :: hs, j => unT ds h j :: zck ds hs (j + ze6 h)
end
def z4u : PR := ([], [])
def NmOk (b : Nat) : Nm → Prop
  | .o i => i < b
  | .c _ _ => False
  | .r _ => True
inductive NmAll (S : Nm → Nat → Prop) : PV → Prop
  | noP {p : PV} (h : NoP p) : NmAll S p
  | unk : NmAll S .unk
  | ps {i : Nm} {ver : Nat} (h : S i ver) : NmAll S (.ps i ver)
  | qs {i : Nm} {off k ver : Nat} (h : S i ver) : NmAll S (.qs i off k ver)
  | pp {i : Nm} {off ver : Nat} (h : S i ver) : NmAll S (.pp i off ver)
  | fn {f : Fn} {x y : List PV} (hx : ∀ p ∈ x, NmAll S p) (hy : ∀ p ∈ y, NmAll S p) : NmAll S (.fn f x y)
  | agg {xs : List PV} (h : ∀ p ∈ xs, NmAll S p) : NmAll S (.agg xs)
  | tup {xs : List PV} (h : ∀ p ∈ xs, NmAll S p) : NmAll S (.tup xs)
abbrev IdOk (b : Nat) := NmAll fun i _ => NmOk b i
abbrev Fl := NmAll fun _ _ => True
theorem NmAll.mono {S T : Nm → Nat → Prop} (hs : ∀ i v, S i v → T i v) {p : PV} (h : NmAll S p) : NmAll T p := by
  induction h with
  | noP h => exact .noP h
  | unk => exact .unk
  | ps h => exact .ps (hs _ _ h)
  | qs h => exact .qs (hs _ _ h)
  | pp h => exact .pp (hs _ _ h)
  | fn _ _ ih1 ih2 => exact .fn ih1 ih2
  | agg _ ih => exact .agg ih
  | tup _ ih => exact .tup ih
theorem IdOk.fl {b : Nat} {p : PV} (h : IdOk b p) : Fl p := NmAll.mono (fun _ _ _ => trivial) h
theorem NmAll.cells {S : Nm → Nat → Prop} {p : PV} (h : NmAll S p) : ∀ c ∈ p.cells, NmAll S c := by
  cases h with
  | noP h => exact fun c hc => .noP (h.cell hc)
  | agg h => exact h
  | unk => intro c hc; simp only [PV.cells, wcb] at hc; subst hc; exact .unk
  | ps h => intro c hc; simp only [PV.cells, wcb] at hc; subst hc; exact .ps h
  | qs h => intro c hc; simp only [PV.cells, wcb] at hc; subst hc; exact .qs h
  | pp h => intro c hc; simp only [PV.cells, wcb] at hc; subst hc; exact .pp h
  | fn hx hy => intro c hc; simp only [PV.cells, wcb] at hc; subst hc; exact .fn hx hy
  | tup h => intro c hc; simp only [PV.cells, wcb] at hc; subst hc; exact .tup h
theorem zbi (v : Value) : NoP (ofV v) := by
  cases v <;> first
    | exact .u _
    | (refine .agg _ fun c hc => ?_
       obtain ⟨z, _, rfl⟩ := wcf.1 hc
       exact .u z)
mutual
theorem Jv : ∀ s : TS, Fl s.den
  | .v d => by simp only [TS.den]; exact .noP (Qw _ _)
  | .c v => by simp only [TS.den]; exact .noP (zbi v)
  | .own _ _ => by simp only [TS.den]; exact .ps trivial
  | .q _ _ _ _ => by simp only [TS.den]; exact .qs trivial
  | .pt _ _ _ => by simp only [TS.den]; exact .pp trivial
  | .elt _ _ _ _ _ => by simp only [TS.den]; exact .pp trivial
  | .kid _ _ _ => by simp only [TS.den]; exact .ps trivial
  | .kel _ _ _ _ _ _ => by simp only [TS.den]; exact .pp trivial
  | .rd d => by simp only [TS.den]; exact .noP (.rp _ (q7 _ _))
  | .dead => by simp only [TS.den]; exact .unk
  | .fn f a b => by simp only [TS.den]; exact .fn (zfw a) (zfw b)
  | .agg xs => by simp only [TS.den]; exact .agg (zfa xs)
  | .tup xs => by simp only [TS.den]; exact .tup (zfw xs)
theorem zfw : ∀ xs : List TS, ∀ p ∈ q8 xs, Fl p
  | [], p, h => by simp [q8] at h
  | x :: xs, p, h => by
    simp only [q8, wck] at h
    rcases h with rfl | h
    · exact Jv x
    · exact zfw xs p h
theorem zfa : ∀ xs : List TS, ∀ p ∈ jo xs, Fl p
  | [], p, h => by simp [jo] at h
  | x :: xs, p, h => by
    simp only [jo, wcr] at h
    rcases h with h | h
    · exact (Jv x).cells p h
    · exact zfa xs p h
end
def FlB (x : zd4) : Prop := ∀ bd, x.body = some bd → ∀ c ∈ bd.cs, Fl c
theorem BD_fl (i v : Nat) (b : BD) : ∀ c ∈ (b.den i v).cs, Fl c := fun c hc => by
  have flat : ∀ {t : Ty} {l : List t.D}, c ∈ l.flatMap (je t) → Fl c := fun {t l} h => by
    obtain ⟨x, _, hx⟩ := wcu.1 h
    exact .noP (q7 t x c hx)
  have cell : ∀ {n : Nat} {h : Hole}, c ∈ (range n).map (h.cell i v) → Fl c := fun {n h} hm => by
    obtain ⟨j, _, rfl⟩ := wcf.1 hm
    unfold Hole.cell
    split
    · exact .unk
    · exact .ps trivial
  cases b with
  | row tid t l => exact flat hc
  | rowx tid k xs => exact zfa xs c hc
  | box tid xs => exact zfa xs c hc
  | obj k x => cases k <;> simp [BD.den, RK.den, zxr, PBody.cs] at hc
  | que tid t l => exact flat hc
  | rows tid it t l kv h => exact cell hc
  | mrows kt it t es kv h => exact cell hc
  | iter mid mver n seen => simp only [BD.den, itB, PBody.cs, wcb] at hc; subst hc; exact .ps trivial
theorem zwh (i : Nat) (x : GB) : FlB (qr i x) := fun bd h c hc => by
  unfold qr at h
  obtain ⟨b, _, rfl⟩ := wca.1 h
  exact BD_fl i _ b c hc
theorem zv0 {b : BD} {j : Nat} {bd : PBody} (h : b.ch j = some bd) : ∀ c ∈ bd.cs, NoP c := by
  have key : ∀ {it : TypeId} {t : Ty} {r : List t.D}, PBody.row it (wid t) r.length (r.flatMap (je t)) = bd → ∀ c ∈ bd.cs, NoP c := fun {it t r} e c hc => by
    subst e
    obtain ⟨x, _, hx⟩ := wcu.1 hc
    exact q7 t x c hx
  unfold BD.ch at h
  split at h <;> try (cases h; done)
  all_goals
    split at h <;> try (cases h; done)
    obtain ⟨r, _, e⟩ := wca.1 h
    exact key e
theorem zv4 (x : GB) (j : Nat) : FlB (Qp x j) := fun bd h c hc => by
  unfold Qp at h
  obtain ⟨b, _, h⟩ := wda.1 h
  exact .noP (zv0 h c hc)
theorem z2b (x : GB) (k : Nm) : FlB (ym x k) := by
  cases k with
  | o i => exact zwh i x
  | c i j => exact zv4 x j
  | r y => intro bd h; cases h
structure FlW (W : Env) (F : PFrame) (H : PHeap) : Prop where
  g : ∀ i, Fl (W.G i)
  f : ∀ t, Fl (F t)
  h : ∀ k, FlB (H k)
section
variable {Z : ZM} {H H' : PHeap} {V V' : Nm → Value} {w : World} {b : Nat}
theorem Rp.keep {S : Nm → Nat → Prop} {p : PV} {v : Value} (h : Rp Z H V w p v) (hi : NmAll S p)
    (hz : ∀ c, c < w.heap.size → ¬ PZ Z H V c → ¬ PZ Z H' V' c)
    (hk : ∀ i ver, S i ver → ver ≤ (H i).ver → ver ≤ (H' i).ver ∧ ((H' i).body.isSome = true → (H' i).ver = ver → (H i).body.isSome = true ∧ (H i).ver = ver ∧ V' i = V i)) : Rp Z H' V' w p v := by
  induction hi generalizing v with
  | noP hn => exact Rp.noP h hn hz
  | unk => exact .unk v
  | ps hb =>
    cases h with | ps _ _ _ hv h => exact .ps _ _ v (hk _ _ hb hv).1 fun h3 h4 => by obtain ⟨a, b, c⟩ := (hk _ _ hb hv).2 h3 h4; rw [c]; exact h a b
  | qs hb =>
    cases h with | qs _ _ _ _ _ hv h => exact .qs _ _ _ _ v (hk _ _ hb hv).1 fun h3 h4 => by obtain ⟨a, b, c⟩ := (hk _ _ hb hv).2 h3 h4; rw [c]; exact h a b
  | pp hb =>
    cases h with | pp _ _ _ _ hv h => exact .pp _ _ _ v (hk _ _ hb hv).1 fun h3 h4 => by obtain ⟨a, b, c⟩ := (hk _ _ hb hv).2 h3 h4; rw [c]; exact h a b
  | fn _ _ ih1 ih2 =>
    cases h with | fn _ _ _ va vb hla hlb ha hb' => exact .fn _ _ _ va vb hla hlb (fun i p v h1 h2 => ih1 p (wb8 h1) (ha i p v h1 h2)) (fun i p v h1 h2 => ih2 p (wb8 h1) (hb' i p v h1 h2))
  | agg _ ih => cases h with | agg _ vs hl h => exact .agg _ vs hl fun i p v h1 h2 => ih p (wb8 h1) (h i p v h1 h2)
  | tup _ ih => cases h with | tup _ vs hl h => exact .tup _ vs hl fun i p v h1 h2 => ih p (wb8 h1) (h i p v h1 h2)
def zy6 (Z : ZM) (H H' : PHeap) (V V' : Nm → Value) (w : World) (X : Nat) : MV → Prop
  | .id i ver => (∀ v, Rp Z H V w (.ps (.o i) ver) v → Rp Z H' V' w (.ps (.o X) 1) v) ∧ ∀ off v, Rp Z H V w (.pp (.o i) off ver) v → Rp Z H' V' w (.pp (.o X) off 1) v
  | .nil => Rp Z H' V' w (.ps (.o X) 1) (.slice none 0 0)
theorem zgk {a c : List Dyn} {d : Dyn} {ds : List Dyn} (h : ds = a ++ d :: c) : nth ds a.length = d := by subst h; unfold nth; simp
theorem RpL.append {ps qs : List PV} {vs us : List Value} (h1 : RpL Z H V w ps vs) (h2 : RpL Z H V w qs us) : RpL Z H V w (ps ++ qs) (vs ++ us) := ⟨by simp [h1.1, h2.1], fun i p v h3 h4 => by
  by_cases hi : i < ps.length
  · rw [wcc hi] at h3
    rw [wcc (by rw [← h1.1]; exact hi)] at h4
    exact h1.2 i p v h3 h4
  · rw [wce (by omega)] at h3
    rw [wce (by rw [← h1.1]; omega), ← h1.1] at h4
    exact h2.2 _ p v h3 h4⟩
theorem RpL.split {ps qs : List PV} {vs : List Value} (h : RpL Z H V w (ps ++ qs) vs) : RpL Z H V w ps (vs.take ps.length) ∧ RpL Z H V w qs (vs.drop ps.length) := by
  have hl := h.1
  simp at hl
  refine ⟨⟨by simp; omega, fun i p v h3 h4 => ?_⟩, ⟨by simp; omega, fun i p v h3 h4 => ?_⟩⟩
  · have hi := (wb3.1 h3).1
    refine h.2 i p v (by rw [wcc hi]; exact h3) ?_
    rw [wc6, if_pos hi] at h4; exact h4
  · refine h.2 (ps.length + i) p v (by rw [wce (by omega), wdg]; exact h3) ?_
    rw [wcv] at h4; exact h4
theorem zys {xs : List PV} {v : Value} (h : Rp Z H V w (.agg xs) v) : ∃ vs : Array Value, v = .agg vs ∧ RpL Z H V w xs vs.toList := by
  cases h with
  | agg _ vs hl h => exact ⟨vs, rfl, by simpa using hl, fun i p u h1 h2 => h i p u h1 (by simpa using h2)⟩
theorem zoz {xs : List PV} {vs : Array Value} (h : RpL Z H V w xs vs.toList) : Rp Z H V w (.agg xs) (.agg vs) := .agg _ _ (by simpa using h.1) fun i p v h1 h2 => h.2 i p v h1 (by simpa using h2)
theorem z1u {s t : TS} (hc : ∀ v, Rp Z H V w s.den v → Rp Z H' V' w t.den v) (hs : zw s = zw t) {vs : List Value} (h : RpL Z H V w s.den.cells vs) : RpL Z H' V' w t.den.cells vs := by
  cases hp : zw s
  · have e1 := Jj hp
    have e2 := Jj (hs ▸ hp)
    rw [e1] at h
    rw [e2]
    match vs, h with
    | [v], h => exact ⟨rfl, fun i p' u h3 h4 => by
        cases i with
        | zero => simp at h3 h4; subst h3 h4; exact hc _ (h.2 0 _ v rfl rfl)
        | succ i => simp at h3⟩
    | [], h => have := h.1; simp at this
    | _ :: _ :: _, h => have := h.1; simp at this
  · have e1 := Zp hp
    have e2 := Zp (hs ▸ hp)
    have h1 : Rp Z H V w s.den (.agg vs.toArray) := by rw [e1]; exact zoz (by simpa using h)
    have := hc _ h1
    rw [e2] at this
    obtain ⟨us, e, h2⟩ := zys this
    cases e
    simpa using h2
theorem zy1 {ds pre post : List Dyn} {h : HS} {s : TS} {r : PR} (hp : y4 h s = some r) (hds : ds = pre ++ r.1 ++ post) (hd : h ≠ .dead) : zw (unT ds h pre.length) = zmx h := by
  cases h with
  | v t =>
    simp only [y4] at hp
    split at hp <;> cases hp
    rename_i x hx
    simp only [unT, zw, zmx]
    rw [zgk (a := pre) (c := post) (d := ⟨t, x⟩) (by rw [hds]; simp)]
  | dead => exact absurd rfl hd
  | _ => simp only [unT, zw, zmx]
def TreeOk (Z : ZM) (H H' : PHeap) (V V' : Nm → Value) (w : World) (ds : List Dyn) (h : HS) (s : TS) (r : PR) (j : Nat) : Prop :=
  r.1.length = ze6 h ∧ (∀ v, Rp Z H V w s.den v → Rp Z H' V' w (unT ds h j).den v)
theorem z15 {s : TS} {xs : List TS} (h : Yl s = some xs) {v : Value} (hv : Rp Z H V w s.den v) : ∃ vs : Array Value, v = .agg vs ∧ RpL Z H V w (jo xs) vs.toList := by
  rw [zay h] at hv
  exact zys hv
mutual
theorem zuq (hT : ∀ p v, NoP p → Rp Z H V w p v → Rp Z H' V' w p v) (ds : List Dyn) : ∀ (h : HS) (s : TS) (r : PR) (pre post : List Dyn), y4 h s = some r → ds = pre ++ r.1 ++ post → (∀ m ∈ r.2, zy6 Z H H' V V' w m.1 m.2) → TreeOk Z H H' V V' w ds h s r pre.length
  | .v t, s, r, pre, post, hp, hds, hg => by
    simp only [y4] at hp
    split at hp <;> cases hp
    rename_i x hx
    refine ⟨rfl, fun v hv => ?_⟩
    simp only [unT, TS.den]
    rw [zgk (a := pre) (c := post) (d := ⟨t, x⟩) (by rw [hds]; simp)]
    exact hT _ _ (Qw _ _) ((Qr _ _ _ hx).2 _ _ _ _ _ hv)
  | .rd t, s, r, pre, post, hp, hds, hg => by
    simp only [y4] at hp
    split at hp <;> try (cases hp; done)
    rename_i d
    split at hp <;> cases hp
    rename_i x hx
    have := wac hx
    subst this
    refine ⟨rfl, fun v hv => ?_⟩
    simp only [unT, TS.den] at hv ⊢
    rw [zgk (a := pre) (c := post) (d := ⟨t, x⟩) (by rw [hds]; simp)]
    exact hT _ _ (.rp _ (q7 _ _)) hv
  | .own X, s, r, pre, post, hp, hds, hg => by
    simp only [y4] at hp
    split at hp <;> try (cases hp; done)
    · rename_i id ver
      cases hp
      refine ⟨rfl, fun v hv => ?_⟩
      simp only [unT, TS.den] at hv ⊢
      exact (hg (X, .id id ver) (by simp)).1 v hv
    · split at hp <;> cases hp
      rename_i v0 hn
      refine ⟨rfl, fun v hv => ?_⟩
      rw [zkp hn] at hv
      simp only [TS.den, ofV] at hv
      cases hv
      simp only [unT, TS.den]
      exact hg (X, .nil) (by simp)
  | .pt X off, s, r, pre, post, hp, hds, hg => by
    simp only [y4] at hp
    split at hp <;> try (cases hp; done)
    rename_i id off' ver
    split at hp <;> cases hp
    rename_i ho
    have := wb2 ho
    subst this
    refine ⟨rfl, fun v hv => ?_⟩
    simp only [unT, TS.den] at hv ⊢
    exact (hg (X, .id id ver) (by simp)).2 off v hv
  | .dead, s, r, pre, post, hp, hds, hg => by
    simp only [y4] at hp
    cases hp
    exact ⟨rfl, fun v _ => by simp only [unT, TS.den]; exact .unk v⟩
  | .ci k z, s, r, pre, post, hp, hds, hg => by
    simp only [y4] at hp
    split at hp <;> try (cases hp; done)
    split at hp <;> cases hp
    rename_i hb
    simp only [wb6, wc9] at hb
    have h1 := Ty.eqB_eq hb.1
    have h2 := hb.2
    cases h1; subst h2
    refine ⟨rfl, fun v hv => ?_⟩
    simp only [unT]
    exact hT _ _ (by simp only [TS.den]; exact zbi _) hv
  | .cb b, s, r, pre, post, hp, hds, hg => by
    simp only [y4] at hp
    split at hp <;> try (cases hp; done)
    split at hp <;> cases hp
    rename_i hb
    have h2 := eq_of_beq hb
    subst h2
    refine ⟨rfl, fun v hv => ?_⟩
    simp only [unT]
    exact hT _ _ (by simp only [TS.den]; exact zbi _) hv
  | .fn f a b, s, r, pre, post, hp, hds, hg => by
    simp only [y4] at hp
    split at hp <;> try (cases hp; done)
    rename_i f' a' b'
    split at hp <;> try (cases hp; done)
    rename_i hf
    have := wb2 hf
    subst this
    obtain ⟨x, y, hx, hy, rfl⟩ := Vt hp
    simp only [wad] at hds hg
    have k1 := zko hT ds a a' x pre (y.1 ++ post) hx (by rw [hds]; simp) (fun m hm => hg m (by simp [hm]))
    have k2 := zko hT ds b b' y (pre ++ x.1) post hy (by rw [hds]; simp) (fun m hm => hg m (by simp [hm]))
    have el : (pre ++ x.1).length = pre.length + V8 a := by simp [k1.1]
    rw [el] at k2
    refine ⟨by simp [wad, ze6, k1.1, k2.1], fun v hv => ?_⟩
    simp only [TS.den, unT] at hv ⊢
    cases hv with
    | fn _ _ _ va vb hla hlb h1 h2 =>
      have r1 := k1.2 va.toList ⟨by simpa using hla, fun i p v h3 h4 => h1 i p v h3 (by simpa using h4)⟩
      have r2 := k2.2 vb.toList ⟨by simpa using hlb, fun i p v h3 h4 => h2 i p v h3 (by simpa using h4)⟩
      exact .fn _ _ _ _ _ (by simpa using r1.1) (by simpa using r2.1) (fun i p v h3 h4 => r1.2 i p v h3 (by simpa using h4)) (fun i p v h3 h4 => r2.2 i p v h3 (by simpa using h4))
  | .agg hs, s, r, pre, post, hp, hds, hg => by
    simp only [y4] at hp
    split at hp <;> try (cases hp; done)
    rename_i xs hx
    have k := zkm hT ds hs xs r pre post hp hds hg
    refine ⟨by simp [ze6, k.1], fun v hv => ?_⟩
    obtain ⟨vs, rfl, h1⟩ := z15 hx hv
    simp only [unT, TS.den]
    exact zoz (k.2 _ h1)
  | .tup hs, s, r, pre, post, hp, hds, hg => by
    simp only [y4] at hp
    split at hp <;> try (cases hp; done)
    rename_i xs
    have k := zko hT ds hs xs r pre post hp hds hg
    refine ⟨by simp [ze6, k.1], fun v hv => ?_⟩
    simp only [unT, TS.den] at hv ⊢
    cases hv with
    | tup _ vs hl hh =>
      have := k.2 vs.toList ⟨by simpa using hl, fun i p v h3 h4 => hh i p v h3 (by simpa using h4)⟩
      exact .tup _ vs (by simpa using this.1) (fun i p v h3 h4 => this.2 i p v h3 (by simpa using h4))
theorem zko (hT : ∀ p v, NoP p → Rp Z H V w p v → Rp Z H' V' w p v) (ds : List Dyn) : ∀ (hs : List HS) (xs : List TS) (r : PR) (pre post : List Dyn), Q3 hs xs = some r → ds = pre ++ r.1 ++ post → (∀ m ∈ r.2, zy6 Z H H' V V' w m.1 m.2) → r.1.length = V8 hs ∧ ∀ vs, RpL Z H V w (q8 xs) vs → RpL Z H' V' w (q8 (zck ds hs pre.length)) vs
  | [], xs, r, pre, post, hp, hds, hg => by
    cases xs with
    | nil => simp only [Q3] at hp; cases hp; exact ⟨rfl, fun vs h => by simp only [zck, q8] at h ⊢; exact ⟨h.1, fun i p v h1 => by simp at h1⟩⟩
    | cons _ _ => simp [Q3] at hp
  | h :: hs, xs, r, pre, post, hp, hds, hg => by
    cases xs with
    | nil => simp [Q3] at hp
    | cons x xs =>
      simp only [Q3] at hp
      obtain ⟨q, y, hx, hy, rfl⟩ := Vt hp
      simp only [wad] at hds hg
      have k1 := zuq hT ds h x q pre (y.1 ++ post) hx (by rw [hds]; simp) (fun m hm => hg m (by simp [hm]))
      have k2 := zko hT ds hs xs y (pre ++ q.1) post hy (by rw [hds]; simp) (fun m hm => hg m (by simp [hm]))
      have el : (pre ++ q.1).length = pre.length + ze6 h := by simp [k1.1]
      rw [el] at k2
      refine ⟨by simp [wad, V8, k1.1, k2.1], fun vs hv => ?_⟩
      simp only [q8, zck] at hv ⊢
      match vs, hv with
      | [], hv => have := hv.1; simp at this
      | u :: vs, hv =>
        have h2 := k2.2 vs ⟨by have := hv.1; simpa using this, fun i p v h3 h4 => hv.2 (i + 1) p v (by simpa using h3) (by simpa using h4)⟩
        have h1 := k1.2 u (hv.2 0 _ u rfl rfl)
        refine ⟨by simp [h2.1], fun i p v h3 h4 => ?_⟩
        cases i with
        | zero => simp at h3 h4; subst h3 h4; exact h1
        | succ i => exact h2.2 i p v (by simpa using h3) (by simpa using h4)
theorem zkm (hT : ∀ p v, NoP p → Rp Z H V w p v → Rp Z H' V' w p v) (ds : List Dyn) : ∀ (hs : List HS) (xs : List TS) (r : PR) (pre post : List Dyn), Q5 hs xs = some r → ds = pre ++ r.1 ++ post → (∀ m ∈ r.2, zy6 Z H H' V V' w m.1 m.2) → r.1.length = V8 hs ∧ ∀ vs, RpL Z H V w (jo xs) vs → RpL Z H' V' w (jo (zck ds hs pre.length)) vs
  | [], xs, r, pre, post, hp, hds, hg => by
    cases xs with
    | nil => simp only [Q5] at hp; cases hp; exact ⟨rfl, fun vs h => by simp only [zck, jo] at h ⊢; exact ⟨h.1, fun i p v h1 => by simp at h1⟩⟩
    | cons _ _ => simp [Q5] at hp
  | h :: hs, xs, r, pre, post, hp, hds, hg => by
    simp only [Q5] at hp
    split at hp <;> try (cases hp; done)
    rename_i q0 hq0
    split at hp <;> try (cases hp; done)
    rename_i hnd
    obtain ⟨q, y, hx, hy, rfl⟩ := Vt hp
    simp only [wad] at hds hg
    have k1 := zuq hT ds h _ q pre (y.1 ++ post) hx (by rw [hds]; simp) (fun m hm => hg m (by simp [hm]))
    have k2 := zkm hT ds hs q0.2 y (pre ++ q.1) post hy (by rw [hds]; simp) (fun m hm => hg m (by simp [hm]))
    have el : (pre ++ q.1).length = pre.length + ze6 h := by simp [k1.1]
    rw [el] at k2
    refine ⟨by simp [wad, V8, k1.1, k2.1], fun vs hv => ?_⟩
    obtain ⟨s1, s2⟩ := zd _ _ _ _ hq0
    rw [← s1] at hv
    obtain ⟨v1, v2⟩ := RpL.split hv
    simp only [zck, jo]
    have e := Qg hnd
    have r1 : RpL Z H' V' w (unT ds h pre.length).den.cells (vs.take (jo q0.1).length) := by
      by_cases hdd : h = .dead
      · subst hdd
        simp only [unT, TS.den, PV.cells]
        have hl := v1.1
        rw [s2] at hl
        simp only [z1z] at hl
        rw [s2]
        simp only [z1z]
        refine ⟨by simpa using hl, fun i p v h3 h4 => ?_⟩
        cases i with
        | zero => simp at h3; subst h3; exact .unk v
        | succ i => simp at h3
      · by_cases hag : zw (Yd (zmx h) q0.1) = zmx h
        · rw [← e] at v1
          rw [← e]
          exact z1u k1.2 (by rw [hag, zy1 (post := y.1 ++ post) hx (by rw [hds]; simp) hdd]) v1
        · exfalso
          cases hb : zmx h
          · rw [hb] at hag hx hnd
            have h1 : zw (Yd false q0.1) = true := by cases h5 : zw (Yd false q0.1); exact absurd h5 hag; rfl
            unfold Yd at h1
            simp only at h1
            split at h1
            · split at h1
              · rename_i h6; rw [h6] at h1; cases h1
              · split at h1
                · rename_i l hcs hy
                  by_cases h2 : zp8 l = .dead
                  · rw [h2] at h1; simp [zw] at h1
                  · rw [(zg7 h2).1] at h1; cases h1
                · simp [zw] at h1
            · simp [zw] at h1
          · rw [hb] at hag
            apply hag
            unfold Yd
            simp only
            split
            · split
              · assumption
              · rfl
            · rfl
    have := RpL.append r1 (k2.2 _ v2)
    rwa [wd2] at this
end
end
theorem V9 : ∀ t : Ty, t.eqB t = true
  | .int k => by cases k <;> rfl
  | .bool => rfl
  | .str => rfl
  | .sl t => by simp only [Ty.eqB]; exact V9 t
  | .ref t => by simp only [Ty.eqB]; exact V9 t
  | .arr n t => by simp only [Ty.eqB, V9 t, wdm, Bool.and_self]
  | .nil => rfl
  | .cons a r => by simp only [Ty.eqB, V9 a, V9 r, Bool.and_self]
  | .st r => by simp only [Ty.eqB]; exact V9 r
  | .tup r => by simp only [Ty.eqB]; exact V9 r
theorem zsk (ds : List Dyn) : ∀ (hs : List HS) (j : Nat), (zck ds hs j).length = hs.length
  | [], j => by simp only [zck, wdj]
  | h :: hs, j => by simp only [zck, wc1, zsk ds hs]
theorem wae {Z Z' : ZM} {H H' : PHeap} {V V' : Nm → Value} {w w' : World} {cs : List PV} {vs : List Value} (h : RpL Z H V w cs vs) (hm : ∀ c ∈ cs, ∀ v, Rp Z H V w c v → Rp Z' H' V' w' c v) : RpL Z' H' V' w' cs vs := ⟨h.1, fun i p v h1 h2 => hm p (wb8 h1) v (h.2 i p v h1 h2)⟩
def MV.eqB : MV → MV → Bool
  | .id i v, .id j u => Nat.beq i j && Nat.beq v u
  | .nil, .nil => true
  | _, _ => false
theorem wbr {a b : MV} (h : a.eqB b = true) : a = b := by
  cases a <;> cases b <;> simp only [MV.eqB] at h <;> try (cases h; done)
  · simp only [wb6] at h
    rw [wb2 h.1, wb2 h.2]
  · rfl
def Vo : List (Nat × MV) → Nat → Option MV
  | [], _ => none
  | m :: r, X => match Nat.beq m.1 X with
    | true => some m.2
    | false => Vo r X
theorem zab {a c : List (Nat × MV)} {X : Nat} {m : MV} (h : Vo a X = some m) : Vo (a ++ c) X = some m := by
  induction a with
  | nil => simp [Vo] at h
  | cons x a ih =>
    simp only [Vo, wd8] at h ⊢
    cases hb : Nat.beq x.1 X <;> rw [hb] at h <;> simp only at h ⊢
    · exact ih h
    · exact h
theorem ju {a b : Nat} (h : Nat.beq a b = true) : a = b := wb2 h
def zbr (t : Ty) : List TS → Option (List t.D)
  | [] => some []
  | x :: xs => match toT t x with
    | none => none
    | some a => match zbr t xs with
      | none => none
      | some l => some (a :: l)
@[reducible] def mty (kt t : Ty) : Ty := .sl (.st (.cons kt (.cons (.sl t) .nil)))
def zod : HB → BD → Option PR
  | .row tid t, .row tid' t' l => match Nat.beq tid tid' with
    | true => match Dyn.as ⟨.sl t', l⟩ (.sl t) with
      | some x => some ([⟨.sl t, x⟩], [])
      | none => none
    | false => none
  | .row tid t, .rowx tid' k xs => match Nat.beq tid tid' && Nat.beq k (wid t) with
    | true => match zbr t xs with
      | some x => some ([⟨.sl t, x⟩], [])
      | none => none
    | false => none
  | .rowx tid k hs, .rowx tid' k' xs => match Nat.beq tid tid' && Nat.beq k k' && Nat.beq hs.length xs.length with
    | true => Q5 hs xs
    | false => none
  | .box tid hs, .box tid' xs => match Nat.beq tid tid' with
    | true => Q5 hs xs
    | false => none
  | .obj k, .obj k' x => match k.eqB k' with
    | true => match Dyn.as ⟨k'.ty, x⟩ k.ty with
      | some y => some ([⟨k.ty, y⟩], [])
      | none => none
    | false => none
  | .que tid t, .que tid' t' l => match Nat.beq tid tid' with
    | true => match Dyn.as ⟨.sl t', l⟩ (.sl t) with
      | some x => some ([⟨.sl t, x⟩], [])
      | none => none
    | false => none
  | .que tid t, .row tid' t' l => match Nat.beq tid tid' with
    | true => match Dyn.as ⟨.sl t', l⟩ (.sl t) with
      | some x => some ([⟨.sl t, x⟩], [])
      | none => none
    | false => none
  | .rows tid it t, .rows tid' it' t' l _ none => match Nat.beq tid tid' && Nat.beq it it' with
    | true => match Dyn.as ⟨.sl (.sl t'), l⟩ (.sl (.sl t)) with
      | some x => some ([⟨.sl (.sl t), x⟩], [])
      | none => none
    | false => none
  | .mrows kt it t, .mrows kt' it' t' l _ none => match Nat.beq it it' with
    | true => match Dyn.as ⟨mty kt' t', l⟩ (mty kt t) with
      | some x => some ([⟨mty kt t, x⟩], [])
      | none => none
    | false => none
  | .iter X, .iter mid mver mask _ => some ([⟨.sl .bool, mask⟩], [(X, .id mid mver)])
  | _, _ => none
def z3e : HB → Nat
  | .row _ _ => 1
  | .rowx _ _ hs => V8 hs
  | .box _ hs => V8 hs
  | .obj _ => 1
  | _ => 1
def getD (ds : List Dyn) (t : Ty) (j : Nat) (x : t.D) : t.D := match (nth ds j).as t with
  | some y => y
  | none => x
def unB (ds : List Dyn) : HB → Nat → BD
  | .row tid t, j => .row tid t (getD ds (.sl t) j [])
  | .rowx tid k hs, j => .rowx tid k (zck ds hs j)
  | .box tid hs, j => .box tid (zck ds hs j)
  | .obj k, j => .obj k (getD ds k.ty j k.dflt)
  | .que tid t, j => .que tid t (getD ds (.sl t) j [])
  | .rows tid it t, j => .rows tid it t (getD ds (.sl (.sl t)) j []) 0 none
  | .mrows kt it t, j => .mrows kt it t (getD ds (mty kt t) j []) 0 none
  | .iter X, j => .iter X 1 (getD ds (.sl .bool) j []) none
def z2a : HB → Option Dyn
  | .row _ t => some ⟨.sl t, []⟩
  | .que _ t => some ⟨.sl t, []⟩
  | .rows _ _ t => some ⟨.sl (.sl t), []⟩
  | _ => none
def zkw (E : EF) : List (Nat × HS) → Option PR
  | [] => some z4u
  | h :: hs => zxp (y4 h.2 (E h.1)) (zkw E hs)
def ziy : List (Nat × HS) → Nat
  | [] => 0
  | h :: hs => ze6 h.2 + ziy hs
def zw1 (ds : List Dyn) : List (Nat × HS) → Nat → Nat → TS
  | [], _, _ => .dead
  | h :: hs, j, i => match Nat.beq i h.1 with
    | true => unT ds h.2 j
    | false => zw1 ds hs (j + ze6 h.2) i
def zhx (G : EG) : List (Nat × HB) → List (Nat × MV) → Option PR
  | [], _ => some z4u
  | e :: r, mp => match Vo mp e.1 with
    | some (.id i ver) => match Nat.beq (G i).ver ver with
      | true => match (G i).b with
        | some bd => match zod e.2 bd with
          | some x => match zhx G r (mp ++ x.2) with
            | some y => some (wad x y)
            | none => none
          | none => none
        | none => none
      | false => none
    | some .nil => match z2a e.2 with
      | some d => match zhx G r mp with
        | some y => some (d :: y.1, y.2)
        | none => none
      | none => none
    | none => none
def zi3 (ds : List Dyn) : List (Nat × HB) → Nat → Nat → Option BD
  | [], _, _ => none
  | e :: r, j, X => match Nat.beq e.1 X with
    | true => some (unB ds e.2 j)
    | false => zi3 ds r (j + z3e e.2) X
def unE (h : LH) (ds : List Dyn) : EF := zw1 ds h.slots 0
def unG (h : LH) (ds : List Dyn) : EG := fun X => match zi3 ds h.heap (ziy h.slots) X with
  | some bd => ⟨1, some bd⟩
  | none => ⟨0, none⟩
def inH (L : List (Nat × HB)) (X : Nat) : Bool := L.any fun e => Nat.beq e.1 X
def z35 (L : List (Nat × HB)) (full : List (Nat × MV)) : List (Nat × MV) → Bool
  | [] => true
  | m :: r => (match Vo full m.1 with
    | some x => x.eqB m.2
    | none => false) && inH L m.1 && z35 L full r
def zoe (mp : List (Nat × MV)) : List (Nat × HB) → List Nat → Bool
  | [], _ => true
  | e :: r, seen => match Vo mp e.1 with
    | some (.id i _) => !(seen.any (Nat.beq i)) && zoe mp r (i :: seen)
    | _ => zoe mp r seen
def mp0 : Nat → List (Nat × MV)
  | 0 => []
  | b + 1 => (b, .id b 1) :: mp0 b
def z1m (b : Nat) (h : LH) (E : EF) (G : EG) : Option PR := match zkw E h.slots with
  | none => none
  | some x => match zhx G h.heap (mp0 b ++ x.2) with
    | none => none
    | some y => match mp0 b ++ x.2 ++ y.2 with
      | full => match z35 h.heap full full && zoe full h.heap [] with
        | true => some (x.1 ++ y.1, full)
        | false => none
theorem zoq {L : List (Nat × HB)} {full : List (Nat × MV)} : ∀ {l : List (Nat × MV)}, z35 L full l = true → ∀ m ∈ l, Vo full m.1 = some m.2 ∧ inH L m.1 = true
  | [], _, m, hm => by cases hm
  | e :: r, h, m, hm => by
    simp only [z35, wb6] at h
    rcases wck.1 hm with rfl | hm
    · cases hl : Vo full m.1 with
      | none => rw [hl] at h; simp at h
      | some x => rw [hl] at h; exact ⟨by rw [wbr h.1.1], h.1.2⟩
    · exact zoq h.2 m hm
theorem z23 {b i : Nat} (h : i < b) : (i, MV.id i 1) ∈ mp0 b := by
  induction b with
  | zero => omega
  | succ b ih =>
    simp only [mp0, wck]
    by_cases e : i = b
    · subst e; exact .inl rfl
    · exact .inr (ih (by omega))
theorem zew {mp : List (Nat × MV)} : ∀ {L : List (Nat × HB)} {seen : List Nat}, zoe mp L seen = true →
    (∀ e ∈ L, ∀ i v, Vo mp e.1 = some (.id i v) → i ∉ seen) ∧ ∀ e ∈ L, ∀ f ∈ L, ∀ i v u, Vo mp e.1 = some (.id i v) → Vo mp f.1 = some (.id i u) → e.1 = f.1
  | [], seen, h => ⟨fun e he => (by cases he), fun e he => (by cases he)⟩
  | a :: L, seen, h => by
    simp only [zoe] at h
    have hne : ∀ {i : Nat} {l : List Nat}, (!(l.any (Nat.beq i))) = true → i ∉ l := fun {i l} h hm => by
      simp only [wc5, List.any_eq_false] at h
      exact h i hm (wdm i)
    have other : ∀ {seen' : List Nat}, zoe mp L seen' = true → (∀ i v, Vo mp a.1 ≠ some (.id i v)) → (∀ e ∈ a :: L, ∀ i v, Vo mp e.1 = some (.id i v) → i ∉ seen') ∧ ∀ e ∈ a :: L, ∀ f ∈ a :: L, ∀ i v u, Vo mp e.1 = some (.id i v) → Vo mp f.1 = some (.id i u) → e.1 = f.1 := fun {seen'} h hn => by
      obtain ⟨h1, h2⟩ := zew (L := L) h
      refine ⟨fun e he i v hi => ?_, fun e he f hf i v u hi hj => ?_⟩
      · rcases wck.1 he with rfl | he
        · exact absurd hi (hn i v)
        · exact h1 e he i v hi
      · rcases wck.1 he with rfl | he
        · exact absurd hi (hn i v)
        · rcases wck.1 hf with rfl | hf
          · exact absurd hj (hn i u)
          · exact h2 e he f hf i v u hi hj
    cases hl : Vo mp a.1 with
    | none => rw [hl] at h; exact other h (fun i v e => by rw [hl] at e; cases e)
    | some m =>
      rw [hl] at h
      cases m with
      | nil => exact other h (fun i v e => by rw [hl] at e; cases e)
      | id i0 v0 =>
        simp only [wb6] at h
        obtain ⟨hs, h⟩ := h
        obtain ⟨h1, h2⟩ := zew (L := L) h
        refine ⟨fun e he i v hi => ?_, fun e he f hf i v u hi hj => ?_⟩
        · rcases wck.1 he with he' | he'
          · rw [he', hl] at hi; cases hi; exact hne hs
          · exact fun hm => h1 e he' i v hi (by simp [hm])
        · rcases wck.1 he with he' | he'
          · rcases wck.1 hf with hf' | hf'
            · rw [he', hf']
            · rw [he', hl] at hi; cases hi
              exact absurd (wec ..) (h1 f hf' _ u hj)
          · rcases wck.1 hf with hf' | hf'
            · rw [hf', hl] at hj; cases hj
              exact absurd (wec ..) (h1 e he' _ v hi)
            · exact h2 e he' f hf' i v u hi hj
mutual
theorem zhs : ∀ (h : HS) (s : TS) (r : PR), y4 h s = some r → r.1.length = ze6 h
  | .v t, s, r, hp => by
    simp only [y4] at hp
    split at hp <;> cases hp
    rfl
  | .rd t, s, r, hp => by
    simp only [y4] at hp
    split at hp <;> try (cases hp; done)
    split at hp <;> cases hp
    rfl
  | .own X, s, r, hp => by
    simp only [y4] at hp
    split at hp <;> try (cases hp; done)
    · cases hp; rfl
    · split at hp <;> cases hp
      rfl
  | .pt X off, s, r, hp => by
    simp only [y4] at hp
    split at hp <;> try (cases hp; done)
    split at hp <;> cases hp
    rfl
  | .dead, s, r, hp => by simp only [y4] at hp; cases hp; rfl
  | .ci k z, s, r, hp => by
    simp only [y4] at hp
    split at hp <;> try (cases hp; done)
    split at hp <;> cases hp
    rfl
  | .cb b, s, r, hp => by
    simp only [y4] at hp
    split at hp <;> try (cases hp; done)
    split at hp <;> cases hp
    rfl
  | .fn f a b, s, r, hp => by
    simp only [y4] at hp
    split at hp <;> try (cases hp; done)
    split at hp <;> try (cases hp; done)
    obtain ⟨x, y, hx, hy, rfl⟩ := Vt hp
    simp [wad, ze6, za3 a _ x hx, za3 b _ y hy]
  | .agg hs, s, r, hp => by
    simp only [y4] at hp
    split at hp <;> try (cases hp; done)
    simp only [ze6]
    exact zes hs _ r hp
  | .tup hs, s, r, hp => by
    simp only [y4] at hp
    split at hp <;> try (cases hp; done)
    simp only [ze6]
    exact za3 hs _ r hp
theorem za3 : ∀ (hs : List HS) (xs : List TS) (r : PR), Q3 hs xs = some r → r.1.length = V8 hs
  | [], xs, r, hp => by
    cases xs with
    | nil => simp only [Q3] at hp; cases hp; rfl
    | cons _ _ => simp [Q3] at hp
  | h :: hs, xs, r, hp => by
    cases xs with
    | nil => simp [Q3] at hp
    | cons x xs =>
      simp only [Q3] at hp
      obtain ⟨q, y, hx, hy, rfl⟩ := Vt hp
      simp [wad, V8, zhs h x q hx, za3 hs xs y hy]
theorem zes : ∀ (hs : List HS) (xs : List TS) (r : PR), Q5 hs xs = some r → r.1.length = V8 hs
  | [], xs, r, hp => by
    cases xs with
    | nil => simp only [Q5] at hp; cases hp; rfl
    | cons _ _ => simp [Q5] at hp
  | h :: hs, xs, r, hp => by
    simp only [Q5] at hp
    split at hp <;> try (cases hp; done)
    split at hp <;> try (cases hp; done)
    obtain ⟨q, y, hx, hy, rfl⟩ := Vt hp
    simp [wad, V8, zhs h _ q hx, zes hs _ y hy]
end
theorem zx0 {hb : HB} {bd : BD} {r : PR} (h : zod hb bd = some r) : r.1.length = z3e hb := by
  unfold zod at h
  split at h <;> first
    | (cases h; done)
    | (split at h <;> first | (cases h; done) | (split at h <;> cases h; rfl) | exact zes _ _ _ h)
    | (cases h; rfl)
def zwb (G : EG) (full : List (Nat × MV)) (ds : List Dyn) (X : Nat) (hb : HB) (nb : BD) : Prop :=
  (∃ i ver bd x pre post, Vo full X = some (.id i ver) ∧ (G i).ver = ver ∧ (G i).b = some bd ∧ zod hb bd = some x ∧ ds = pre ++ x.1 ++ post ∧ (∀ m ∈ x.2, m ∈ full) ∧ nb = unB ds hb pre.length) ∨
  (Vo full X = some .nil ∧ ∃ d pre post, z2a hb = some d ∧ ds = pre ++ d :: post ∧ nb = unB ds hb pre.length)
theorem zox {G : EG} {full : List (Nat × MV)} {ds : List Dyn} : ∀ (L : List (Nat × HB)) (mp : List (Nat × MV)) (r : PR) (rest : List (Nat × MV)) (pre post : List Dyn), zhx G L mp = some r → full = mp ++ r.2 ++ rest → ds = pre ++ r.1 ++ post →
    (∀ X nb, zi3 ds L pre.length X = some nb → ∃ hb, (X, hb) ∈ L ∧ zwb G full ds X hb nb) ∧ ∀ X, inH L X = true → ∃ nb, zi3 ds L pre.length X = some nb
  | [], mp, r, rest, pre, post, h, hf, hd => ⟨fun X nb hn => by simp [zi3] at hn, fun X hX => by simp [inH] at hX⟩
  | e :: L, mp, r, rest, pre, post, h, hf, hd => by
    obtain ⟨Y, hb⟩ := e
    simp only [zhx] at h
    have step : ∀ {x : PR} {y : PR} {mp' : List (Nat × MV)} {rest' : List (Nat × MV)}, x.1.length = z3e hb → zhx G L mp' = some y → full = mp' ++ y.2 ++ rest' → ds = pre ++ x.1 ++ (y.1 ++ post) → zwb G full ds Y hb (unB ds hb pre.length) →
        (∀ X nb, zi3 ds ((Y, hb) :: L) pre.length X = some nb → ∃ hb', (X, hb') ∈ (Y, hb) :: L ∧ zwb G full ds X hb' nb) ∧ ∀ X, inH ((Y, hb) :: L) X = true → ∃ nb, zi3 ds ((Y, hb) :: L) pre.length X = some nb := by
      intro x y mp' rest' hxl hy hf' hd' hent
      have el : (pre ++ x.1).length = pre.length + z3e hb := by simp [hxl]
      obtain ⟨k1, k2⟩ := zox (ds := ds) L mp' y rest' (pre ++ x.1) post hy hf' (by rw [hd']; simp)
      rw [el] at k1 k2
      refine ⟨fun X nb hn => ?_, fun X hX => ?_⟩
      · simp only [zi3] at hn
        split at hn
        · rename_i hb2
          cases hn
          have := ju hb2
          subst this
          exact ⟨hb, wec .., hent⟩
        · obtain ⟨hb', m1, m2⟩ := k1 X nb hn
          exact ⟨hb', weh _ m1, m2⟩
      · simp only [zi3]
        simp only [inH, List.any_cons, Bool.or_eq_true] at hX
        split
        · exact ⟨_, rfl⟩
        · rename_i hb2
          rcases hX with hX | hX
          · rw [hb2] at hX; cases hX
          · exact k2 X hX
    split at h <;> try (cases h; done)
    · rename_i i ver hl
      split at h <;> try (cases h; done)
      rename_i hv
      split at h <;> try (cases h; done)
      rename_i bd hG
      split at h <;> try (cases h; done)
      rename_i x hx
      split at h <;> try (cases h; done)
      rename_i y hy
      cases h
      simp only [wad] at hf hd
      refine step (rest' := rest) (zx0 hx) hy (by rw [hf]; simp) (by rw [hd]; simp) (.inl ⟨i, ver, bd, x, pre, y.1 ++ post, ?_, ju hv, hG, hx, by rw [hd]; simp, fun m hm => by rw [hf]; simp [hm], rfl⟩)
      rw [hf]; exact zab (zab hl)
    · rename_i hl
      split at h <;> try (cases h; done)
      rename_i d hn
      split at h <;> try (cases h; done)
      rename_i y hy
      cases h
      refine step (rest' := rest) (x := ([d], [])) ?_ hy (by rw [hf]) (by rw [hd]; simp) (.inr ⟨by rw [hf]; exact zab (zab hl), d, pre, y.1 ++ post, hn, by rw [hd]; simp, rfl⟩)
      cases hb <;> first | (cases hn; done) | rfl
theorem zht {E : EF} {ds : List Dyn} : ∀ (L : List (Nat × HS)) (r : PR) (pre post : List Dyn), zkw E L = some r → ds = pre ++ r.1 ++ post → r.1.length = ziy L ∧ ∀ i, zw1 ds L pre.length i = .dead ∨ ∃ s q pre' post', y4 s (E i) = some q ∧ ds = pre' ++ q.1 ++ post' ∧ (∀ m ∈ q.2, m ∈ r.2) ∧ zw1 ds L pre.length i = unT ds s pre'.length
  | [], r, pre, post, h, hd => by simp only [zkw] at h; cases h; exact ⟨rfl, fun i => .inl (by simp only [zw1])⟩
  | e :: L, r, pre, post, h, hd => by
    simp only [zkw] at h
    obtain ⟨q, y, hx, hy, rfl⟩ := Vt h
    simp only [wad] at hd
    have hl := zhs _ _ _ hx
    have el : (pre ++ q.1).length = pre.length + ze6 e.2 := by simp [hl]
    obtain ⟨k1, k2⟩ := zht (ds := ds) L y (pre ++ q.1) post hy (by rw [hd]; simp)
    rw [el] at k2
    refine ⟨by simp [wad, ziy, hl, k1], fun i => ?_⟩
    simp only [zw1]
    split
    · rename_i hb
      have := ju hb
      subst this
      exact .inr ⟨e.2, q, pre, y.1 ++ post, hx, by rw [hd]; simp, fun m hm => by simp [wad, hm], rfl⟩
    · rcases k2 i with h1 | ⟨s, q', pre', post', h1, h2, h3, h4⟩
      · exact .inl h1
      · exact .inr ⟨s, q', pre', post', h1, h2, fun m hm => by simp [wad, h3 m hm], h4⟩
def V2 (mp : List (Nat × MV)) (V : Nm → Value) : Nm → Value
  | .o X => match Vo mp X with
    | some (.id i _) => V (.o i)
    | some .nil => .slice none 0 0
    | none => V (.o X)
  | .c X j => match Vo mp X with
    | some (.id i _) => V (.c i j)
    | _ => V (.c X j)
  | .r x => V (.r x)
def RestOk (b : Nat) (R : PHeap) : Prop := ∀ i bd, (R i).body = some bd → ∀ c ∈ bd.cs, IdOk b c
def GhOk (b : Nat) (W : Env) : Prop := ∀ i, IdOk b (W.G i)
theorem zbb {t : Ty} : ∀ {xs : List TS} {l : List t.D}, zbr t xs = some l → RefL (jo xs) (l.flatMap (je t)) ∧ l.length = xs.length
  | [], l, h => by simp only [zbr] at h; cases h; simp only [jo, wel]; exact ⟨RefL.nil, rfl⟩
  | x :: xs, l, h => by
    simp only [zbr] at h
    split at h <;> try (cases h; done)
    rename_i a ha
    split at h <;> try (cases h; done)
    rename_i l' hl
    cases h
    obtain ⟨h1, h2⟩ := zbb hl
    refine ⟨?_, by simp [h2]⟩
    simp only [jo, wci]
    exact RefL.append (Qr t x a ha).1 h1
theorem zqb {Z : ZM} {H1 H2 : PHeap} {V1 V2 : Nm → Value} (hl : ∀ id g, (H2 id).body.isSome = true → jv (V2 id) = some g → ∃ i, (H1 i).body.isSome = true ∧ V2 id = V1 i) {c : Nat} (h : ¬ PZ Z H1 V1 c) : ¬ PZ Z H2 V2 c := by
  rintro (h2 | ⟨id, h2, h3⟩)
  · exact h (.inl h2)
  · obtain ⟨i, h4, e⟩ := hl id c h2 h3
    exact h (.inr ⟨i, h4, by rw [← e]; exact h3⟩)
theorem HRel.ren {P : Program} {W W2 : Env} {H1 H2 : PHeap} {V1 V2 : Nm → Value} {w : World} (hr : HRel P W H1 V1 w) (σ : Nm → Nm) (hw : W2.w = W.w) (hZ : W2.Z = W.Z) (hg : ∀ i, Rp W.Z H2 V2 w (W2.G i) (W2.gv i))
    (hl : ∀ id bd, (H2 id).body = some bd → (V2 id = .slice none 0 0 ∧ bd.Is w W.w.heap.size (.slice none 0 0) [] ∧ bd.cs = []) ∨ ∃ bd1, (H1 (σ id)).body = some bd1 ∧ V2 id = V1 (σ id) ∧ ∀ vs, bd1.Is w W.w.heap.size (V1 (σ id)) vs → RpL W.Z H1 V1 w bd1.cs vs → bd.Is w W.w.heap.size (V1 (σ id)) vs ∧ RpL W.Z H2 V2 w bd.cs vs)
    (hi : ∀ id id' g, (H2 id).body.isSome = true → (H2 id').body.isSome = true → jv (V2 id) = some g → jv (V2 id') = some g → σ id = σ id' → id = id') : HRel P W2 H2 V2 w := by
  have hl' : ∀ id g, (H2 id).body.isSome = true → jv (V2 id) = some g → (H1 (σ id)).body.isSome = true ∧ V2 id = V1 (σ id) := fun id g h hb => by
    obtain ⟨bd, hbd⟩ := wcp.1 h
    rcases hl id bd hbd with ⟨e, _⟩ | ⟨bd1, h1, h2, _⟩
    · rw [e] at hb; cases hb
    · exact ⟨by rw [h1]; rfl, h2⟩
  refine ⟨by rw [hw]; exact hr.below, fun id bd hb => ?_, fun i => by rw [hZ]; exact hg i, fun id id' g h1 h2 h3 h4 => ?_, by rw [hZ]; exact hr.zlt, fun id b h1 h2 => ?_⟩
  · rw [hw, hZ]
    rcases hl id bd hb with ⟨e, h1, h2⟩ | ⟨bd1, h1, h2, h3⟩
    · rw [e, h2]; exact ⟨[], h1, rfl, fun i p v h => by simp at h⟩
    · obtain ⟨vs, k1, k2⟩ := hr.body _ _ h1
      obtain ⟨k3, k4⟩ := h3 vs k1 k2
      exact ⟨vs, by rw [h2]; exact k3, k4⟩
  · obtain ⟨a1, a2⟩ := hl' id g h1 h3
    obtain ⟨b1, b2⟩ := hl' id' g h2 h4
    exact hi id id' g h1 h2 h3 h4 (hr.apart _ _ g a1 b1 (by rw [← a2]; exact h3) (by rw [← b2]; exact h4))
  · obtain ⟨a1, a2⟩ := hl' id b h1 h2
    rw [hZ]
    exact hr.nz _ b a1 (by rw [← a2]; exact h2)
theorem Is.que {w : World} {m : Nat} {v : Value} {vs : List Value} {t : TypeId} {k n : Nat} {cs cs' : List PV} (h : (PBody.row t k n cs).Is w m v vs) : (PBody.que t k n cs').Is w m v vs := by
  refine ⟨v, 0, [], by rw [wcx]; exact h.1, by simp, ?_, h.2⟩
  rcases h.1.2 with ⟨e, h0⟩ | ⟨g, cap, cur, e, _, _, hc, _⟩
  · exact ⟨none, 0, 0, none, e, e, wb7 _, wb7 _, .inl ⟨rfl, rfl⟩⟩
  · exact ⟨_, n, cap, _, e, e, wdq _, hc, .inr ⟨g, 0, rfl, rfl, .inl (by simp)⟩⟩
theorem zfx {w : World} {m : Nat} {ds pre post : List Dyn} {hb : HB} {d : Dyn} (h : z2a hb = some d) (hd : ds = pre ++ d :: post) (X v : Nat) : ((unB ds hb pre.length).den X v).Is w m (.slice none 0 0) [] ∧ ((unB ds hb pre.length).den X v).cs = [] ∧ ∀ j, (unB ds hb pre.length).ch j = none := by
  have hg : ∀ {t : Ty} (x : t.D), d = ⟨t, x⟩ → getD ds t pre.length x = x := fun {t} x e => by
    subst e
    unfold getD
    rw [zgk (a := pre) (c := post) (d := ⟨t, x⟩) hd]
    split
    · rename_i y hy
      have := wac hy
      injection this with _ e2
      exact e2.symm
    · rfl
  have hn : w.ownsRow m 0 0 (.slice none 0 0) 0 [] := ⟨by simp, .inl ⟨rfl, rfl⟩⟩
  cases hb <;> simp only [z2a] at h <;> try (cases h; done)
  · cases h
    simp only [unB, hg _ rfl]
    exact ⟨⟨⟨by simp, .inl ⟨rfl, rfl⟩⟩, fun u hu => by simp at hu⟩, rfl, fun j => rfl⟩
  · cases h
    simp only [unB, hg _ rfl]
    exact ⟨⟨.slice none 0 0, 0, [], ⟨by simp, .inl ⟨rfl, rfl⟩⟩, by simp, ⟨none, 0, 0, none, rfl, rfl, wb7 _, wb7 _, .inl ⟨rfl, rfl⟩⟩, fun u hu => by simp at hu⟩, rfl, fun j => rfl⟩
  · cases h
    simp only [unB, hg _ rfl]
    exact ⟨⟨⟨by simp, .inl ⟨rfl, rfl⟩⟩, fun u hu => by simp at hu⟩, rfl, fun j => rfl⟩
theorem zyv {t : Ty} {x y : t.D} {ds pre post : List Dyn} (h : ds = pre ++ ⟨t, x⟩ :: post) : getD ds t pre.length y = x := by
  unfold getD
  rw [zgk (a := pre) (c := post) (d := ⟨t, x⟩) h]
  have : (Dyn.mk t x).as t = some x := by
    simp only [Dyn.as, zzt]
    split
    · rfl
    · rename_i h9; rw [V9] at h9; cases h9
  rw [this]
inductive Pk (ds pre post : List Dyn) (x : PR) : BD → BD → Prop
  | row {tid : TypeId} {t : Ty} {l : List t.D} : Pk ds pre post x (.row tid t l) (.row tid t l)
  | read {tid : TypeId} {t : Ty} {xs : List TS} {l : List t.D} (h : RefL (jo xs) (l.flatMap (je t)) ∧ l.length = xs.length) : Pk ds pre post x (.rowx tid (wid t) xs) (.row tid t l)
  | rowx {tid : TypeId} {k : Nat} {hs : List HS} {xs : List TS} (hp : Q5 hs xs = some x) (hl : hs.length = xs.length) : Pk ds pre post x (.rowx tid k xs) (.rowx tid k (zck ds hs pre.length))
  | box {tid : TypeId} {hs : List HS} {xs : List TS} (hp : Q5 hs xs = some x) : Pk ds pre post x (.box tid xs) (.box tid (zck ds hs pre.length))
  | obj {k : RK} {y : k.ty.D} : Pk ds pre post x (.obj k y) (.obj k y)
  | que {tid : TypeId} {t : Ty} {l : List t.D} : Pk ds pre post x (.que tid t l) (.que tid t l)
  | rowq {tid : TypeId} {t : Ty} {l : List t.D} : Pk ds pre post x (.row tid t l) (.que tid t l)
  | rows {tid it : TypeId} {t : Ty} {l : List (List t.D)} {kv : Nat} : Pk ds pre post x (.rows tid it t l kv none) (.rows tid it t l 0 none)
  | mrows {kt : Ty} {it : TypeId} {t : Ty} {l : List (kt.D × List t.D × Unit)} {kv : Nat} : Pk ds pre post x (.mrows kt it t l kv none) (.mrows kt it t l 0 none)
  | iter {Y mid mver : Nat} {mask : List Bool} {last : Option Nat} (hx : (Y, .id mid mver) ∈ x.2) : Pk ds pre post x (.iter mid mver mask last) (.iter Y 1 mask none)
theorem zlo {ds pre post : List Dyn} {hb : HB} {bd : BD} {x : PR} (hp : zod hb bd = some x) (hd : ds = pre ++ x.1 ++ post) : Pk ds pre post x bd (unB ds hb pre.length) := by
  have mid : ∀ {t : Ty} {y z : t.D}, x.1 = [⟨t, y⟩] → getD ds t pre.length z = y := fun {t y z} e => zyv (post := post) (by rw [hd, e]; simp)
  unfold zod at hp
  split at hp <;> try (cases hp; done)
  · split at hp <;> try (cases hp; done)
    rename_i hb1
    cases ju hb1
    split at hp <;> cases hp
    rename_i x2 hx2
    cases wac hx2
    simp only [unB, mid (y := x2) rfl]
    exact .row
  · rename_i tid t tid' k xs
    split at hp <;> try (cases hp; done)
    rename_i hb1
    simp only [wb6] at hb1
    cases ju hb1.1
    cases ju hb1.2
    split at hp <;> cases hp
    rename_i l hl2
    simp only [unB, mid (t := .sl t) (y := l) rfl]
    exact .read (zbb hl2)
  · split at hp <;> try (cases hp; done)
    rename_i hb1
    simp only [wb6] at hb1
    cases ju hb1.1.1
    cases ju hb1.1.2
    exact .rowx hp (ju hb1.2)
  · split at hp <;> try (cases hp; done)
    rename_i hb1
    cases ju hb1
    exact .box hp
  · split at hp <;> try (cases hp; done)
    rename_i hb1
    cases wa1 hb1
    split at hp <;> cases hp
    rename_i hx2
    cases wac hx2
    simp only [unB]
    rw [mid rfl]
    exact .obj
  · split at hp <;> try (cases hp; done)
    rename_i hb1
    cases ju hb1
    split at hp <;> cases hp
    rename_i x2 hx2
    cases wac hx2
    simp only [unB, mid (y := x2) rfl]
    exact .que
  · split at hp <;> try (cases hp; done)
    rename_i hb1
    cases ju hb1
    split at hp <;> cases hp
    rename_i x2 hx2
    cases wac hx2
    simp only [unB, mid (y := x2) rfl]
    exact .rowq
  · split at hp <;> try (cases hp; done)
    rename_i hb1
    simp only [wb6] at hb1
    cases ju hb1.1
    cases ju hb1.2
    split at hp <;> cases hp
    rename_i x2 hx2
    cases wac hx2
    simp only [unB, mid (y := x2) rfl]
    exact .rows
  · split at hp <;> try (cases hp; done)
    rename_i hb1
    cases ju hb1
    split at hp <;> cases hp
    rename_i x2 hx2
    cases wac hx2
    simp only [unB, mid (y := x2) rfl]
    exact .mrows
  · cases hp
    simp only [unB]
    rw [mid rfl]
    exact .iter (by simp)
theorem Pk.ch {ds pre post : List Dyn} {x : PR} {bd nb : BD} (h : Pk ds pre post x bd nb) (j : Nat) : nb.ch j = bd.ch j := by cases h <;> rfl
theorem Pk.ok {Z : ZM} {H H' : PHeap} {V V' : Nm → Value} {w : World} (hT : ∀ p v, NoP p → Rp Z H V w p v → Rp Z H' V' w p v) {ds pre post : List Dyn} {bd nb : BD} {x : PR} {i X m cv : Nat} (h : Pk ds pre post x bd nb) (hd : ds = pre ++ x.1 ++ post) (hg : ∀ m ∈ x.2, zy6 Z H H' V V' w m.1 m.2)
    (hc : ∀ j v, Rp Z H V w (.ps (.c i j) cv) v → Rp Z H' V' w (.ps (.c X j) 1) v) {v : Value} {vs : List Value} (h1 : (bd.den i cv).Is w m v vs) (h2 : RpL Z H V w (bd.den i cv).cs vs) : (nb.den X 1).Is w m v vs ∧ RpL Z H' V' w (nb.den X 1).cs vs := by
  have told : ∀ {t : Ty} {l : List t.D} {cs vs}, RefL cs (l.flatMap (je t)) → RpL Z H V w cs vs → RpL Z H' V' w (l.flatMap (je t)) vs := fun {t l cs vs} hc hv => by
    have := hc.rpL hv
    refine wae this fun c hc v hv => hT c v ?_ hv
    obtain ⟨z, _, hz⟩ := wcu.1 hc
    exact q7 t z c hz
  have kids : ∀ {n : Nat} {vs}, RpL Z H V w ((range n).map (Hole.cell i cv none)) vs → RpL Z H' V' w ((range n).map (Hole.cell X 1 none)) vs := fun {n vs} hv => by
    refine ⟨by have := hv.1; simpa using this, fun j p v h1 h2 => ?_⟩
    rw [wb9] at h1
    obtain ⟨j', hj, rfl⟩ := wca.1 h1
    exact hc j' v (hv.2 j _ v (by rw [wb9, hj]; rfl) h2)
  cases h with
  | row => exact ⟨h1, told (RefL.refl _) h2⟩
  | read h => refine ⟨?_, told h.1 h2⟩; simp only [BD.den, h.2]; exact h1
  | rowx hp hl => refine ⟨?_, (zkm hT ds _ _ x pre post hp hd hg).2 vs h2⟩; simp only [BD.den, zsk, hl]; exact h1
  | box hp => exact ⟨h1, (zkm hT ds _ _ x pre post hp hd hg).2 vs h2⟩
  | obj =>
    rename_i k y
    obtain ⟨p, φ, e4⟩ := k.den_raw y
    simp only [BD.den, e4] at h1 h2 ⊢
    exact ⟨h1, h2.1, fun i p v h => by simp [PBody.cs] at h⟩
  | que => exact ⟨h1, told (RefL.refl _) h2⟩
  | rowq => exact ⟨Is.que h1, told (RefL.refl _) h2⟩
  | rows => exact ⟨h1, kids h2⟩
  | mrows => exact ⟨h1, kids h2⟩
  | iter hx =>
    refine ⟨?_, h2.1, fun j p u h3 h4 => ?_⟩
    · obtain ⟨g, o, e1, e2, e3, b, seen, e4, e5, e6, _⟩ := h1
      exact ⟨g, o, e1, e2, e3, b, seen, e4, e5, e6, fun j hj => by cases hj⟩
    cases j with
    | zero =>
      simp only [BD.den, itB, PBody.cs, wdz, wco] at h3
      subst h3
      exact (hg _ hx).1 u (h2.2 0 _ u rfl h4)
    | succ j => simp [BD.den, itB, PBody.cs] at h3
section
variable {P : Program} {W : Env} {n b : Nat} {E : EF} {G : EG} {R : PHeap} {h : LH} {r : PR}
def sg (mp : List (Nat × MV)) : Nm → Nm
  | .o X => match Vo mp X with
    | some (.id i _) => .o i
    | _ => .o X
  | .c X j => match Vo mp X with
    | some (.id i _) => .c i j
    | _ => .c X j
  | .r x => .r x
theorem z0x (hp : z1m b h E G = some r) (hg : GhOk b W) (hR : RestOk b R) {V : Nm → Value} {a : Act} {w : World} (hr : Rel P W n (v6 E) (qd G R) V a w) : ∃ V', Rel P W n (v6 (unE h r.1)) (qd (unG h r.1) R) V' a w := by
  unfold z1m at hp
  split at hp <;> try (cases hp; done)
  rename_i x hx
  split at hp <;> try (cases hp; done)
  rename_i y hy
  simp only at hp
  split at hp <;> try (cases hp; done)
  rename_i hchk
  cases hp
  simp only [wb6] at hchk
  obtain ⟨hok, hinj⟩ := hchk
  generalize hfull : mp0 b ++ x.2 ++ y.2 = full at *
  have hspec := zoq hok
  have hinj := (zew hinj).2
  generalize hds : x.1 ++ y.1 = ds at *
  have hxl : x.1.length = ziy h.slots := (zht (ds := x.1) h.slots x [] [] hx (by simp)).1
  obtain ⟨hent, hin⟩ := zox (G := G) (full := full) (ds := ds) h.heap (mp0 b ++ x.2) y [] x.1 [] hy (by rw [← hfull]; simp) (by rw [← hds]; simp)
  rw [hxl] at hent hin
  have hG' : ∀ X nb, zi3 ds h.heap (ziy h.slots) X = some nb → unG h ds X = ⟨1, some nb⟩ := fun X nb e => by unfold unG; rw [e]
  have hGn : ∀ X, zi3 ds h.heap (ziy h.slots) X = none → unG h ds X = ⟨0, none⟩ := fun X e => by unfold unG; rw [e]
  -- each live block of the new heap
  have hnew : ∀ X nb, (unG h ds X).b = some nb → (unG h ds X).ver = 1 ∧ ∃ hb, (X, hb) ∈ h.heap ∧ zwb G full ds X hb nb := fun X nb e => by
    cases hu : zi3 ds h.heap (ziy h.slots) X with
    | none => rw [hGn X hu] at e; cases e
    | some nb' =>
      rw [hG' X nb' hu] at e ⊢
      cases e
      exact ⟨rfl, hent X nb hu⟩
  have hcv : ∀ X nb, (unG h ds X).b = some nb → (unG h ds X).cv = 1 := fun X nb e => by
    obtain ⟨h1, hb, _, he⟩ := hnew X nb e
    have hk : nb.kv = 0 := by
      rcases he with ⟨_, _, _, _, _, _, _, _, _, _, _, _, rfl⟩ | ⟨_, _, _, _, _, _, rfl⟩ <;> cases hb <;> rfl
    unfold GB.cv
    rw [e, h1]; simp only [hk]
  have hVn : ∀ {X}, Vo full X = some .nil → V2 full V (.o X) = .slice none 0 0 := fun {X} e => by simp only [V2, e]
  have hVi : ∀ {X i ver}, Vo full X = some (.id i ver) → V2 full V (.o X) = V (.o i) ∧ sg full (.o X) = .o i ∧ ∀ j, V2 full V (.c X j) = V (.c i j) ∧ sg full (.c X j) = .c i j := fun {X i ver} e => by refine ⟨?_, ?_, fun j => ⟨?_, ?_⟩⟩ <;> simp only [V2, sg, e]
  -- what each live name stands for
  have hlive : ∀ Y bd, (qd (unG h ds) R Y).body = some bd → V2 full V Y = .slice none 0 0 ∧ bd.Is w W.w.heap.size (.slice none 0 0) [] ∧ bd.cs = [] ∨ ∃ bd1, (qd G R (sg full Y)).body = some bd1 ∧ V2 full V Y = V (sg full Y) := by
    intro Y bd hY
    cases Y with
    | o X =>
      obtain ⟨nb, hb, rfl⟩ := wca.1 (show (unG h ds X).b.map (BD.den X (unG h ds X).cv) = some bd from hY)
      obtain ⟨_, hb', _, he⟩ := hnew X nb hb
      rcases he with ⟨i, ver, bd0, x', pre, post, hl, hv, hGi, _⟩ | ⟨hl, d, pre, post, hn, hd, rfl⟩
      · refine .inr ⟨bd0.den i (G i).cv, ?_, ?_⟩
        · rw [(hVi hl).2.1]; simp [qd, qr, hGi]
        · rw [(hVi hl).2.1, (hVi hl).1]
      · obtain ⟨k1, k2, _⟩ := zfx (w := w) (m := W.w.heap.size) hn hd X (unG h ds X).cv
        exact .inl ⟨hVn hl, k1, k2⟩
    | c X j =>
      obtain ⟨nb, hb, hj⟩ := wda.1 (show (unG h ds X).b.bind (fun b => b.ch j) = some bd from hY)
      obtain ⟨_, hb', _, he⟩ := hnew X nb hb
      rcases he with ⟨i, ver, bd0, x', pre, post, hl, hv, hGi, hpk, hd, _, rfl⟩ | ⟨hl, d, pre, post, hn, hd, rfl⟩
      · have hk := zlo hpk hd
        refine .inr ⟨bd, ?_, ?_⟩
        · rw [((hVi hl).2.2 j).2]; rw [hk.ch] at hj; simp [qd, Qp, hGi, hj]
        · rw [((hVi hl).2.2 j).2, ((hVi hl).2.2 j).1]
      · rw [(zfx (w := w) (m := 0) hn hd X 0).2.2 j] at hj; cases hj
    | r y => exact .inr ⟨bd, hY, rfl⟩
  have hz : ∀ c, c < w.heap.size → ¬ PZ W.Z (qd G R) V c → ¬ PZ W.Z (qd (unG h ds) R) (V2 full V) c := fun c _ h1 => zqb (fun Y g hs hb => by
    obtain ⟨bd, hY⟩ := wcp.1 hs
    rcases hlive Y bd hY with ⟨e, _⟩ | ⟨bd1, h2, e⟩
    · rw [e] at hb; cases hb
    · exact ⟨_, by rw [h2]; rfl, e⟩) h1
  have hT : ∀ p v, NoP p → Rp W.Z (qd G R) V w p v → Rp W.Z (qd (unG h ds) R) (V2 full V) w p v := fun p v hn hv => Rp.noP hv hn hz
  have hgood : ∀ m ∈ full, zy6 W.Z (qd G R) (qd (unG h ds) R) V (V2 full V) w m.1 m.2 := by
    rintro ⟨X, m⟩ hm
    obtain ⟨h1, h2⟩ := hspec _ hm
    simp only at h1 h2 ⊢
    obtain ⟨nb, hu⟩ := hin X h2
    have hver : (qd (unG h ds) R (.o X)).ver = 1 := by show (unG h ds X).ver = 1; rw [hG' X nb hu]
    obtain ⟨hb, hmem, he⟩ := hent X nb hu
    rcases he with ⟨i, ver, bd, x', pre, post, hl, hv, hGi, _⟩ | ⟨hl, _⟩
    · rw [h1] at hl; cases hl
      have hb2 : (qd G R (.o i)).body.isSome = true := by simp [qd, qr, hGi]
      refine ⟨fun v hv' => ?_, fun off v hv' => ?_⟩
      · cases hv' with
        | ps _ _ _ k1 k2 => exact .ps _ _ _ (by rw [hver]; exact wb7 _) fun _ _ => by rw [(hVi h1).1]; exact k2 hb2 hv
      · cases hv' with
        | pp _ _ _ _ k1 k2 => exact .pp _ _ _ _ (by rw [hver]; exact wb7 _) fun _ _ => by rw [(hVi h1).1]; exact k2 hb2 hv
    · rw [h1] at hl; cases hl
      exact .ps _ _ _ (by rw [hver]; exact wb7 _) fun _ _ => by rw [hVn h1]
  have hrest : ∀ c v, IdOk b c → Rp W.Z (qd G R) V w c v → Rp W.Z (qd (unG h ds) R) (V2 full V) w c v := fun c v hi hv => Rp.keep hv hi hz fun Y ver0 hY hle => by
    cases Y with
    | o X =>
      obtain ⟨h1, h2⟩ := hspec (X, .id X 1) (by rw [← hfull]; simp [z23 hY])
      obtain ⟨nb, hu⟩ := hin X h2
      obtain ⟨hb, hmem, he⟩ := hent X nb hu
      rcases he with ⟨i', ver, bd, x', pre, post, hl, hv, hGi, _⟩ | ⟨hl, _⟩
      · rw [h1] at hl; cases hl
        have e : (qd (unG h ds) R (.o X)).ver = (qd G R (.o X)).ver := by
          show (unG h ds X).ver = (G X).ver
          rw [hG' X nb hu, hv]
        exact ⟨by rw [e]; exact hle, fun _ h4 => ⟨by simp [qd, qr, hGi], by rw [← e]; exact h4, (hVi h1).1⟩⟩
      · rw [h1] at hl; cases hl
    | c X j => exact hY.elim
    | r y => exact ⟨hle, fun h h4 => ⟨h, h4, rfl⟩⟩
  refine ⟨V2 full V, HRel.ren hr.heap (sg full) rfl rfl (fun i => hrest _ _ (hg i) (hr.heap.ghost i)) (fun Y bd hY => ?_) (fun Y Y' g h1 h2 h3 h4 e => ?_), hr.size, hr.defers, fun t => ?_⟩
  · cases Y with
    | o X =>
      obtain ⟨nb, hb, rfl⟩ := wca.1 (show (unG h ds X).b.map (BD.den X (unG h ds X).cv) = some bd from hY)
      obtain ⟨_, hb', _, he⟩ := hnew X nb hb
      rcases he with ⟨i, ver, bd0, x', pre, post, hl, hv, hGi, hpk, hd, hmm, rfl⟩ | ⟨hl, d, pre, post, hn, hd, rfl⟩
      · refine .inr ⟨bd0.den i (G i).cv, by rw [(hVi hl).2.1]; simp [qd, qr, hGi], by rw [(hVi hl).2.1, (hVi hl).1], fun vs k1 k2 => ?_⟩
        have hk := zlo hpk hd
        rw [hcv X _ hb]
        refine hk.ok hT hd (fun m hm => hgood m (hmm m hm)) (fun j v hv => ?_) k1 k2
        cases hv with
        | ps _ _ _ g1 g2 =>
          refine .ps _ _ _ (by show 1 ≤ (unG h ds X).cv; rw [hcv X _ hb]; exact wb7 _) fun g3 _ => ?_
          rw [((hVi hl).2.2 j).1]
          refine g2 ?_ rfl
          simp only [qd, Qp, hb, hGi, wc4] at g3 ⊢
          rw [← hk.ch]; exact g3
      · obtain ⟨k1, k2, _⟩ := zfx (w := w) (m := W.w.heap.size) hn hd X (unG h ds X).cv
        exact .inl ⟨hVn hl, k1, k2⟩
    | c X j =>
      rcases hlive (.c X j) bd hY with h1 | ⟨bd1, h1, h2⟩
      · exact .inl h1
      · obtain ⟨nb, hb, hj⟩ := wda.1 (show (unG h ds X).b.bind (fun b => b.ch j) = some bd from hY)
        obtain ⟨_, hb', _, he⟩ := hnew X nb hb
        rcases he with ⟨i, ver, bd0, x', pre, post, hl, hv, hGi, hpk, hd, _, rfl⟩ | ⟨hl, d, pre, post, hn, hd, rfl⟩
        · have hk := zlo hpk hd
          refine .inr ⟨bd1, h1, h2, fun vs k1 k2 => ?_⟩
          rw [((hVi hl).2.2 j).2] at h1
          rw [hk.ch] at hj
          simp only [qd, Qp, hGi, wc4, hj, wco] at h1
          subst h1
          exact ⟨k1, wae k2 fun c hc v hv => hT c v (zv0 hj c hc) hv⟩
        · rw [(zfx (w := w) (m := 0) hn hd X 0).2.2 j] at hj; cases hj
    | r y => exact .inr ⟨bd, hY, rfl, fun vs k1 k2 => ⟨k1, wae k2 fun c hc v hv => hrest c v (hR y bd hY c hc) hv⟩⟩
  · -- apart
    have key : ∀ Y, (qd (unG h ds) R Y).body.isSome = true → jv (V2 full V Y) = some g → (∃ X i ver hb, (X, hb) ∈ h.heap ∧ Vo full X = some (.id i ver) ∧ ((Y = .o X ∧ sg full Y = .o i) ∨ ∃ j, Y = .c X j ∧ sg full Y = .c i j)) ∨ ∃ y, Y = .r y := by
      intro Y hs hb
      cases Y with
      | o X =>
        obtain ⟨bd, hY⟩ := wcp.1 hs
        obtain ⟨nb, hb1, rfl⟩ := wca.1 (show (unG h ds X).b.map (BD.den X (unG h ds X).cv) = some bd from hY)
        obtain ⟨_, hb', hm, he⟩ := hnew X nb hb1
        rcases he with ⟨i, ver, bd0, x', pre, post, hl, _⟩ | ⟨hl, _⟩
        · exact .inl ⟨X, i, ver, hb', hm, hl, .inl ⟨rfl, (hVi hl).2.1⟩⟩
        · rw [hVn hl] at hb; cases hb
      | c X j =>
        obtain ⟨bd, hY⟩ := wcp.1 hs
        obtain ⟨nb, hb1, hj⟩ := wda.1 (show (unG h ds X).b.bind (fun b => b.ch j) = some bd from hY)
        obtain ⟨_, hb', hm, he⟩ := hnew X nb hb1
        rcases he with ⟨i, ver, bd0, x', pre, post, hl, _⟩ | ⟨hl, d, pre, post, hn, hd, rfl⟩
        · exact .inl ⟨X, i, ver, hb', hm, hl, .inr ⟨j, rfl, ((hVi hl).2.2 j).2⟩⟩
        · rw [(zfx (w := w) (m := 0) hn hd X 0).2.2 j] at hj; cases hj
      | r y => exact .inr ⟨y, rfl⟩
    rcases key Y h1 h3 with ⟨X, i, ver, hb, m1, l1, ⟨rfl, s1⟩ | ⟨j, rfl, s1⟩⟩ | ⟨y, rfl⟩ <;>
      rcases key Y' h2 h4 with ⟨X', i', ver', hb', m2, l2, ⟨rfl, s2⟩ | ⟨j', rfl, s2⟩⟩ | ⟨y', rfl⟩
    all_goals first
      | (rw [s1, s2] at e; cases e; done)
      | (rw [s1, s2] at e; cases e; have := hinj _ m1 _ m2 i ver ver' l1 l2; simp only at this; rw [this])
      | (rw [s1] at e; cases e; done)
      | (rw [s2] at e; cases e; done)
      | (cases e; rfl)
  · have hs := hr.slot t
    show Rp _ _ _ _ ((unE h ds t).den) _
    obtain ⟨_, k2⟩ := zht (E := E) (ds := ds) h.slots x [] y.1 hx (by rw [← hds]; simp)
    rcases k2 t with e | ⟨s, q, pre, post, h1, h2, h3, h4⟩
    · have : unE h ds t = .dead := e
      rw [this]; simp only [TS.den]; exact .unk _
    · have : unE h ds t = unT ds s pre.length := h4
      rw [this]
      exact (zuq hT ds s (E t) q pre post h1 h2 fun m hm => hgood m (by rw [← hfull]; simp [h3 m hm])).2 _ hs
end
section
variable {A κ : Type} (D : Nat → κ → Bool) (c : Nat → κ → A) (s0 : κ → A)
def st (S : Nat → Bool) : Nat → κ → A
  | 0, k => s0 k
  | m + 1, k => if (S m && D m k) = true then c m k else st S m k
variable {D c s0}
theorem zm4 {S : Nat → Bool} {i : Nat} {k : κ} : ∀ N, i ≤ N → (∀ m, m < N → D m k = true → (S m = true ↔ m < i)) → st D c s0 S N k = st D c s0 (fun _ => true) i k
  | 0, hi, h => by
    have : i = 0 := by omega
    subst this; rfl
  | N + 1, hi, h => by
    by_cases e : i = N + 1
    · subst e
      clear hi
      have key : ∀ M, M ≤ N + 1 → st D c s0 S M k = st D c s0 (fun _ => true) M k := by
        intro M
        induction M with
        | zero => intro _; rfl
        | succ M ih =>
          intro hM
          simp only [st]
          rw [ih (by omega)]
          by_cases hd : D M k = true
          · have := (h M (by omega) hd).2 (by omega)
            rw [this, hd]
          · have : D M k = false := by cases hh : D M k; rfl; exact absurd hh hd
            rw [this]; simp
      exact key _ (wb7 _)
    · have ih := zm4 N (by omega) (fun m hm => h m (by omega))
      simp only [st]
      by_cases hd : D N k = true
      · have : ¬ S N = true := fun hs => by have := (h N (by omega) hd).1 hs; omega
        have : S N = false := by cases hh : S N; rfl; exact absurd hh this
        rw [this]; simpa using ih
      · have : D N k = false := by cases hh : D N k; rfl; exact absurd hh hd
        rw [this]; simpa using ih
theorem zvc {S S' : Nat → Bool} {i : Nat} {k : κ} (hi : S' i = true) (hne : ∀ m, m ≠ i → S' m = S m) : ∀ N, i < N → D i k = true → (∀ m, i < m → m < N → D m k = true → S m = false) → st D c s0 S' N k = c i k
  | 0, h, _, _ => by omega
  | N + 1, h, hd, hl => by
    simp only [st]
    by_cases e : i = N
    · subst e; rw [hi, hd]; simp
    · have ih := zvc hi hne N (by omega) hd (fun m h1 h2 => hl m h1 (by omega))
      rw [ih, hne N (fun e' => e e'.symm)]
      by_cases hdN : D N k = true
      · rw [hl N (by omega) (by omega) hdN]; simp
      · have : D N k = false := by cases hh : D N k; rfl; exact absurd hh hdN
        rw [this]; simp
theorem zpm {S S' : Nat → Bool} {i : Nat} {k : κ} (hne : ∀ m, m ≠ i → S' m = S m) (hd : D i k = false) : ∀ N, st D c s0 S' N k = st D c s0 S N k
  | 0 => rfl
  | N + 1 => by
    simp only [st]
    rw [zpm hne hd N]
    by_cases e : N = i
    · subst e; rw [hd]; simp
    · rw [hne N e]
theorem zvl {S S' : Nat → Bool} {k : κ} : ∀ N, (∀ m, m < N → S m = S' m) → st D c s0 S N k = st D c s0 S' N k
  | 0, _ => rfl
  | N + 1, h => by
    simp only [st]
    rw [zvl N fun m hm => h m (by omega), h N (by omega)]
theorem zmu {S : Nat → Bool} {k : κ} : ∀ N, st D c s0 S N k = s0 k ∨ ∃ m, m < N ∧ D m k = true ∧ st D c s0 S N k = c m k
  | 0 => .inl rfl
  | N + 1 => by
    simp only [st]
    by_cases h : (S N && D N k) = true
    · rw [if_pos h]
      simp only [wb6] at h
      exact .inr ⟨N, by omega, h.2, rfl⟩
    · rw [if_neg h]
      rcases zmu N with h1 | ⟨m, h1, h2, h3⟩
      · exact .inl h1
      · exact .inr ⟨m, by omega, h2, h3⟩
end
inductive Waits (ops : Array Oper) : Nat → Nat → Prop
  | edge {i j : Nat} {o : Oper} {e : Edge} (ho : ops[j]? = some o) (he : e ∈ o.after) (hb : Region.binds .any e = true) (hi : e.on = i) : Waits ops i j
  | trans {i j k : Nat} (h1 : Waits ops i j) (h2 : Waits ops j k) : Waits ops i k
def Closed (ops : Array Oper) (S : Nat → Bool) : Prop := ∀ j o, S j = true → ops[j]? = some o → ∀ e ∈ o.after, Region.binds .any e = true → S e.on = true
theorem Closed.waits {ops : Array Oper} {S : Nat → Bool} (h : Closed ops S) {i j : Nat} (hw : Waits ops i j) : S j = true → S i = true := by
  induction hw with
  | edge ho he hb hi => intro hs; subst hi; exact h _ _ hs ho _ he hb
  | trans _ _ ih1 ih2 => exact fun hs => ih1 (ih2 hs)
def zud (acc : List Nat) : List Edge → Nat
  | [] => 0
  | e :: r => match Region.binds .any e with
    | true => Nat.lor (Nat.lor (Nat.shiftLeft 1 e.on) (acc.getD e.on 0)) (zud acc r)
    | false => zud acc r
def z2p : List Oper → List Nat → List Nat
  | [], acc => acc
  | o :: l, acc => z2p l (acc ++ [zud acc o.after.toList])
theorem zqc {ops : Array Oper} {acc : List Nat} {j : Nat} {o : Oper} (ho : ops[j]? = some o) (hacc : ∀ k i, Nat.testBit (acc.getD k 0) i = true → Waits ops i k) : ∀ (l : List Edge), (∀ e ∈ l, e ∈ o.after) → ∀ i, Nat.testBit (zud acc l) i = true → Waits ops i j
  | [], _, i, h => by simp [zud] at h
  | e :: l, hl, i, h => by
    simp only [zud] at h
    split at h
    · rename_i hb
      have h' : (Nat.testBit (1 <<< e.on) i || Nat.testBit (acc.getD e.on 0) i || Nat.testBit (zud acc l) i) = true := by
        rw [← Nat.testBit_or, ← Nat.testBit_or]; exact h
      simp only [Bool.or_eq_true] at h'
      rcases h' with (h1 | h1) | h1
      · have : e.on = i := by
          have := h1
          rw [Nat.one_shiftLeft, Nat.testBit_two_pow] at this
          simpa using this
        exact .edge ho (hl e (by simp)) hb this
      · exact .trans (hacc _ _ h1) (.edge ho (hl e (by simp)) hb rfl)
      · exact zqc ho hacc l (fun e he => hl e (by simp [he])) i h1
    · exact zqc ho hacc l (fun e he => hl e (by simp [he])) i h
theorem zwu {ops : Array Oper} : ∀ (l : List Oper) (acc : List Nat), (∀ k o, l[k]? = some o → ops[acc.length + k]? = some o) → (∀ k i, Nat.testBit (acc.getD k 0) i = true → Waits ops i k) → ∀ k i, Nat.testBit ((z2p l acc).getD k 0) i = true → Waits ops i k
  | [], acc, _, h, k, i, hb => h k i hb
  | o :: l, acc, hl, h, k, i, hb => by
    simp only [z2p] at hb
    refine zwu l _ (fun k o' hk => ?_) (fun k i hk => ?_) k i hb
    · have := hl (k + 1) o' (by simpa using hk)
      rw [wch, wcw]
      rw [← this]; congr 1; omega
    · rw [wdk] at hk
      by_cases e : k < acc.length
      · rw [wcc e, ← wdk] at hk; exact h k i hk
      · rw [wce (by omega)] at hk
        by_cases e2 : k = acc.length
        · subst e2
          have ho := hl 0 o rfl
          simp only [wdb] at ho
          simp only [Nat.sub_self, wdz, wct] at hk
          exact zqc ho h _ (fun e he => by simpa using he) i hk
        · rw [wdn (by simp; omega)] at hk
          simp at hk
def ids (ws : List (Nat × GB)) (k : Nm) : Bool := match k.rt with
  | some i => ws.any fun x => Nat.beq x.1 i
  | none => false
def Zm (ws : List (Nat × GB)) (k : Nm) : zd4 := match ws with
  | [] => ⟨0, none⟩
  | x :: r => if ids r k = true then Zm r k else if k.rt = some x.1 then ym x.2 k else ⟨0, none⟩
def qf (H : PHeap) : List (Nat × GB) → PHeap
  | [] => H
  | x :: r => qf (zcj H x.1 x.2) r
theorem zr {ws : List (Nat × GB)} {k : Nm} : ids ws k = true ↔ ∃ i ∈ ws.map Prod.fst, k.rt = some i := by
  unfold ids
  cases hk : k.rt with
  | none => simp
  | some i =>
    simp only [wdv, wcf, wco]
    constructor
    · rintro ⟨x, h1, h2⟩; exact ⟨i, ⟨x, h1, wb2 h2⟩, rfl⟩
    · rintro ⟨j, ⟨x, h1, rfl⟩, h3⟩; exact ⟨x, h1, by rw [h3]; simp⟩
theorem Yh : ∀ (ws : List (Nat × GB)) (H : PHeap) (k : Nm), qf H ws k = if ids ws k = true then Zm ws k else H k
  | [], H, k => by unfold ids; cases k.rt <;> simp [qf]
  | x :: r, H, k => by
    simp only [qf]
    rw [Yh r]
    by_cases hr : ids r k = true
    · rw [if_pos hr]
      have : ids (x :: r) k = true := by
        obtain ⟨i, h1, h2⟩ := zr.1 hr
        exact zr.2 ⟨i, by simp only [wcj, wck]; exact .inr h1, h2⟩
      rw [if_pos this, Zm, if_pos hr]
    · rw [if_neg hr]
      unfold zcj
      by_cases e : k.rt = some x.1
      · have : ids (x :: r) k = true := zr.2 ⟨x.1, by simp, e⟩
        rw [if_pos e, if_pos this, Zm, if_neg hr, if_pos e]
      · rw [if_neg e]
        have : ¬ ids (x :: r) k = true := fun h => by
          obtain ⟨i, h1, h2⟩ := zr.1 h
          simp only [wcj, wck] at h1
          rcases h1 with rfl | h1
          · exact e h2
          · exact hr (zr.2 ⟨i, h1, h2⟩)
        rw [if_neg this]
structure OC where
  p : PV
  ws : List (Nat × GB)
def zhq (ops : Array Oper) (m : Nat) (t : Nat) : Bool := match (ops[m]?).bind (·.dst) with
  | some d => Nat.beq d t
  | none => false
def fAt (ops : Array Oper) (oc : Nat → OC) (F0 : PFrame) (S : Nat → Bool) (N : Nat) : PFrame := fun t => st (zhq ops) (fun m _ => (oc m).p) F0 S N t
def hAt (oc : Nat → OC) (H0 : PHeap) (S : Nat → Bool) (N : Nat) : PHeap := fun k => st (fun m k => ids (oc m).ws k) (fun m k => Zm (oc m).ws k) H0 S N k
def zqm (P : Program) (W : Env) (n : Nat) (ops : Array Oper) (o : Oper) (F : PFrame) (H : PHeap) (c : OC) : Prop :=
  (zu ops o F = some true ∧ PE P W n o F H (fun p H' => p = c.p ∧ H' = qf H c.ws)) ∨ (zu ops o F = some false ∧ Jc n o ∧ c.p = .u undef ∧ c.ws = [])
def Meet (ops : Array Oper) (rt : Nat → Nm → Bool) (oc : Nat → OC) (i j : Nat) : Prop :=
  (∃ t, zhq ops i t = true ∧ (zhq ops j t = true ∨ ∃ o, ops[j]? = some o ∧ t ∈ o.looksAt ops)) ∨ (∃ t, zhq ops j t = true ∧ ∃ o, ops[i]? = some o ∧ t ∈ o.looksAt ops) ∨
  (∃ k, ids (oc i).ws k = true ∧ (ids (oc j).ws k = true ∨ rt j k = true)) ∨ (∃ k, ids (oc j).ws k = true ∧ rt i k = true)
section
variable {P : Program} {W : Env} {n : Nat} {ops : Array Oper} {oc : Nat → OC} {rt : Nat → Nm → Bool} {F0 : PFrame} {H0 : PHeap}
theorem zlf {listed : Array Bool} {i : Nat} (h : i ∈ Region.ready .any ops listed) : ∃ o, ops[i]? = some o ∧ listed.getD i true = false ∧ ∀ e ∈ o.after, Region.binds .any e = true → listed.getD e.on false = true := by
  unfold Region.ready at h
  obtain ⟨h1, h2⟩ := List.mem_filter.1 h
  simp only [wb6, wc5] at h2
  cases ho : ops[i]? with
  | none => rw [ho] at h2; simp at h2
  | some o =>
    rw [ho] at h2
    refine ⟨o, rfl, h2.1, fun e he hb => ?_⟩
    have := h2.2
    simp only [wcd, wct, Array.all_eq_true'] at this
    have := this e he
    simpa [hb] using this
theorem z0m {Q' : Exit → Act → World → Prop} {Inv : PFrame → PHeap → Prop} (hinv : ∀ S, Inv (fAt ops oc F0 S ops.size) (hAt oc H0 S ops.size))
    (hloc : ∀ i o, ops[i]? = some o → ∀ F H, Inv F H → (∀ t ∈ o.looksAt ops, F t = fAt ops oc F0 (fun _ => true) i t) → (∀ k, (rt i k = true ∨ ids (oc i).ws k = true) → H k = hAt oc H0 (fun _ => true) i k) → zqm P W n ops o F H (oc i))
    (hmeet : ∀ i j, i < j → j < ops.size → Meet ops rt oc i j → Waits ops i j)
    (hfwd : ∀ j o, ops[j]? = some o → ∀ e ∈ o.after, Region.binds .any e = true → e.on < j)
    (hQ : ∀ V a w, Rel P W n (fAt ops oc F0 (fun _ => true) ops.size) (hAt oc H0 (fun _ => true) ops.size) V a w → Q' .normal a w) :
    ∀ (fuel : Nat) (listed : Array Bool) (V : Nm → Value) (a : Act) (w : World), listed.size = ops.size → ((range ops.size).filter fun i => !listed.getD i false).length ≤ fuel → Closed ops (fun i => listed.getD i false) →
      Rel P W n (fAt ops oc F0 (fun i => listed.getD i false) ops.size) (hAt oc H0 (fun i => listed.getD i false) ops.size) V a w → wpAny P .any ops Q' fuel listed a w := by
  have hdone : ∀ (listed : Array Bool) (V : Nm → Value) (a : Act) (w : World), listed.size = ops.size → Region.ready .any ops listed = [] → Rel P W n (fAt ops oc F0 (fun i => listed.getD i false) ops.size) (hAt oc H0 (fun i => listed.getD i false) ops.size) V a w → Q' .normal a w := by
    intro listed V a w hsz hr hrel
    have hall : ∀ m, m < ops.size → listed.getD m false = true := by
      intro m
      induction m using Nat.strongRecOn with
      | ind m ih =>
        intro hm
        cases hl : listed.getD m false
        · exfalso
          have : m ∈ Region.ready .any ops listed := by
            unfold Region.ready
            refine List.mem_filter.2 ⟨wdw.2 hm, ?_⟩
            have ho : ops[m]? = some ops[m] := wcn hm
            have hl2 : listed.getD m true = false := by
              rw [wcy, wcn (by omega)] at hl ⊢
              simpa using hl
            rw [ho]
            simp only [hl2, Bool.not_false, Bool.true_and, wcd, wct, Array.all_eq_true']
            intro e he
            cases hb : Region.binds .any e
            · rfl
            · have := hfwd m _ ho e he hb
              simp only [Bool.not_true, Bool.false_or]
              exact ih _ this (by omega)
          rw [hr] at this; cases this
        · rfl
    refine hQ V a w ?_
    have e1 : fAt ops oc F0 (fun i => listed.getD i false) ops.size = fAt ops oc F0 (fun _ => true) ops.size := by
      funext t; exact zvl _ fun m hm => by simp [hall m hm]
    have e2 : hAt oc H0 (fun i => listed.getD i false) ops.size = hAt oc H0 (fun _ => true) ops.size := by
      funext t; exact zvl _ fun m hm => by simp [hall m hm]
    rw [← e1, ← e2]; exact hrel
  intro fuel
  induction fuel with
  | zero =>
    intro listed V a w hsz hf hcl hrel
    have hnil : Region.ready .any ops listed = [] := by
      cases hr : Region.ready .any ops listed with
      | nil => rfl
      | cons i r =>
        exfalso
        have hi : i ∈ Region.ready .any ops listed := by rw [hr]; simp
        obtain ⟨o, ho, hl, _⟩ := zlf hi
        have him : i < ops.size := (wcg.1 ho).1
        have : i ∈ (range ops.size).filter fun i => !listed.getD i false := by
          refine List.mem_filter.2 ⟨wdw.2 him, ?_⟩
          rw [wcy, wcn (by omega)] at hl ⊢
          simpa using hl
        have := List.length_pos_of_mem this
        omega
    exact ⟨hnil, hdone listed V a w hsz hnil hrel⟩
  | succ fuel ih =>
    intro listed V a w hsz hf hcl hrel
    refine ⟨fun h0 => hdone listed V a w hsz h0 hrel, fun i hi => ?_⟩
    obtain ⟨o, ho, hl, hed⟩ := zlf hi
    have him : i < ops.size := (wcg.1 ho).1
    have hlf : listed.getD i false = false := by
      rw [wcy, wcn (by omega)] at hl ⊢
      simpa using hl
    have hset : ∀ m, (listed.setIfInBounds i true).getD m false = if m = i then true else listed.getD m false := by
      intro m
      simp only [wcy]
      by_cases e : m = i
      · subst e; rw [if_pos rfl, Array.getElem?_setIfInBounds_self_of_lt (by omega)]; rfl
      · rw [if_neg e, wd3 (fun h => e h.symm)]
    have hpre : ∀ m, Waits ops m i → listed.getD m false = true := by
      intro m hw
      have key : ∀ {x y : Nat}, Waits ops x y → y = i → listed.getD x false = true := by
        intro x y hxy
        induction hxy with
        | edge ho' he hb hon =>
          intro e; subst e
          rw [ho] at ho'; cases ho'
          rw [← hon]; exact hed _ he hb
        | trans h1 h2 ih1 ih2 =>
          intro e
          have := ih2 e
          exact hcl.waits h1 this
      exact key hw rfl
    have hpost : ∀ m, Waits ops i m → listed.getD m false = false := by
      intro m hw
      cases hm : listed.getD m false
      · rfl
      · exact absurd (hcl.waits hw hm) (by rw [hlf]; simp)
    have hlook : ∀ t ∈ o.looksAt ops, fAt ops oc F0 (fun i => listed.getD i false) ops.size t = fAt ops oc F0 (fun _ => true) i t := by
      intro t ht
      refine zm4 _ (by omega) fun m hm hd => ?_
      rcases Nat.lt_trichotomy m i with h | h | h
      · have := hpre m (hmeet m i h him (.inl ⟨t, hd, .inr ⟨o, ho, ht⟩⟩))
        exact ⟨fun _ => h, fun _ => this⟩
      · subst h; simp [hlf]
      · have := hpost m (hmeet i m h hm (.inr (.inl ⟨t, hd, o, ho, ht⟩)))
        simp [this]; omega
    have hheap : ∀ k, (rt i k = true ∨ ids (oc i).ws k = true) → hAt oc H0 (fun i => listed.getD i false) ops.size k = hAt oc H0 (fun _ => true) i k := by
      intro k hk
      refine zm4 _ (by omega) fun m hm hd => ?_
      rcases Nat.lt_trichotomy m i with h | h | h
      · have := hpre m (hmeet m i h him (.inr (.inr (.inl ⟨k, hd, hk.symm⟩))))
        exact ⟨fun _ => h, fun _ => this⟩
      · subst h; simp [hlf]
      · have : Waits ops i m := by
          rcases hk with hk | hk
          · exact hmeet i m h hm (.inr (.inr (.inr ⟨k, hd, hk⟩)))
          · exact hmeet i m h hm (.inr (.inr (.inl ⟨k, hk, .inl hd⟩)))
        have := hpost m this
        simp [this]; omega
    have hstep := hloc i o ho _ _ (hinv _) hlook hheap
    have hF' : fAt ops oc F0 (fun m => (listed.setIfInBounds i true).getD m false) ops.size = (fAt ops oc F0 (fun m => listed.getD m false) ops.size).put o.dst (oc i).p := by
      funext t
      unfold PFrame.put
      by_cases e : o.dst = some t
      · rw [if_pos e]
        have hdt : zhq ops i t = true := by unfold zhq; rw [ho]; simp [e]
        refine zvc (S := fun m => listed.getD m false) (i := i) (by simp [hset]) (fun m hm => ?_) ops.size him hdt fun m h1 h2 h3 => ?_
        · exact (hset m).trans (if_neg hm)
        · exact hpost m (hmeet i m h1 h2 (.inl ⟨t, hdt, .inl h3⟩))
      · rw [if_neg e]
        have hdt : zhq ops i t = false := by
          unfold zhq; rw [ho]
          simp only [wc4]
          cases hd : o.dst with
          | none => rfl
          | some d =>
            simp only
            cases hb : Nat.beq d t
            · rfl
            · rw [hd, wb2 hb] at e; exact absurd rfl e
        exact zpm (i := i) (fun m hm => (hset m).trans (if_neg hm)) hdt ops.size
    have hH' : hAt oc H0 (fun m => (listed.setIfInBounds i true).getD m false) ops.size = qf (hAt oc H0 (fun m => listed.getD m false) ops.size) (oc i).ws := by
      funext k
      rw [Yh]
      by_cases e : ids (oc i).ws k = true
      · rw [if_pos e]
        refine zvc (S := fun m => listed.getD m false) (i := i) (by simp [hset]) (fun m hm => (hset m).trans (if_neg hm)) ops.size him e fun m h1 h2 h3 => ?_
        exact hpost m (hmeet i m h1 h2 (.inr (.inr (.inl ⟨k, e, .inl h3⟩))))
      · rw [if_neg e]
        have e' : ids (oc i).ws k = false := by cases hh : ids (oc i).ws k; rfl; exact absurd hh e
        exact zpm (i := i) (fun m hm => (hset m).trans (if_neg hm)) e' ops.size
    have hcl' : Closed ops (fun m => (listed.setIfInBounds i true).getD m false) := by
      intro j oj hj hoj e he hb
      simp only [hset] at hj ⊢
      by_cases h2 : e.on = i
      · rw [if_pos h2]
      · rw [if_neg h2]
        by_cases h1 : j = i
        · subst h1; rw [ho] at hoj; cases hoj; exact hed e he hb
        · rw [if_neg h1] at hj
          exact hcl j oj hj hoj e he hb
    have hcount : ((range ops.size).filter fun m => !(listed.setIfInBounds i true).getD m false).length ≤ fuel := by
      have h1 : i ∈ (range ops.size).filter fun i => !listed.getD i false := List.mem_filter.2 ⟨wdw.2 him, by simp [hlf]⟩
      have h2 : ((range ops.size).filter fun m => !(listed.setIfInBounds i true).getD m false) = ((range ops.size).filter fun i => !listed.getD i false).filter fun m => decide (m ≠ i) := by
        rw [List.filter_filter]
        refine List.filter_congr fun m _ => ?_
        rw [hset]
        by_cases e : m = i
        · subst e; simp
        · simp [e]
      rw [h2]
      have := List.length_filter_lt_length_iff_exists (p := fun m => decide (m ≠ i)) (l := (range ops.size).filter fun i => !listed.getD i false)
      have := this.2 ⟨i, h1, by simp⟩
      omega
    have next : ∀ V' a' w', Rel P W n ((fAt ops oc F0 (fun m => listed.getD m false) ops.size).put o.dst (oc i).p) (qf (hAt oc H0 (fun m => listed.getD m false) ops.size) (oc i).ws) V' a' w' → wpAny P .any ops Q' fuel (listed.setIfInBounds i true) a' w' := fun V' a' w' hr' =>
      ih _ V' a' w' (by simp [hsz]) hcount hcl' (by rw [hF', hH']; exact hr')
    unfold wpOp
    simp only [ho]
    rcases hstep with ⟨hw, hpe⟩ | ⟨hw, hd, hp, hws⟩
    · rw [Vv hw hrel.slot]
      simp only [if_true]
      exact .inl (zv7 (hpe V a w hrel) fun a' w' ⟨p, H', V', ⟨e1, e2⟩, hr'⟩ => next V' a' w' (by rw [← e1, ← e2]; exact hr'))
    · rw [Vv hw hrel.slot]
      simp only [wdi, if_false]
      refine next V _ w ?_
      rw [hp, hws]
      exact hrel.put (Below.refl _ _) o.dst hd (.u _)
theorem wbi {id : Nat} {Q : Exit → PFrame → PHeap → Prop} {Inv : PFrame → PHeap → Prop} (hinv : ∀ S, Inv (fAt ops oc F0 S ops.size) (hAt oc H0 S ops.size)) (hm : P.follows .mixedOrders = true)
    (hloc : ∀ i o, ops[i]? = some o → ∀ F H, Inv F H → (∀ t ∈ o.looksAt ops, F t = fAt ops oc F0 (fun _ => true) i t) → (∀ k, (rt i k = true ∨ ids (oc i).ws k = true) → H k = hAt oc H0 (fun _ => true) i k) → zqm P W n ops o F H (oc i))
    (hmeet : ∀ i j, i < j → j < ops.size → Meet ops rt oc i j → Waits ops i j)
    (hfwd : ∀ j o, ops[j]? = some o → ∀ e ∈ o.after, Region.binds .any e = true → e.on < j)
    (hQ : Q .normal (fAt ops oc F0 (fun _ => true) ops.size) (hAt oc H0 (fun _ => true) ops.size)) : PC P W n (.region id ops true) F0 H0 Q := fun V a w Q' hr hQ' => by
  refine wp_region_any hm ?_
  have h0 : ∀ i, (Array.replicate ops.size false).getD i false = false := by
    intro i
    rw [wcy, Array.getElem?_replicate]
    split <;> rfl
  have hc : (fun i => (Array.replicate ops.size false).getD i false) = fun _ => false := funext h0
  have e0 : ∀ {A κ : Type} (D : Nat → κ → Bool) (c : Nat → κ → A) (s0 : κ → A) (N : Nat) (k : κ), st D c s0 (fun _ => false) N k = s0 k := by
    intro A κ D c s0 N k
    induction N with
    | zero => rfl
    | succ N ih => simp only [st, Bool.false_and, wdi, if_false]; exact ih
  refine z0m (Q' := Q') hinv hloc hmeet hfwd (fun V' a' w' hr' => hQ' _ _ _ _ _ _ hQ hr') ops.size _ V a _ (by simp) ?_ ?_ ?_
  · exact wdo (List.length_filter_le _ _) (by simp)
  · intro j o hj; simp only [h0] at hj; cases hj
  · rw [hc]
    have e1 : fAt ops oc F0 (fun _ => false) ops.size = F0 := by funext t; exact e0 _ _ _ _ _
    have e2 : hAt oc H0 (fun _ => false) ops.size = H0 := by funext t; exact e0 _ _ _ _ _
    rw [e1, e2]; exact hr.drawn
end
def ja {α β : Type} (o : Option α) (f : α → Option β) : Option β := match o with
  | none => none
  | some a => f a
theorem qg {α β : Type} {o : Option α} {f : α → Option β} {r : β} (h : ja o f = some r) : ∃ a, o = some a ∧ f a = some r := by
  cases o with
  | none => cases h
  | some a => exact ⟨a, rfl, h⟩
def ifB {β : Type} (c : Bool) (x y : Option β) : Option β := match c with
  | true => x
  | false => y
def jr {σ β : Type} (B : σ → (σ → Option β) → Option β) : Nat → σ → Option β
  | 0, _ => none
  | m + 1, s => B s (jr B m)
def J {σ β : Type} (rest : σ → Option β) (A : (σ → Option β) → Option β) : Option β := A rest
@[reducible] def DL : List Ty → Type
  | [] => Unit
  | [t] => t.D
  | t :: u :: ts => t.D × DL (u :: ts)
def zp1 : (ts : List Ty) → List Dyn → Option (DL ts)
  | [], [] => some ()
  | [t], [d] => d.as t
  | t :: u :: ts, d :: ds => match d.as t with
    | none => none
    | some x => match zp1 (u :: ts) ds with
      | none => none
      | some y => some (x, y)
  | _, _ => none
def vq : (ts : List Ty) → DL ts → List Dyn
  | [], _ => []
  | [t], x => [⟨t, x⟩]
  | t :: u :: ts, x => ⟨t, x.1⟩ :: vq (u :: ts) x.2
theorem zwk : ∀ {ts : List Ty} {l : List Dyn} {d : DL ts}, zp1 ts l = some d → vq ts d = l
  | [], l, d, h => by
    cases l with
    | nil => rfl
    | cons _ _ => simp [zp1] at h
  | [t], l, d, h => by
    match l, h with
    | [e], h => simp only [zp1] at h; simp only [vq, wac h]
    | [], h => simp [zp1] at h
    | _ :: _ :: _, h => simp [zp1] at h
  | t :: u :: ts, l, d, h => by
    cases l with
    | nil => simp [zp1] at h
    | cons e l =>
      simp only [zp1] at h
      split at h <;> try (cases h; done)
      rename_i x hx
      split at h <;> try (cases h; done)
      rename_i y hy
      cases h
      simp only [vq, wac hx, zwk hy]
mutual
def tysT : HS → List Ty
  | .v t => [t]
  | .rd t => [t]
  | .fn _ a b => zk1 a ++ zk1 b
  | .agg xs => zk1 xs
  | .tup xs => zk1 xs
  | _ => []
def zk1 : List HS → List Ty
  | [] => []
  | h :: hs => tysT h ++ zk1 hs
end
def tysB : HB → List Ty
  | .row _ t => [.sl t]
  | .rowx _ _ hs => zk1 hs
  | .box _ hs => zk1 hs
  | .obj k => [k.ty]
  | .que _ t => [.sl t]
  | .rows _ _ t => [.sl (.sl t)]
  | .mrows kt _ t => [mty kt t]
  | .iter _ => [.sl .bool]
def z4t : List (Nat × HS) → List Ty
  | [] => []
  | h :: hs => tysT h.2 ++ z4t hs
def z4y : List (Nat × HB) → List Ty
  | [] => []
  | h :: hs => tysB h.2 ++ z4y hs
def LH.tys (h : LH) : List Ty := z4t h.slots ++ z4y h.heap
def zq7 (b : Nat) (h : LH) (E : EF) (G : EG) : Option (DL h.tys) := match z1m b h E G with
  | some r => zp1 h.tys r.1
  | none => none
def meet {β : Type} (b : Nat) (h : LH) (j : DL h.tys → Option β) (E : EF) (G : EG) : Option β := match zq7 b h E G with
  | some t => j t
  | none => none
structure SR where
  α : Type
  imm : Bool
  o : Option α
  s : α → TS
  w : α → List (Nat × GB)
  rd : List Nat
  tc : List Nat
  fz : List Nat
def zn0 (G : EG) : List (Nat × GB) → EG
  | [] => G
  | x :: r => zn0 (G.set x.1 x.2) r
theorem zpe (R : PHeap) : ∀ (ws : List (Nat × GB)) (G : EG), qd (zn0 G ws) R = qf (qd G R) ws
  | [], G => rfl
  | x :: r, G => by simp only [zn0, qf]; rw [zpe R r, zs5]
def AgN (H : PHeap) (G : EG) (id : Nat) : Prop := H (.o id) = qr id (G id) ∧ ∀ j, H (.c id j) = Qp (G id) j
theorem wa8 {H : PHeap} {G : EG} {id : Nat} (h : ∀ k : Nm, k.rt = some id → H k = ym (G id) k) : AgN H G id := ⟨h (.o id) rfl, fun j => h (.c id j) rfl⟩
theorem AgN.at {H : PHeap} {G : EG} {id : Nat} (h : AgN H G id) {k : Nm} (hk : k.rt = some id) : H k = ym (G id) k := by
  cases k <;> cases hk
  · exact h.1
  · exact h.2 _
def zek (H : PHeap) : List (Nat × GB) → PHeap
  | [] => H
  | x :: r => zek (H.set (.o x.1) (qr x.1 x.2)) r
def zvr (G : EG) : List (Nat × GB) → Bool
  | [] => true
  | x :: r => match (G x.1).flat && x.2.flat && Nat.ble (G x.1).ver x.2.ver with
    | true => zvr G r
    | false => false
theorem zm0 {G : EG} : ∀ {ws : List (Nat × GB)}, zvr G ws = true → ∀ x ∈ ws, (G x.1).flat = true ∧ x.2.flat = true ∧ (G x.1).ver ≤ x.2.ver
  | [], _, x, hx => by cases hx
  | y :: r, h, x, hx => by
    simp only [zvr] at h
    split at h <;> try (cases h; done)
    rename_i h1
    rcases wck.1 hx with rfl | hx
    · simp only [wb6] at h1; exact ⟨h1.1.1, h1.1.2, wc0 h1.2⟩
    · exact zm0 h x hx
def wa6 (l : List Nat) : Nm → Bool
  | .c i _ => l.any (Nat.beq i)
  | _ => false
theorem ztr : ∀ {ws : List (Nat × GB)} {H H1 : PHeap} {k : Nm}, H k = H1 k → wa6 (ws.map Prod.fst) k = false → zek H ws k = qf H1 ws k
  | [], H, H1, k, h, _ => h
  | x :: r, H, H1, k, h, hk => by
    show zek (H.set (.o x.1) (qr x.1 x.2)) r k = qf (zcj H1 x.1 x.2) r k
    refine ztr (ws := r) ?_ ?_
    · cases k with
      | o i =>
        unfold PHeap.set zcj
        by_cases e : i = x.1
        · subst e; simp [Nm.rt, ym]
        · simp [Nm.rt, e, h]
      | c i j =>
        unfold PHeap.set zcj
        by_cases e : i = x.1
        · subst e; simp [wa6] at hk
        · simp [Nm.rt, e, h]
      | r x => unfold PHeap.set zcj; simp [Nm.rt, h]
    · cases k with
      | c i j => simp only [wa6, wcj, List.any_cons, Bool.or_eq_false_iff] at hk ⊢; exact hk.2
      | _ => rfl
theorem zvu : ∀ {ws : List (Nat × GB)} {H : PHeap} {i j : Nat}, zek H ws (.c i j) = H (.c i j)
  | [], H, i, j => rfl
  | x :: r, H, i, j => by
    simp only [zek]; rw [zvu]
    simp [PHeap.set]
theorem zvn : ∀ {ws : List (Nat × GB)} {H : PHeap} {i j : Nat}, (∃ x ∈ ws, x.1 = i ∧ qf H ws (.c i j) = Qp x.2 j) ∨ qf H ws (.c i j) = H (.c i j) ∧ ∀ x ∈ ws, x.1 ≠ i
  | [], H, i, j => .inr ⟨rfl, fun x h => by cases h⟩
  | x :: r, H, i, j => by
    simp only [qf]
    rcases zvn (ws := r) (H := zcj H x.1 x.2) (i := i) (j := j) with ⟨y, h1, h2, h3⟩ | ⟨h1, h2⟩
    · exact .inl ⟨y, by simp [h1], h2, h3⟩
    · by_cases e : x.1 = i
      · refine .inl ⟨x, by simp, e, ?_⟩
        rw [h1]; unfold zcj; simp [Nm.rt, e, ym]
      · refine .inr ⟨?_, fun y hy => ?_⟩
        · rw [h1]; unfold zcj; simp [Nm.rt, Ne.symm e]
        · rcases wck.1 hy with rfl | hy
          · exact e
          · exact h2 y hy
theorem zuv {ws : List (Nat × GB)} {H : PHeap} (h : ∀ x ∈ ws, x.2.flat = true ∧ ∀ j, (H (.c x.1 j)).ver ≤ x.2.ver) : zua (zek H ws) (qf H ws) (wa6 (ws.map Prod.fst)) := fun k => ⟨fun hk => (ztr rfl hk).symm, fun hk => by
  cases k with
  | o i => cases hk
  | r x => cases hk
  | c i j =>
    rw [zvu]
    rcases zvn (ws := ws) (H := H) (i := i) (j := j) with ⟨x, h1, h2, h3⟩ | ⟨h1, h2⟩
    · subst h2
      rw [h3, zhy (h x h1).1]
      exact ⟨rfl, (h x h1).2 j⟩
    · simp only [wa6, List.any_map, wdv] at hk
      obtain ⟨x, h3, h4⟩ := hk
      exact absurd (wb2 h4).symm (h2 x h3)⟩
theorem PE.less {P : Program} {W : Env} {n : Nat} {o : Oper} {F : PFrame} {H H1 H2 : PHeap} {p0 : PV} {D : Nm → Bool} (h : PE P W n o F H fun p H' => p = p0 ∧ H' = H1) (hl : zua H1 H2 D) : PE P W n o F H fun p H' => p = p0 ∧ H' = H2 := fun V a w hr =>
  Oper.wp_mono (fun a' w' ⟨p, H', V', ⟨e1, e2⟩, hr'⟩ => by
    subst e1; subst e2
    exact ⟨p, H2, V', ⟨rfl, rfl⟩, hr'.heap.less hl, hr'.size, hr'.defers, fun t => (hr'.slot t).less hl⟩) (h V a w hr)
def zdz (l : List Nat) (x : Nat) : Bool := l.any (Nat.beq x)
def zan (D : List Nat) (G : EG) : EG := fun id => match zdz D id with
  | true => ⟨(G id).cv + 1, none⟩
  | false => G id
def zah (D : List Nat) (G : EG) : List (Nat × GB) := D.map fun id => (id, ⟨(G id).cv + 1, none⟩)
theorem Vr (D : List Nat) (G : EG) : (zah D G).map Prod.fst = D := by unfold zah; rw [wc7]; exact List.map_id' D
def SOk (P : Program) (o : Oper) (E : EF) (G : EG) (q : SR) : Prop :=
  (∀ x, (q.w x).map Prod.fst = q.tc) ∧ ∀ x, q.o = some x → ∀ (W : Env) (n : Nat) (F : PFrame) (H : PHeap), FlW W F H → Jc n o → (∀ t, Operand.tmp t ∈ o.op.operands → F t = (E t).den) → (∀ id, id ∈ q.rd ∨ id ∈ q.tc ∨ id ∈ q.fz → AgN H G id) →
    PE P W n o F H (fun p H' => p = (q.s x).den ∧ H' = zek (qf H (zah q.fz G)) (q.w x))
structure RT where
  rd : List Nat
  tc : List Nat
structure SK where
  run : {β : Type} → (TS → List (Nat × GB) → RT → Option β) → Option β
def z1t (P : Program) (o : Oper) (E : EF) (G : EG) (s : TS) (ws : List (Nat × GB)) (rt : RT) : Prop :=
  (∀ id ∈ ws.map Prod.fst, id ∈ rt.tc) ∧ ∀ (W : Env) (n : Nat) (F : PFrame) (H : PHeap), FlW W F H → Jc n o → (∀ t, Operand.tmp t ∈ o.op.operands → F t = (E t).den) → (∀ id, id ∈ rt.rd ∨ id ∈ ws.map Prod.fst → AgN H G id) →
    PE P W n o F H (fun p H' => p = s.den ∧ H' = qf H ws)
def zer (P : Program) (o : Oper) (E : EF) (G : EG) (q : SK) : Prop :=
  ∀ {β : Type} (k : TS → List (Nat × GB) → RT → Option β) (r : β), q.run k = some r → ∃ s ws rt, k s ws rt = some r ∧ (∀ {γ : Type} (k2 : TS → List (Nat × GB) → RT → Option γ), q.run k2 = k2 s ws rt) ∧ z1t P o E G s ws rt
abbrev SyT := Nat → Nat → Nat → Oper → EF → EG → Option SK
def znb (P : Program) (sy : SyT) : Prop := ∀ ctx nid site o E G q, sy ctx nid site o E G = some q → zer P o E G q
def zty {β : Type} (q : SR) (k : q.α → Option β) : Option β := match q.imm with
  | true => match q.o with
    | some x => k x
    | none => none
  | false => ja q.o k
theorem zo9 {β : Type} {q : SR} {k : q.α → Option β} {r : β} (h : zty q k = some r) : ∃ x, q.o = some x ∧ k x = some r := by
  unfold zty at h
  split at h
  · split at h
    · exact ⟨_, by assumption, h⟩
    · cases h
  · exact qg h
def zyb (n : Nat) (o : Oper) : Bool := match o.dst with
  | none => true
  | some d => Nat.blt d n
theorem zqo {n : Nat} {o : Oper} (h : zyb n o = true) : Jc n o := fun t ht => by
  unfold zyb at h; rw [ht] at h; simpa [web] using h
def SR.k (G : EG) (q : SR) : SK := ⟨fun k => zty q fun x => match zvr (zan q.fz G) (q.w x) with
  | true => k (q.s x) (zah q.fz G ++ q.w x) ⟨q.rd, q.fz ++ q.tc⟩
  | false => none⟩
theorem za2 : ∀ (a b : List (Nat × GB)) (H : PHeap), qf H (a ++ b) = qf (qf H a) b
  | [], b, H => rfl
  | x :: a, b, H => by simp only [wd8, qf]; exact za2 a b _
theorem zva : ∀ {D : List Nat} {G : EG} {H : PHeap} {id : Nat}, id ∈ D ∨ AgN H G id → AgN (qf H (zah D G)) (zan D G) id := fun {D G H id} h => by
  have key : ∀ {k : Nm}, k.rt = some id → qf H (zah D G) k = ym (zan D G id) k := fun {k} hk => by
    rw [Yh]
    by_cases hm : id ∈ D
    · have hl : zan D G id = ⟨(G id).cv + 1, none⟩ := by
        unfold zan zdz
        rw [wdv.2 ⟨id, hm, wdm id⟩]
      rw [if_pos (zr.2 ⟨id, by rw [Vr]; exact hm, hk⟩), hl]
      have : ∀ {L : List Nat}, id ∈ L → Zm (zah L G) k = ym ⟨(G id).cv + 1, none⟩ k := by
        intro L
        induction L with
        | nil => intro h; cases h
        | cons a L ih =>
          intro h
          show (if ids (zah L G) k = true then Zm (zah L G) k else if k.rt = some a then ym ⟨(G a).cv + 1, none⟩ k else ⟨0, none⟩) = _
          by_cases h2 : id ∈ L
          · rw [if_pos (zr.2 ⟨id, by rw [Vr]; exact h2, hk⟩), ih h2]
          · rcases wck.1 h with rfl | h3
            · rw [if_neg, if_pos hk]
              intro h4
              obtain ⟨i, h5, h6⟩ := zr.1 h4
              rw [hk] at h6; cases h6
              rw [Vr] at h5; exact h2 h5
            · exact absurd h3 h2
      exact this hm
    · have hl : zan D G id = G id := by
        unfold zan zdz
        cases h3 : D.any (Nat.beq id) with
        | true =>
          obtain ⟨x, h4, h5⟩ := wdv.1 h3
          rw [wb2 h5] at hm; exact absurd h4 hm
        | false => rfl
      rw [if_neg, hl]
      · rcases h with h | h
        · exact absurd h hm
        · exact h.at hk
      · intro h4
        obtain ⟨i, h5, h6⟩ := zr.1 h4
        rw [hk] at h6; cases h6
        rw [Vr] at h5; exact hm h5
  exact wa8 fun k hk => key hk
theorem SOk.k {P : Program} {o : Oper} {E : EF} {G : EG} {q : SR} (h : SOk P o E G q) : zer P o E G (q.k G) := fun k r hr => by
  obtain ⟨x, hx, hk⟩ := zo9 hr
  split at hk <;> try (cases hk; done)
  rename_i hf
  refine ⟨q.s x, zah q.fz G ++ q.w x, ⟨q.rd, q.fz ++ q.tc⟩, hk, fun k2 => ?_, fun id hid => by rw [wdu, Vr, h.1 x] at hid; exact hid, fun W n F H hfl hd hF hH => ?_⟩
  · show zty q _ = _
    unfold zty
    rw [hx]
    cases q.imm <;> simp only [ja, hf]
  · have hH : ∀ id, id ∈ q.rd ∨ id ∈ q.fz ∨ id ∈ q.tc → AgN H G id := fun id hid => hH id (by rw [wdu, Vr, h.1 x, wcr]; exact hid)
    have h2 := zm0 hf
    rw [za2]
    refine PE.less (h.2 x hx W n F H hfl hd hF fun id hid => hH id (by
        rcases hid with h | h | h
        · exact .inl h
        · exact .inr (.inr h)
        · exact .inr (.inl h))) (zuv fun y hy => ⟨(h2 y hy).2.1, fun j => ?_⟩)
    rw [(zva (.inr (hH y.1 (.inr (.inr (by rw [← h.1 x]; exact wcf.2 ⟨y, hy, rfl⟩)))))).2, zhy (h2 y hy).1]
    exact (h2 y hy).2.2
def eqb (c w : Bool) : Bool := match c, w with
  | true, true => true
  | false, false => true
  | _, _ => false
theorem zus {c w : Bool} : eqb c w = (c == w) := by cases c <;> cases w <;> rfl
def UND : TS := .c undef
def NB : Nat := 16
section
variable (sy : SyT) (ctx n : Nat) {β : Type}
def do1 (rid nx i : Nat) (o : Oper) (E : EF) (G : EG) (acc : List RT) (k : EF → EG → List RT → Option β) : Option β := match sy ctx (nx + i * NB) (rid * 64 + i) o E G with
  | some q => q.run fun s ws rt => k (E.put o.dst s) (zn0 G ws) (acc ++ [rt])
  | none => none
def Qo (ops : Array Oper) (rid nx : Nat) : List Oper → Nat → EF → EG → List RT → (EF → EG → List RT → Option β) → Option β
  | [], _, E, G, acc, k => k E G acc
  | o :: l, i, E, G, acc, k => match zyb n o with
    | false => none
    | true => match o.guard with
      | none => do1 sy ctx rid nx i o E G acc fun E' G' acc' => Qo ops rid nx l (i + 1) E' G' acc' k
      | some (j, w) => match (ops[j]?).bind (·.dst) with
        | none => none
        | some d => match E d with
          | .c (.bool c) => match eqb c w with
            | true => do1 sy ctx rid nx i o E G acc fun E' G' acc' => Qo ops rid nx l (i + 1) E' G' acc' k
            | false => Qo ops rid nx l (i + 1) (E.put o.dst UND) G (acc ++ [⟨[], []⟩]) k
          | .c (.tuple _) => Qo ops rid nx l (i + 1) (E.put o.dst UND) G (acc ++ [⟨[], []⟩]) k
          | .v ⟨.bool, c⟩ => ifB c
            (match w with
            | true => do1 sy ctx rid nx i o (E.put (some d) (.c (.bool true))) G acc fun E' G' acc' => Qo ops rid nx l (i + 1) E' G' acc' k
            | false => Qo ops rid nx l (i + 1) ((E.put (some d) (.c (.bool true))).put o.dst UND) G (acc ++ [⟨[], []⟩]) k)
            (match w with
            | false => do1 sy ctx rid nx i o (E.put (some d) (.c (.bool false))) G acc fun E' G' acc' => Qo ops rid nx l (i + 1) E' G' acc' k
            | true => Qo ops rid nx l (i + 1) ((E.put (some d) (.c (.bool false))).put o.dst UND) G (acc ++ [⟨[], []⟩]) k)
          | _ => none
end
theorem zfp {E : EF} {d : Nat} {s : TS} (h : (E d).den = s.den) : v6 (E.put (some d) s) = v6 E := by
  rw [zde]
  funext t
  unfold PFrame.put
  by_cases e : some d = some t
  · rw [if_pos e]; cases e; exact h.symm
  · rw [if_neg e]
theorem Y2 {ops : Array Oper} {o : Oper} {j d : Nat} {w c : Bool} {E : EF} {F : PFrame} (hg : o.guard = some (j, w)) (hd : (ops[j]?).bind (·.dst) = some d) (hE : F d = .u (.bool c)) : zu ops o F = some (c == w) := by
  unfold zu
  rw [hg]; simp only; rw [hd]; simp only; rw [hE]
theorem zul {ops : Array Oper} {o : Oper} {j d : Nat} {w : Bool} {vs : Array Value} {F : PFrame} (hg : o.guard = some (j, w)) (hd : (ops[j]?).bind (·.dst) = some d) (hE : F d = .u (.tuple vs)) : zu ops o F = some false := by
  unfold zu
  rw [hg]; simp only; rw [hd]; simp only; rw [hE]
inductive Out (P : Program) (n : Nat) (ops : Array Oper) (o : Oper) (E : EF) (G : EG) : EF → EG → RT → Prop
  | done {E1 : EF} {s : TS} {ws : List (Nat × GB)} {rt : RT} (he : v6 E1 = v6 E) (hd : zyb n o = true) (hw : ∀ F : PFrame, (∀ t ∈ o.looksAt ops, F t = v6 E t) → zu ops o F = some true) (hs : z1t P o E1 G s ws rt) : Out P n ops o E G (E1.put o.dst s) (zn0 G ws) rt
  | skip {E1 : EF} (he : v6 E1 = v6 E) (hd : zyb n o = true) (hw : ∀ F : PFrame, (∀ t ∈ o.looksAt ops, F t = v6 E t) → zu ops o F = some false) : Out P n ops o E G (E1.put o.dst UND) G ⟨[], []⟩
theorem zsa {ops : Array Oper} {o : Oper} {j d : Nat} {w : Bool} (hg : o.guard = some (j, w)) (hd : (ops[j]?).bind (·.dst) = some d) : d ∈ o.looksAt ops := by
  unfold Oper.looksAt
  rw [hg]
  simp only
  rw [hd]
  simp
theorem zff {P : Program} {sy : SyT} (hsy : znb P sy) {ctx : Nat} {β : Type} {rid nx i : Nat} {o : Oper} {E1 : EF} {G : EG} {acc : List RT} {k : EF → EG → List RT → Option β} {r : β} (h : do1 sy ctx rid nx i o E1 G acc k = some r) :
    ∃ s ws rt, z1t P o E1 G s ws rt ∧ k (E1.put o.dst s) (zn0 G ws) (acc ++ [rt]) = some r ∧ ∀ {γ : Type} (k2 : EF → EG → List RT → Option γ), do1 sy ctx rid nx i o E1 G acc k2 = k2 (E1.put o.dst s) (zn0 G ws) (acc ++ [rt]) := by
  unfold do1 at h
  split at h <;> try (cases h; done)
  rename_i q hq
  obtain ⟨s, ws, rt, hk, h2, hl⟩ := hsy _ _ _ _ _ _ _ hq _ _ h
  exact ⟨s, ws, rt, hl, hk, fun k2 => by unfold do1; rw [hq]; exact h2 _⟩
theorem zya {P : Program} {sy : SyT} (hsy : znb P sy) {ctx n : Nat} {β : Type} {ops : Array Oper} {rid nx : Nat} {o : Oper} {l : List Oper} {i : Nat} {E : EF} {G : EG} {acc : List RT} {k : EF → EG → List RT → Option β} {r : β} (h : Qo sy ctx n ops rid nx (o :: l) i E G acc k = some r) :
    ∃ E' G' rt, Out P n ops o E G E' G' rt ∧ Qo sy ctx n ops rid nx l (i + 1) E' G' (acc ++ [rt]) k = some r ∧ ∀ {γ : Type} (k2 : EF → EG → List RT → Option γ), Qo sy ctx n ops rid nx (o :: l) i E G acc k2 = Qo sy ctx n ops rid nx l (i + 1) E' G' (acc ++ [rt]) k2 := by
  unfold Qo at h
  split at h <;> try (cases h; done)
  rename_i hd
  split at h
  · rename_i hg
    obtain ⟨s, ws, rt, hl, hk, h2⟩ := zff hsy h
    exact ⟨_, _, _, .done rfl hd (fun F _ => by unfold zu; rw [hg]) hl, hk, fun k2 => by
      rw [Qo]; simp only [hd, hg]; exact h2 _⟩
  · rename_i j w hg
    split at h <;> try (cases h; done)
    rename_i d hdst
    have hl := zsa hg hdst
    split at h
    · rename_i c hE
      have hF : ∀ F : PFrame, (∀ t ∈ o.looksAt ops, F t = v6 E t) → F d = .u (.bool c) := fun F hF => by rw [hF d hl]; unfold v6; rw [hE]; simp only [TS.den]; rfl
      split at h
      · rename_i he
        obtain ⟨s, ws, rt, hl, hk, h2⟩ := zff hsy h
        refine ⟨_, _, _, .done rfl hd (fun F hf => by rw [Y2 (E := E) hg hdst (hF F hf), ← zus, he]) hl, hk, fun k2 => ?_⟩
        rw [Qo]; simp only [hd, hg, hdst, hE, he]; exact h2 _
      · rename_i he
        refine ⟨_, _, _, .skip rfl hd (fun F hf => by rw [Y2 (E := E) hg hdst (hF F hf), ← zus, he]), h, fun k2 => ?_⟩
        rw [Qo]; simp only [hd, hg, hdst, hE, he]
    · rename_i vs hE
      refine ⟨_, _, _, .skip rfl hd (fun F hf => zul hg hdst (by rw [hf d hl]; unfold v6; rw [hE]; simp only [TS.den]; rfl)), h, fun k2 => ?_⟩
      rw [Qo]; simp only [hd, hg, hdst, hE]
    · rename_i c hE
      have hden : (E d).den = (TS.c (.bool c)).den := by rw [hE]; simp only [TS.den]; rfl
      have hF : ∀ F : PFrame, (∀ t ∈ o.looksAt ops, F t = v6 E t) → F d = .u (.bool c) := fun F hF => by rw [hF d hl]; unfold v6; rw [hden]; simp only [TS.den]; rfl
      unfold ifB at h
      split at h
      · split at h
        · obtain ⟨s, ws, rt, hl, hk, h2⟩ := zff hsy h
          refine ⟨_, _, _, .done (zfp hden) hd (fun F hf => by rw [Y2 (E := E) hg hdst (hF F hf)]; rfl) hl, hk, fun k2 => ?_⟩
          rw [Qo]; simp only [hd, hg, hdst, hE, ifB]; exact h2 _
        · refine ⟨_, _, _, .skip (zfp hden) hd (fun F hf => by rw [Y2 (E := E) hg hdst (hF F hf)]; rfl), h, fun k2 => ?_⟩
          rw [Qo]; simp only [hd, hg, hdst, hE, ifB]
      · split at h
        · obtain ⟨s, ws, rt, hl, hk, h2⟩ := zff hsy h
          refine ⟨_, _, _, .done (zfp hden) hd (fun F hf => by rw [Y2 (E := E) hg hdst (hF F hf)]; rfl) hl, hk, fun k2 => ?_⟩
          rw [Qo]; simp only [hd, hg, hdst, hE, ifB]; exact h2 _
        · refine ⟨_, _, _, .skip (zfp hden) hd (fun F hf => by rw [Y2 (E := E) hg hdst (hF F hf)]; rfl), h, fun k2 => ?_⟩
          rw [Qo]; simp only [hd, hg, hdst, hE, ifB]
    · cases h
section
variable {P : Program} {W : Env} {n : Nat} {R : PHeap} {sy : SyT} {ctx : Nat}
def z0b (P : Program) (W : Env) (n : Nat) (ops : Array Oper) (R : PHeap) (o : Oper) (E : EF) (G : EG) (c : OC) (rt : RT) (E' : EF) (G' : EG) : Prop :=
  (∀ F H, FlW W F H → (∀ t ∈ o.looksAt ops, F t = v6 E t) → (∀ k : Nm, ((∃ id ∈ rt.rd, k.rt = some id) ∨ ids c.ws k = true) → H k = qd G R k) → zqm P W n ops o F H c) ∧
  v6 E' = (v6 E).put o.dst c.p ∧ qd G' R = qf (qd G R) c.ws ∧ (∀ k : Nm, ids c.ws k = true → ∃ id ∈ rt.tc, k.rt = some id) ∧ Fl c.p ∧ ∀ k, FlB (Zm c.ws k)
theorem ztp : ∀ (ws : List (Nat × GB)) (k : Nm), FlB (Zm ws k)
  | [], k => fun bd h => by simp [Zm] at h
  | x :: r, k => by
    simp only [Zm]
    split
    · exact ztp r k
    · split
      · exact z2b _ _
      · exact fun bd h => by cases h
theorem znj {ops : Array Oper} {o : Oper} {t : Nat} (h : Operand.tmp t ∈ o.op.operands) : t ∈ o.looksAt ops := by
  unfold Oper.looksAt
  refine wd4 _ ?_
  rw [List.mem_filterMap]
  exact ⟨_, by simpa using h, rfl⟩
theorem Out.step {ops : Array Oper} {o : Oper} {E : EF} {G : EG} {E' : EF} {G' : EG} {rt : RT} (h : Out P n ops o E G E' G' rt) : ∃ c, ∀ W R, z0b P W n ops R o E G c rt E' G' := by
  cases h with
  | @done E1 s ws rt he hd hw hs =>
    obtain ⟨hs1, hs2⟩ := hs
    refine ⟨⟨s.den, ws⟩, fun W R => ⟨fun F H hfl hF hH => .inl ⟨hw F hF, ?_⟩, ?_, zpe R _ _, fun k hk => ?_, Jv _, ztp _⟩⟩
    · refine hs2 W n F H hfl (zqo hd) (fun t ht => ?_) fun id hid => ?_
      · rw [hF t (znj ht), ← he]; rfl
      · refine wa8 fun k hk => ?_
        rw [hH k ?_, z2s hk]
        rcases hid with hid | hid
        · exact .inl ⟨id, hid, hk⟩
        · exact .inr (zr.2 ⟨id, hid, hk⟩)
    · rw [zde, he]
    · obtain ⟨id, h1, h2⟩ := zr.1 hk
      exact ⟨id, hs1 id h1, h2⟩
  | @skip E1 he hd hw =>
    refine ⟨⟨.u undef, []⟩, fun W R => ⟨fun F H hfl hF hH => .inr ⟨hw F hF, zqo hd, rfl, rfl⟩, ?_, rfl, fun k hk => (by obtain ⟨i, h1, _⟩ := zr.1 hk; cases h1), .noP (.u _), fun k bd h => by simp [Zm] at h⟩⟩
    rw [zde, he]
    congr 1
theorem PE.mono {o : Oper} {F : PFrame} {H : PHeap} {k k' : PV → PHeap → Prop} (h : PE P W n o F H k) (hk : ∀ p H', k p H' → k' p H') : PE P W n o F H k' := fun V a w hr =>
  Oper.wp_mono (fun a' w' ⟨p, H', V', h1, h2⟩ => ⟨p, H', V', hk p H' h1, h2⟩) (h V a w hr)
def RFl (R : PHeap) : Prop := ∀ i, FlB (R i)
theorem zpr (hW : ∀ i, Fl (W.G i)) (hR : RFl R) (E : EF) (G : EG) : FlW W (v6 E) (qd G R) := ⟨hW, fun t => Jv _, fun k => by
  cases k with
  | o i => exact zwh i _
  | c i j => exact zv4 _ j
  | r x => exact hR x⟩
inductive Steps (P : Program) (n : Nat) (ops : Array Oper) : List Oper → EF → EG → List OC → List RT → EF → EG → Prop
  | nil {E : EF} {G : EG} : Steps P n ops [] E G [] [] E G
  | cons {o : Oper} {l : List Oper} {E E1 E' : EF} {G G1 G' : EG} {c : OC} {rt : RT} {cs : List OC} {rts : List RT} (h : ∀ W R, z0b P W n ops R o E G c rt E1 G1) (hs : Steps P n ops l E1 G1 cs rts E' G') : Steps P n ops (o :: l) E G (c :: cs) (rt :: rts) E' G'
theorem Steps.seq (hW : ∀ i, Fl (W.G i)) (hR : RFl R) {ops : Array Oper} {K : PFrame → PHeap → Prop} : ∀ {l : List Oper} {E E' : EF} {G G' : EG} {cs : List OC} {rts : List RT}, Steps P n ops l E G cs rts E' G' → K (v6 E') (qd G' R) → PL P W n ops l (v6 E) (qd G R) K
  | [], _, _, _, _, _, _, .nil, hk => PL.nil hk
  | o :: l, E, E', G, G', _, _, .cons (E1 := E1) (G1 := G1) h hs, hk => by
    obtain ⟨h1, h2, h3, _⟩ := h W R
    have ih := Steps.seq hW hR hs hk
    rcases h1 (v6 E) (qd G R) (zpr hW hR E G) (fun _ _ => rfl) (fun _ _ => rfl) with ⟨hw, hpe⟩ | ⟨hw, hd, hp, hws⟩
    · refine PL.cons hw (PE.mono hpe fun p H' ⟨e1, e2⟩ => ?_)
      rw [e1, e2, ← h2, ← h3]; exact ih
    · refine PL.skip hw hd ?_
      rw [← hp, ← h2]
      rw [hws] at h3
      rw [show qd G R = qd G1 R from h3.symm]; exact ih
theorem Zi {β : Type} (hsy : znb P sy) {ops : Array Oper} {rid nx : Nat} {k : EF → EG → List RT → Option β} {r : β} : ∀ (l : List Oper) (i : Nat) (E : EF) (G : EG) (acc : List RT), Qo sy ctx n ops rid nx l i E G acc k = some r → ∃ cs rts E' G', Steps P n ops l E G cs rts E' G' ∧ k E' G' (acc ++ rts) = some r ∧ ∀ {γ : Type} (k2 : EF → EG → List RT → Option γ), Qo sy ctx n ops rid nx l i E G acc k2 = k2 E' G' (acc ++ rts)
  | [], i, E, G, acc, h => ⟨[], [], E, G, .nil, by simpa only [Qo, wcl] using h, fun k2 => by simp only [Qo, wcl]⟩
  | o :: l, i, E, G, acc, h => by
    obtain ⟨E', G', rt, hout, h, hu⟩ := zya hsy h
    obtain ⟨c, hc⟩ := hout.step
    obtain ⟨cs, rts, E2, G2, h1, h2, h3⟩ := Zi hsy l (i + 1) E' G' _ h
    exact ⟨c :: cs, rt :: rts, E2, G2, .cons hc h1, by simpa using h2, fun k2 => by rw [hu, h3]; simp⟩
def ocF (cs : List OC) (m : Nat) : OC := cs.getD m ⟨.unk, []⟩
def rtF (rts : List RT) (m : Nat) : RT := rts.getD m ⟨[], []⟩
theorem z0r {ops : Array Oper} {oc : Nat → OC} {F0 : PFrame} {i : Nat} {o : Oper} (ho : ops[i]? = some o) : fAt ops oc F0 (fun _ => true) (i + 1) = (fAt ops oc F0 (fun _ => true) i).put o.dst (oc i).p := by
  funext t
  show (if (true && zhq ops i t) = true then (oc i).p else fAt ops oc F0 (fun _ => true) i t) = _
  unfold PFrame.put zhq
  rw [ho]
  simp only [wc4, Bool.true_and]
  cases o.dst with
  | none => simp
  | some d =>
    simp only [wco]
    by_cases e : d = t
    · subst e; simp
    · rw [if_neg e, if_neg]
      intro hb; exact e (wb2 hb)
theorem z0t {oc : Nat → OC} {H0 : PHeap} {i : Nat} : hAt oc H0 (fun _ => true) (i + 1) = qf (hAt oc H0 (fun _ => true) i) (oc i).ws := by
  funext k
  rw [Yh]
  show (if (true && ids (oc i).ws k) = true then Zm (oc i).ws k else hAt oc H0 (fun _ => true) i k) = _
  simp only [Bool.true_and]
theorem Steps.at {ops : Array Oper} {F0 : PFrame} {H0 : PHeap} {oc : Nat → OC} {rtf : Nat → RT} : ∀ {l : List Oper} {E E' : EF} {G G' : EG} {cs : List OC} {rts : List RT} (i : Nat), Steps P n ops l E G cs rts E' G' → (∀ m o, l[m]? = some o → ops[i + m]? = some o) → (∀ m c, cs[m]? = some c → oc (i + m) = c) → (∀ m rt, rts[m]? = some rt → rtf (i + m) = rt) →
    v6 E = fAt ops oc F0 (fun _ => true) i → qd G R = hAt oc H0 (fun _ => true) i →
    (∀ m o, l[m]? = some o → ∀ W F H, FlW W F H → (∀ t ∈ o.looksAt ops, F t = fAt ops oc F0 (fun _ => true) (i + m) t) → (∀ k : Nm, ((∃ id ∈ (rtf (i + m)).rd, k.rt = some id) ∨ ids (oc (i + m)).ws k = true) → H k = hAt oc H0 (fun _ => true) (i + m) k) → zqm P W n ops o F H (oc (i + m))) ∧
    (∀ m o, l[m]? = some o → ∀ k : Nm, ids (oc (i + m)).ws k = true → ∃ id ∈ (rtf (i + m)).tc, k.rt = some id) ∧
    v6 E' = fAt ops oc F0 (fun _ => true) (i + l.length) ∧ qd G' R = hAt oc H0 (fun _ => true) (i + l.length) ∧
    ∀ m, m < l.length → Fl (oc (i + m)).p ∧ ∀ k, FlB (Zm (oc (i + m)).ws k)
  | [], _, _, _, _, _, _, i, .nil, _, _, _, hF, hH => ⟨fun m o h => by simp at h, fun m o h => by simp at h, hF, hH, fun m h => by simp at h⟩
  | o :: l, E, E', G, G', _, _, i, .cons (c := c) (rt := rt) (E1 := E1) (G1 := G1) h hs, hl, hc, hr, hF, hH => by
    have hoc : oc i = c := hc 0 c rfl
    have hrt : rtf i = rt := hr 0 rt rfl
    have ho : ops[i]? = some o := hl 0 o rfl
    have e : ∀ m, i + (m + 1) = i + 1 + m := fun m => by omega
    obtain ⟨k1, k2, k3, k4, k5⟩ := Steps.at (i + 1) hs (fun m o' hm => by rw [← e]; exact hl (m + 1) o' (by simpa using hm)) (fun m c' hm => by rw [← e]; exact hc (m + 1) c' (by simpa using hm)) (fun m r' hm => by rw [← e]; exact hr (m + 1) r' (by simpa using hm))
      (by rw [z0r ho, ← hF, hoc]; exact (h z1s R).2.1) (by rw [z0t, ← hH, hoc]; exact (h z1s R).2.2.1)
    refine ⟨fun m o' hm => ?_, fun m o' hm => ?_, by rw [wc1, e]; exact k3, by rw [wc1, e]; exact k4, fun m hm => ?_⟩
    · cases m with
      | zero =>
        simp only [wdz, wco] at hm
        subst hm
        intro W F H hfl h1 h2
        simp only [wdb] at h1 h2 ⊢
        rw [hoc] at h2 ⊢
        rw [hrt] at h2
        exact (h W R).1 F H hfl (fun t ht => by rw [h1 t ht, hF]) fun k hk => by rw [h2 k hk, hH]
      | succ m => rw [e]; exact k1 m o' (by simpa using hm)
    · cases m with
      | zero =>
        simp only [wdb]
        rw [hoc, hrt]
        exact (h z1s R).2.2.2.1
      | succ m => rw [e]; exact k2 m o' (by simpa using hm)
    · cases m with
      | zero =>
        simp only [wdb]
        rw [hoc]
        exact (h z1s R).2.2.2.2
      | succ m => rw [e]; exact k5 m (by simpa using hm)
theorem Steps.len {ops : Array Oper} : ∀ {l : List Oper} {E E' : EF} {G G' : EG} {cs : List OC} {rts : List RT}, Steps P n ops l E G cs rts E' G' → cs.length = l.length ∧ rts.length = l.length
  | [], _, _, _, _, _, _, .nil => ⟨rfl, rfl⟩
  | _ :: _, _, _, _, _, _, _, .cons h hs => by
    obtain ⟨h1, h2⟩ := hs.len
    exact ⟨by simp [h1], by simp [h2]⟩
def ze1 (a b : List Nat) : Bool := a.any (zdz b)
theorem z4l {l : List Nat} {x : Nat} (h : x ∈ l) : zdz l x = true := wdv.2 ⟨x, h, wdm x⟩
theorem Y1 {a b : List Nat} {x : Nat} (h1 : x ∈ a) (h2 : x ∈ b) : ze1 a b = true := wdv.2 ⟨x, h1, z4l h2⟩
def zxv (o : Oper) : List Nat := match o.dst with
  | some d => [d]
  | none => []
def zv6 (ops : Array Oper) (oi oj : Oper) (ri rj : RT) : Bool := ze1 (zxv oi) (zxv oj) || ze1 (zxv oi) (oj.looksAt ops) || ze1 (zxv oj) (oi.looksAt ops) || ze1 ri.tc rj.tc || ze1 ri.tc rj.rd || ze1 rj.tc ri.rd
def zq6 (ops : Array Oper) (bits : Nat) (oj : Oper) (rj : RT) : Nat → List Oper → List RT → Bool
  | i, oi :: l, ri :: rts => (Nat.testBit bits i || !(zv6 ops oi oj ri rj)) && zq6 ops bits oj rj (i + 1) l rts
  | _, _, _ => true
def zqt (ops : Array Oper) (anc : List Nat) (pre : List Oper) (prt : List RT) : List Oper → List RT → Bool
  | o :: l, rt :: rts => zq6 ops (anc.getD pre.length 0) o rt 0 pre prt && zqt ops anc (pre ++ [o]) (prt ++ [rt]) l rts
  | _, _ => true
def z3j : Nat → List Oper → Bool
  | _, [] => true
  | j, o :: l => o.after.toList.all (fun e => !(Region.binds .any e) || Nat.blt e.on j) && z3j (j + 1) l
def zvk (ops : Array Oper) (rts : List RT) : Bool := z3j 0 ops.toList && zqt ops (z2p ops.toList []) [] [] ops.toList rts
theorem zii {ops : Array Oper} {bits : Nat} {oj : Oper} {rj : RT} : ∀ {l : List Oper} {rts : List RT} {i : Nat}, zq6 ops bits oj rj i l rts = true → ∀ m oi ri, l[m]? = some oi → rts[m]? = some ri → zv6 ops oi oj ri rj = true → Nat.testBit bits (i + m) = true
  | [], _, _, _, m, oi, ri, h1, _, _ => by simp at h1
  | _ :: _, [], _, _, m, oi, ri, _, h2, _ => by simp at h2
  | o :: l, rt :: rts, i, h, m, oi, ri, h1, h2, hm => by
    simp only [zq6, wb6, Bool.or_eq_true, wc5] at h
    cases m with
    | zero =>
      simp at h1 h2; subst h1; subst h2
      rcases h.1 with h3 | h3
      · exact h3
      · rw [hm] at h3; cases h3
    | succ m =>
      have := zii h.2 m oi ri (by simpa using h1) (by simpa using h2) hm
      rw [← this]; congr 1; omega
theorem zir {ops : Array Oper} {anc : List Nat} : ∀ {l : List Oper} {rts : List RT} {pre : List Oper} {prt : List RT}, pre.length = prt.length → zqt ops anc pre prt l rts = true → ∀ m oj rj, l[m]? = some oj → rts[m]? = some rj → ∀ i oi ri, i < pre.length + m → (pre ++ l)[i]? = some oi → (prt ++ rts)[i]? = some ri → zv6 ops oi oj ri rj = true → Nat.testBit (anc.getD (pre.length + m) 0) i = true
  | [], _, _, _, _, _, m, oj, rj, h1, _, _, _, _, _, _, _, _ => by simp at h1
  | _ :: _, [], _, _, _, _, m, oj, rj, _, h2, _, _, _, _, _, _, _ => by simp at h2
  | o :: l, rt :: rts, pre, prt, hl, h, m, oj, rj, h1, h2, i, oi, ri, hi, ho, hr, hm => by
    simp only [zqt, wb6] at h
    cases m with
    | zero =>
      simp at h1 h2; subst h1; subst h2
      simp only [wdb] at hi ⊢
      have := zii h.1 i oi ri (by rw [wcc hi] at ho; exact ho) (by rw [wcc (by omega)] at hr; exact hr) hm
      simpa using this
    | succ m =>
      have := zir (pre := pre ++ [o]) (prt := prt ++ [rt]) (by simp [hl]) h.2 m oj rj (by simpa using h1) (by simpa using h2) i oi ri (by simp; omega) (by simpa using ho) (by simpa using hr) hm
      rw [wch, wcw] at this
      rw [show pre.length + (m + 1) = pre.length + 1 + m by omega]; exact this
theorem zob : ∀ {l : List Oper} {j : Nat}, z3j j l = true → ∀ m o, l[m]? = some o → ∀ e ∈ o.after, Region.binds .any e = true → e.on < j + m
  | [], _, _, m, o, h1, _, _, _ => by simp at h1
  | o :: l, j, h, m, o', h1, e, he, hb => by
    simp only [z3j, wb6, wcz] at h
    cases m with
    | zero =>
      simp at h1; subst h1
      have := h.1 e (by simpa using he)
      rw [hb] at this
      simpa [web] using this
    | succ m =>
      have := zob h.2 m o' (by simpa using h1) e he hb
      omega
theorem zmq {ops : Array Oper} {i t : Nat} {o : Oper} (ho : ops[i]? = some o) (h : zhq ops i t = true) : t ∈ zxv o := by
  unfold zhq at h; rw [ho] at h
  simp only [wc4] at h
  unfold zxv
  split at h
  · rename_i d hd
    have e := wb2 h
    first | (rw [hd, e]; simp; done) | (rw [e]; simp)
  · cases h
theorem Steps.drawn (hW : ∀ i, Fl (W.G i)) (hR : RFl R) (hm : P.follows .mixedOrders = true) {ops : Array Oper} {id : Nat} {E E' : EF} {G G' : EG} {cs : List OC} {rts : List RT} (hs : Steps P n ops ops.toList E G cs rts E' G') (hdo : zvk ops rts = true) : PC P W n (.region id ops true) (v6 E) (qd G R) fun e F' H' => e = .normal ∧ F' = v6 E' ∧ H' = qd G' R := by
  unfold zvk at hdo
  simp only [wb6] at hdo
  obtain ⟨hfw, hdr⟩ := hdo
  obtain ⟨l1, l2⟩ := hs.len
  have hget : ∀ (m : Nat) o, ops.toList[m]? = some o → ops[0 + m]? = some o := fun m o h => by rw [wcx]; simpa using h
  obtain ⟨k1, k2, k3, k4, k5⟩ := Steps.at (R := R) (F0 := v6 E) (H0 := qd G R) (oc := ocF cs) (rtf := rtF rts) 0 hs hget (fun m c hc => by unfold ocF; rw [wcx, wdk, hc]; rfl) (fun m rt hc => by unfold rtF; rw [wcx, wdk, hc]; rfl) rfl rfl
  simp only [wcx] at k1 k2 k3 k4 k5
  have hanc := zwu (ops := ops) ops.toList [] (fun k o hk => by simpa using hk) (fun k i hk => by simp at hk)
  refine wbi (oc := ocF cs) (rt := fun m k => (rtF rts m).rd.any fun id => k.rt == some id) (Inv := fun F H => FlW W F H) (fun S => ⟨hW, fun t => ?_, fun k => ?_⟩) hm (fun i o ho F H hfl h1 h2 => k1 i o (by simpa using ho) W F H hfl h1 fun k hk => h2 k ?_) (fun i j hij hj hmt => ?_) (fun j o ho e he hb => ?_) ⟨rfl, ?_, ?_⟩
  · rcases zmu (D := zhq ops) (c := fun m _ => (ocF cs m).p) (s0 := v6 E) (S := S) (k := t) ops.size with e | ⟨m, hm, _, e⟩
    · unfold fAt; rw [e]; exact Jv _
    · unfold fAt; rw [e]; exact (k5 m (by simpa using hm)).1
  · rcases zmu (D := fun m k => ids (ocF cs m).ws k) (c := fun m k => Zm (ocF cs m).ws k) (s0 := qd G R) (S := S) (k := k) ops.size with e | ⟨m, hm, _, e⟩
    · unfold hAt; rw [e]; exact (zpr hW hR E G).h k
    · unfold hAt; rw [e]; exact (k5 m (by simpa using hm)).2 k
  · rcases hk with ⟨id, h3, h4⟩ | h3
    · exact .inl (wdv.2 ⟨id, h3, by simp [h4]⟩)
    · exact .inr h3
  · obtain ⟨oj, hoj⟩ : ∃ o, ops[j]? = some o := ⟨_, wcn hj⟩
    obtain ⟨oi, hoi⟩ : ∃ o, ops[i]? = some o := ⟨_, wcn (show i < ops.size by omega)⟩
    have hlen : ops.toList.length = ops.size := by simp
    have hrj : rts[j]? = some (rtF rts j) := by unfold rtF; rw [wdk, wb5 (by omega)]; rfl
    have hri : rts[i]? = some (rtF rts i) := by unfold rtF; rw [wdk, wb5 (by omega)]; rfl
    refine hanc j i ?_
    have key := zir (pre := []) (prt := []) rfl hdr j _ _ (by simpa using hoj) hrj i _ _ (by simpa using hij) (by simpa using hoi) (by simpa using hri)
    simp only [wdj, wcx] at key
    refine key ?_
    have rdm : ∀ m (k : Nm), ((rtF rts m).rd.any fun id => k.rt == some id) = true → ∃ id ∈ (rtF rts m).rd, k.rt = some id := fun m k h => by
      obtain ⟨id, h1, h2⟩ := wdv.1 h
      exact ⟨id, h1, by simpa using h2⟩
    unfold zv6
    simp only [Bool.or_eq_true]
    rcases hmt with ⟨t, h1, h2⟩ | ⟨t, h1, o, h2, h3⟩ | ⟨k, h1, h2⟩ | ⟨k, h1, h2⟩
    · have m1 := zmq hoi h1
      rcases h2 with h2 | ⟨o, h2, h3⟩
      · exact .inl (.inl (.inl (.inl (.inl (Y1 m1 (zmq hoj h2))))))
      · rw [hoj] at h2; cases h2
        exact .inl (.inl (.inl (.inl (.inr (Y1 m1 h3)))))
    · rw [hoi] at h2; cases h2
      exact .inl (.inl (.inl (.inr (Y1 (zmq hoj h1) h3))))
    · obtain ⟨a, a1, a2⟩ := k2 i _ (by simpa using hoi) k h1
      rcases h2 with h2 | h2
      · obtain ⟨c, c1, c2⟩ := k2 j _ (by simpa using hoj) k h2
        have : a = c := by rw [a2] at c2; cases c2; rfl
        subst this
        exact .inl (.inl (.inr (Y1 a1 c1)))
      · obtain ⟨c, c1, c2⟩ := rdm j k h2
        have : a = c := by rw [a2] at c2; cases c2; rfl
        subst this
        exact .inl (.inr (Y1 a1 c1))
    · obtain ⟨a, a1, a2⟩ := k2 j _ (by simpa using hoj) k h1
      obtain ⟨c, c1, c2⟩ := rdm i k h2
      have : a = c := by rw [a2] at c2; cases c2; rfl
      subst this
      exact .inr (Y1 a1 c1)
  · have := zob hfw j o (by simpa using ho) e he hb
    omega
  · rw [k3]; simp
  · rw [k4]; simp
end
structure MS where
  it : Nat
  ver : Nat
  mid : Nat
  mver : Nat
  kt : Ty
  lt : TypeId
  t : Ty
  es : List (kt.D × List t.D × Unit)
  kv : Nat
  mask : List Bool
def zrv (x : Operand) (E : EF) (G : EG) : Option MS := match evE E x with
  | .own it ver => match Nat.beq (G it).ver ver with
    | true => match (G it).b with
      | some (.iter mid mver mask none) => match Nat.beq (G mid).ver mver with
        | true => match (G mid).b with
          | some (.mrows kt lt t es kv none) => match plT kt with
            | true => some ⟨it, ver, mid, mver, kt, lt, t, es, kv, mask⟩
            | false => none
          | _ => none
        | false => none
      | _ => none
    | false => none
  | _ => none
def eqD : (t : Ty) → t.D → t.D → Bool
  | .int _, a, b => decide (a = b)
  | .bool, a, b => a == b
  | .str, a, b => a == b
  | .nil, _, _ => true
  | .cons a r, x, y => eqD a x.1 y.1 && eqD r x.2 y.2
  | .st r, x, y => eqD r x y
  | _, _, _ => true
theorem zgh : ∀ (t : Ty) (x : t.D), eqD t x x = true
  | .int _, a => by simp [eqD]
  | .bool, a => by simp [eqD]
  | .str, a => by simp [eqD]
  | .nil, _ => rfl
  | .cons a r, x => by simp [eqD, zgh a, zgh r]
  | .st r, x => by simp only [eqD]; exact zgh r x
  | .sl _, _ => rfl
  | .ref _, _ => rfl
  | .arr _ _, _ => rfl
  | .tup _, _ => rfl
def zwd {α : Type} (f : α → α → Bool) : List α → Bool
  | [] => true
  | x :: l => l.all (fun y => !f x y) && zwd f l
theorem zse {α : Type} {f : α → α → Bool} (hf : ∀ x, f x x = true) : ∀ {l : List α}, zwd f l = true → ∀ (i j : Nat) (a b : α), i ≠ j → l[i]? = some a → l[j]? = some b → a ≠ b
  | [], _, i, j, a, b, _, h, _ => by simp at h
  | x :: l, h, i, j, a, b, hne, hi, hj => by
    simp only [zwd, wb6, wcz, wc5] at h
    intro e; subst e
    cases i with
    | zero =>
      cases j with
      | zero => exact hne rfl
      | succ j =>
        simp at hi hj; subst hi
        have := h.1 _ (wb8 hj)
        rw [hf] at this; cases this
    | succ i =>
      cases j with
      | zero =>
        simp at hi hj; subst hj
        have := h.1 _ (wb8 hi)
        rw [hf] at this; cases this
      | succ j => exact zse hf h.2 i j a a (by omega) (by simpa using hi) (by simpa using hj) rfl
def zyd (m : MS) : Bool := Nat.beq m.mask.length m.es.length && (m.mask.all (fun b => !b) && zwd (eqD m.kt) (m.es.map fun e => e.1))
def zh0 {α : Type} (l : List α) (j : Nat) : Option α := l[j]?
section
variable {σ β : Type}
def zxk (B : Nat → σ → Option σ) (fin : σ → Option β) : Nat → Nat → σ → Option β
  | 0, _, t => fin t
  | m + 1, j, t => ja (B j t) (zxk B fin m (j + 1))
def zuz (see : σ → Option MS) (B : Nat → σ → Option σ) (fin : σ → Option β) (t : σ) : Option β := match see t with
  | none => none
  | some m => match zyd m with
    | true => zxk B fin m.es.length 0 t
    | false => none
structure zlz (see : σ → Option MS) (B : Nat → σ → Option σ) : Prop where
  keep : ∀ (j : Nat) (t t' : σ) (m : MS), B j t = some t' → see t = some m → see t' = some { m with mask := m.mask.set j true }
  swap : ∀ (i j : Nat) (t : σ) (m : MS) (a b : m.kt.D × List m.t.D × Unit), i ≠ j → see t = some m → m.es[i]? = some a → m.es[j]? = some b → a.1 ≠ b.1 → ja (B i t) (B j) = ja (B j t) (B i)
open Classical in
noncomputable def mrC (see : σ → Option MS) (B : Nat → σ → Option σ) (fin : σ → Option β) (t : σ) : Option β := if zlz see B then zuz see B fin t else none
theorem zp5 {see : σ → Option MS} {B : Nat → σ → Option σ} (h : zlz see B) : @mrC σ β see B = zuz see B := by funext fin t; exact if_pos h
theorem z0v {see : σ → Option MS} {B : Nat → σ → Option σ} {fin : σ → Option β} {t : σ} {r : β} (h : mrC see B fin t = some r) : ∃ B', B' = B ∧ zlz see B' ∧ ∃ m, see t = some m ∧ zyd m = true ∧ zxk B' fin m.es.length 0 t = some r := by
  unfold mrC at h
  split at h <;> try (cases h; done)
  rename_i hc
  unfold zuz at h
  split at h <;> try (cases h; done)
  rename_i m hm
  split at h <;> try (cases h; done)
  exact ⟨B, rfl, hc, m, hm, by assumption, h⟩
theorem mrC_at {see : σ → Option MS} {B : Nat → σ → Option σ} {fin : σ → Option β} {t : σ} {m : MS} (hc : zlz see B) (hm : see t = some m) (ho : zyd m = true) : mrC see B fin t = zxk B fin m.es.length 0 t := by
  rw [zp5 hc]; unfold zuz; rw [hm]; simp only [ho]
def Vl (B : Nat → σ → Option σ) : List Nat → σ → Option σ
  | [], t => some t
  | j :: L, t => ja (B j t) (Vl B L)
theorem zaa {α γ δ : Type} (o : Option α) (f : α → Option γ) (g : γ → Option δ) : ja (ja o f) g = ja o fun x => ja (f x) g := by cases o <;> rfl
theorem zhg {B : Nat → σ → Option σ} {fin : σ → Option β} : ∀ (m j : Nat) (t : σ), zxk B fin m j t = ja (Vl B (List.range' j m) t) fin
  | 0, j, t => rfl
  | m + 1, j, t => by
    rw [List.range'_succ]
    simp only [zxk, Vl, zaa]
    congr 1
    funext s
    exact zhg m (j + 1) s
theorem zbw {B : Nat → σ → Option σ} : ∀ (L M : List Nat) (t : σ), Vl B (L ++ M) t = ja (Vl B L t) (Vl B M)
  | [], M, t => rfl
  | j :: L, M, t => by
    simp only [wd8, Vl, zaa]
    congr 1
    funext s
    exact zbw L M s
def zef (L : List Nat) (k : List Bool) : List Bool := L.foldl (fun k j => k.set j true) k
theorem zo8 : ∀ (L : List Nat) (k : List Bool), (zef L k).length = k.length
  | [], k => rfl
  | j :: L, k => by
    show (zef L (k.set j true)).length = _
    rw [zo8 L]; simp
theorem zg9 : ∀ (L : List Nat) (k : List Bool) (i : Nat), i < k.length → (zef L k)[i]? = if i ∈ L then some true else k[i]?
  | [], k, i, _ => by simp [zef]
  | j :: L, k, i, h => by
    show (zef L (k.set j true))[i]? = _
    rw [zg9 L _ i (by simpa using h), wee]
    by_cases h1 : i ∈ L
    · simp [h1]
    · by_cases h2 : j = i
      · subst h2; simp [h1, h]
      · simp [h1, h2, Ne.symm h2]
theorem zor {see : σ → Option MS} {B : Nat → σ → Option σ} (hc : zlz see B) : ∀ (L : List Nat) (t t' : σ) (m : MS), Vl B L t = some t' → see t = some m → see t' = some { m with mask := zef L m.mask }
  | [], t, t', m, h, hm => by cases h; exact hm
  | j :: L, t, t', m, h, hm => by
    obtain ⟨s, h1, h2⟩ := qg h
    exact zor hc L s t' _ h2 (hc.keep j t s m h1 hm)
theorem znc {see : σ → Option MS} {B : Nat → σ → Option σ} (hc : zlz see B) {m : MS} (hd : ∀ (i j : Nat) a b, i ≠ j → m.es[i]? = some a → m.es[j]? = some b → a.1 ≠ b.1) {L1 L2 : List Nat} (hp : L1.Perm L2) : L1.Nodup → (∀ j ∈ L1, j < m.es.length) → ∀ (t : σ) (k : List Bool), see t = some { m with mask := k } → Vl B L1 t = Vl B L2 t := by
  induction hp with
  | nil => intro _ _ _ _ _; rfl
  | cons x _ ih =>
    intro hn hl t k hm
    simp only [Vl]
    cases h : B x t with
    | none => rfl
    | some s => exact ih (List.nodup_cons.1 hn).2 (fun j hj => hl j (by simp [hj])) s _ (hc.keep x t s { m with mask := k } h hm)
  | swap x y l =>
    intro hn hl t k hm
    have hne : y ≠ x := fun e => by subst e; simp at hn
    have hy := hl y (by simp)
    have hx := hl x (by simp)
    simp only [Vl]
    rw [← zaa, ← zaa, hc.swap y x t { m with mask := k } _ _ hne hm (wb5 hy) (wb5 hx) (hd _ _ _ _ hne (wb5 hy) (wb5 hx))]
  | trans h1 h2 ih1 ih2 =>
    intro hn hl t k hm
    rw [ih1 hn hl t k hm, ih2 (h1.nodup_iff.1 hn) (fun j hj => hl j (h1.mem_iff.2 hj)) t k hm]
theorem zsz {see : σ → Option MS} {B : Nat → σ → Option σ} (hc : zlz see B) {m : MS} (hd : ∀ (i j : Nat) a b, i ≠ j → m.es[i]? = some a → m.es[j]? = some b → a.1 ≠ b.1) {L : List Nat} (hn : L.Nodup) (hl : ∀ j ∈ L, j < m.es.length) {t tn : σ} (hm : see t = some m) (h : Vl B (List.range' 0 m.es.length) t = some tn) : ∃ s, Vl B L t = some s := by
  have hp : (L ++ (range m.es.length).filter fun i => !L.contains i).Perm (List.range' 0 m.es.length) := by
    rw [← wd6]
    refine (List.perm_ext_iff_of_nodup ?_ List.nodup_range).2 fun i => ?_
    · rw [List.nodup_append]
      refine ⟨hn, List.nodup_range.sublist List.filter_sublist, fun a ha b hb e => ?_⟩
      subst e
      simp at hb
      exact hb.2 ha
    · simp only [wcr, List.mem_filter, wdw, wc5]
      constructor
      · rintro (h | h)
        · exact hl i h
        · exact h.1
      · intro h
        by_cases hi : i ∈ L
        · exact .inl hi
        · exact .inr ⟨h, by simpa using hi⟩
  have := znc hc hd hp (hp.nodup_iff.2 (by rw [← wd6]; exact List.nodup_range)) (fun j hj => by have := hp.mem_iff.1 hj; rw [← wd6] at this; exact wdw.1 this) t m.mask hm
  rw [h, zbw] at this
  obtain ⟨s, h1, _⟩ := qg this
  exact ⟨s, h1⟩
theorem zxl {see : σ → Option MS} {B : Nat → σ → Option σ} (hc : zlz see B) {m : MS} (hd : ∀ (i j : Nat) a b, i ≠ j → m.es[i]? = some a → m.es[j]? = some b → a.1 ≠ b.1) {L : List Nat} (hn : L.Nodup) (hl : ∀ j, j ∈ L ↔ j < m.es.length) {t tn s : σ} (hm : see t = some m) (h : Vl B (List.range' 0 m.es.length) t = some tn) (hs : Vl B L t = some s) : s = tn := by
  have hp : L.Perm (List.range' 0 m.es.length) := by
    rw [← wd6]
    exact (List.perm_ext_iff_of_nodup hn List.nodup_range).2 fun i => by rw [hl, wdw]
  have := znc hc hd hp hn (fun j hj => (hl j).1 hj) t m.mask hm
  rw [h, hs] at this
  exact wen this
end
def mrV (m : MS) (j : Nat) (e : m.kt.D × List m.t.D × Unit) : TS := .tup [.c (.bool true), .v ⟨m.kt, e.1⟩, .kid m.mid (j : Int) (m.mver + m.kv)]
def mrG (m : MS) (G : EG) (j : Nat) : EG := G.set m.it ⟨m.ver, some (.iter m.mid m.mver (m.mask.set j true) (some j))⟩
def zwq (n : Nat) (o : Oper) : Option Operand := match o.op with
  | .next x false => match o.guard with
    | none => match zyb n o with
      | true => some x
      | false => none
    | _ => none
  | _ => none
theorem zux {n : Nat} {o : Oper} {x : Operand} (h : zwq n o = some x) : o.op = .next x false ∧ o.guard = none ∧ Jc n o := by
  unfold zwq at h
  split at h <;> try (cases h; done)
  rename_i x' ho
  split at h <;> try (cases h; done)
  rename_i hg
  split at h <;> cases h
  rename_i hd
  exact ⟨ho, hg, zqo hd⟩
theorem zuf {x : Operand} {E : EF} {G : EG} {m : MS} (h : zrv x E G = some m) : evE E x = .own m.it m.ver ∧ G m.it = ⟨m.ver, some (.iter m.mid m.mver m.mask none)⟩ ∧ G m.mid = ⟨m.mver, some (.mrows m.kt m.lt m.t m.es m.kv none)⟩ ∧ plT m.kt = true := by
  unfold zrv at h
  split at h <;> try (cases h; done)
  rename_i it ver hx
  split at h <;> try (cases h; done)
  rename_i hv
  split at h <;> try (cases h; done)
  rename_i hb
  split at h <;> try (cases h; done)
  rename_i hv2
  split at h <;> try (cases h; done)
  rename_i hb2
  split at h <;> cases h
  rename_i hp
  refine ⟨hx, ?_, ?_, hp⟩
  · rw [← hb, ← wb2 hv]
  · rw [← hb2, ← wb2 hv2]
theorem zo0 {H : PHeap} {id : Nat} {x : GB} (hf : x.flat = true) (h : ∀ j, H (.c id j) = ⟨x.ver, none⟩) : H.set (.o id) (qr id x) = zcj H id x := by
  funext k
  unfold PHeap.set zcj
  cases k with
  | o i => by_cases e : i = id <;> simp [Nm.rt, ym, e]
  | r _ => simp [Nm.rt]
  | c i j =>
    by_cases e : i = id
    · subst e; simp [Nm.rt, ym, zhy hf, h]
    · simp [Nm.rt, e]
section
variable {P : Program} {W : Env} {n : Nat} {R : PHeap}
theorem z4i {ops : Array Oper} {o : Oper} {l : List Oper} {E : EF} {G : EG} {x : Operand} {m : MS} {K : PFrame → PHeap → Prop} (hh : zwq n o = some x) (hs : zrv x E G = some m) (hl : m.mask.length = m.es.length)
    (h0 : (∀ i, i < m.es.length → m.mask[i]? = some true) → PL P W n ops l (v6 (E.put o.dst (.tup [.c (.bool false)]))) (qd G R) K)
    (h1 : ∀ j e, m.es[j]? = some e → m.mask[j]? = some false → PL P W n ops l (v6 (E.put o.dst (mrV m j e))) (qd (mrG m G j) R) K) : PL P W n ops (o :: l) (v6 E) (qd G R) K := by
  obtain ⟨ho, hg, hd⟩ := zux hh
  obtain ⟨s1, s2, s3, s4⟩ := zuf hs
  have hH : qd G R (.o m.mid) = ⟨m.mver, some (y6 (m.es.map fun e => oV m.kt e.1) (range m.es.length) m.es.length ((range m.es.length).map (Hole.cell m.mid (m.mver + m.kv) none)))⟩ := by
    show qr m.mid (G m.mid) = _
    rw [s3]; rfl
  have hHr : qd G R (.o m.it) = ⟨m.ver, some (itB (.o m.mid) m.mver m.mask none)⟩ := by
    show qr m.it (G m.it) = _
    rw [s2]; rfl
  refine PL.cons (by unfold zu; rw [hg]) (wbx ho hd hH hHr hl (by rw [zkh, s1]; simp only [TS.den]) (fun hall => ?_) fun j c k hj hc hk hmj => ?_)
  · have := h0 hall
    rw [zde] at this
    exact this
  · have he : m.es[j]? = some m.es[j] := wb5 hj
    have := h1 j _ he hmj
    rw [zde] at this
    rw [wb9, he] at hk
    rw [wb9, List.getElem?_range hj] at hc
    cases hk; cases hc
    have e1 : (mrV m j m.es[j]).den = .tup [.u (.bool true), ofV (oV m.kt m.es[j].1), Hole.cell m.mid (m.mver + m.kv) none j] := by
      simp only [mrV, TS.den, q8, zlv _ _ s4]
      rfl
    have e2 : qd (mrG m G j) R = (qd G R).set (.o m.it) ⟨m.ver, some (itB (.o m.mid) m.mver (m.mask.set j true) (some j))⟩ := by
      unfold mrG
      rw [zs5, ← zo0 rfl fun i => ?_]
      · rfl
      · show Qp (G m.it) i = _
        rw [s2]; rfl
    rw [e1, e2] at this
    exact this
end
inductive HK where
  | meet (h : LH)
  | unroll (m : Nat)
  | mr (h : LH)
  | cut (h0 h : LH)
abbrev EK (β : Type) := Exit → Nat → EF → EG → Option β
def zun {β : Type} (B : Nat → Nat → EF → EG → EK β → Option β) (k : EK β) : Nat → Nat → Nat → EF → EG → Option β
  | 0, _, _, _, _ => none
  | m + 1, p, nx, E, G => B (2 * p) nx E G fun e nx' E' G' => match e with
    | .normal => zun B k m (2 * p + 1) nx' E' G'
    | e => k e nx' E' G'
section
variable (sy : SyT) (fuel : Nat) (hint : Nat → Option HK) (ctx b n : Nat)
def ztm {β : Type} (id : Nat) (ops : Array Oper) (draw : Bool) (nx : Nat) (E : EF) (G : EG) (k : EF → EG → Option β) : Option β := match draw with
  | false => Qo sy ctx n ops id nx ops.toList 0 E G [] fun E' G' _ => k E' G'
  | true => Qo sy ctx n ops id nx ops.toList 0 E G [] fun E' G' acc => match zvk ops acc with
    | true => k E' G'
    | false => none
noncomputable def ql : Code → Nat → Nat → {β : Type} → EF → EG → EK β → Option β
  | .skip, _, nx, _, E, G, k => k .normal nx E G
  | .ret, _, nx, _, E, G, k => k .ret nx E G
  | .exit id, _, nx, _, E, G, k => k (.exit id) nx E G
  | .seq x y, p, nx, _, E, G, k => match hint p with
    | some (.meet h) => J (fun t => ql y (2 * p + 1) h.nx (unE h (vq h.tys t)) (unG h (vq h.tys t)) k) fun j => ql x (2 * p) nx E G fun e nx' E' G' => match e with
      | .normal => meet b h j E' G'
      | e => k e nx' E' G'
    | some (.cut h0 h) => match zq7 b h0 E G with
      | none => none
      | some t0 => ja (ql x (2 * p) h0.nx (unE h0 (vq h0.tys t0)) (unG h0 (vq h0.tys t0)) fun e nx' E' G' => match e with
        | .normal => zq7 b h E' G'
        | _ => none) fun t => ql y (2 * p + 1) h.nx (unE h (vq h.tys t)) (unG h (vq h.tys t)) k
    | _ => ql x (2 * p) nx E G fun e nx' E' G' => match e with
      | .normal => ql y (2 * p + 1) nx' E' G' k
      | e => k e nx' E' G'
  | .cond c x y, p, nx, _, E, G, k => match evE E c with
    | .c (.bool true) => ql x (2 * p) nx E G k
    | .c (.bool false) => ql y (2 * p + 1) nx E G k
    | .v ⟨.bool, c⟩ => ifB c (ql x (2 * p) nx E G k) (ql y (2 * p + 1) nx E G k)
    | _ => none
  | .block id c, p, nx, _, E, G, k => match hint p with
    | some (.meet h) => J (fun t => k .normal h.nx (unE h (vq h.tys t)) (unG h (vq h.tys t))) fun j => ql c (2 * p) nx E G fun e nx' E' G' => match e with
      | .exit id' => if id' = id then meet b h j E' G' else k (.exit id') nx' E' G'
      | .normal => meet b h j E' G'
      | e => k e nx' E' G'
    | _ => ql c (2 * p) nx E G fun e nx' E' G' => match e with
      | .exit id' => if id' = id then k .normal nx' E' G' else k (.exit id') nx' E' G'
      | e => k e nx' E' G'
  | .loop c, p, nx, _, E, G, k => match hint p with
    | none => none
    | some (.cut _ _) => none
    | some (.unroll m) => zun (fun p nx E G k => ql c p nx E G k) k m p nx E G
    | some (.meet h) => meet b h (fun t => jr (fun t next => ql c (2 * p) h.nx (unE h (vq h.tys t)) (unG h (vq h.tys t)) fun e nx' E' G' => match e with
      | .normal => meet b h next E' G'
      | e => k e nx' E' G') fuel t) E G
    | some (.mr h) => match c with
      | .seq (.region id ops false) y => match ops.toList with
        | [] => none
        | o :: l => match zwq n o with
          | none => none
          | some x => meet b h (mrC (fun t => zrv x (unE h (vq h.tys t)) (unG h (vq h.tys t)))
            (fun j t => match zrv x (unE h (vq h.tys t)) (unG h (vq h.tys t)) with
              | none => none
              | some m => ja (zh0 m.es j) fun e => Qo sy ctx n ops id h.nx l 1 ((unE h (vq h.tys t)).put o.dst (mrV m j e)) (mrG m (unG h (vq h.tys t)) j) [] fun E' G' _ => ql y (2 * (2 * p) + 1) (h.nx + NB * (l.length + 1)) E' G' fun e _ E2 G2 => match e with
                | .normal => zq7 b h E2 G2
                | _ => none)
            fun t => Qo sy ctx n ops id h.nx l 1 ((unE h (vq h.tys t)).put o.dst (.tup [.c (.bool false)])) (unG h (vq h.tys t)) [] fun E' G' _ => ql y (2 * (2 * p) + 1) (h.nx + NB * (l.length + 1)) E' G' fun e nx' E2 G2 => match e with
              | .normal => none
              | e => k e nx' E2 G2) E G
      | _ => none
  | .region id ops draw, p, nx, _, E, G, k => match hint p with
    | some (.meet h) => J (fun t => k .normal h.nx (unE h (vq h.tys t)) (unG h (vq h.tys t))) fun j => ztm sy ctx n id ops draw nx E G fun E' G' => meet b h j E' G'
    | _ => ztm sy ctx n id ops draw nx E G fun E' G' => k .normal (nx + NB * ops.toList.length) E' G'
  | .scope c, p, nx, _, E, G, k => ql c (2 * p) nx E G fun e nx' E' G' => match e with
    | .goto _ => none
    | e => k e nx' E' G'
  | .label _, _, nx, _, E, G, k => k .normal nx E G
  | _, _, _, _, _, _, _ => none
end
def OutC (P : Program) (b n : Nat) (c : Code) (E : EF) (G : EG) (e : Exit) (E' : EF) (G' : EG) : Prop :=
  ∀ (W : Env) (R : PHeap), GhOk b W → RestOk b R → PC P W n c (v6 E) (qd G R) fun e2 F' H' => e2 = e ∧ F' = v6 E' ∧ H' = qd G' R
def Ren (P : Program) (b n : Nat) (E : EF) (G : EG) (E' : EF) (G' : EG) : Prop :=
  ∀ (W : Env) (R : PHeap), GhOk b W → RestOk b R → ∀ V a w, Rel P W n (v6 E) (qd G R) V a w → ∃ V', Rel P W n (v6 E') (qd G' R) V' a w
theorem Ren.refl {P : Program} {b n : Nat} {E : EF} {G : EG} : Ren P b n E G E G := fun W R _ _ V a w h => ⟨V, h⟩
inductive LP (P : Program) (b n : Nat) (c : Code) (e : Exit) (E' : EF) (G' : EG) : Nat → EF → EG → Prop
  | last {E : EF} {G : EG} (he : e ≠ .normal) (h : OutC P b n c E G e E' G') : LP P b n c e E' G' 0 E G
  | round {m : Nat} {E E1 E2 : EF} {G G1 G2 : EG} (h : OutC P b n c E G .normal E1 G1) (hr : Ren P b n E1 G1 E2 G2) (hs : LP P b n c e E' G' m E2 G2) : LP P b n c e E' G' (m + 1) E G
section
variable {P : Program} {W : Env} {n b ctx : Nat} {R : PHeap} {sy : SyT} {fuel : Nat} {hint : Nat → Option HK} {β : Type}
theorem wbz {c : Code} {F : PFrame} {H : PHeap} {Q Q' : Exit → PFrame → PHeap → Prop} (h : PC P W n c F H Q) (hq : ∀ e F H, Q e F H → ∀ V a w, Rel P W n F H V a w → ∃ F' H' V', Q' e F' H' ∧ Rel P W n F' H' V' a w) : PC P W n c F H Q' := fun V a w Q2 hr hQ => h V a w Q2 hr fun e F' H' V' a' w' hk hr' => by
  obtain ⟨F2, H2, V2, h1, h2⟩ := hq e F' H' hk V' a' w' hr'
  exact hQ e F2 H2 V2 a' w' h1 h2
theorem Qj {h : LH} {j : DL h.tys → Option β} {E : EF} {G : EG} {r : β} (hm : meet b h j E G = some r) : ∃ t, zq7 b h E G = some t ∧ j t = some r ∧ ∀ {γ : Type} (j2 : DL h.tys → Option γ), meet b h j2 E G = j2 t := by
  unfold meet at hm
  cases hp : zq7 b h E G with
  | none => rw [hp] at hm; cases hm
  | some t => rw [hp] at hm; exact ⟨t, rfl, hm, fun j2 => by unfold meet; rw [hp]⟩
theorem Q6 {h : LH} {E : EF} {G : EG} {t : DL h.tys} (hp : zq7 b h E G = some t) : Ren P b n E G (unE h (vq h.tys t)) (unG h (vq h.tys t)) := fun W R hg hR V a w hr => by
  unfold zq7 at hp
  split at hp
  · rename_i r hl
    rw [zwk hp]
    exact z0x hl hg hR hr
  · cases hp
theorem OutC.ren {c : Code} {E E1 E2 : EF} {G G1 G2 : EG} {e : Exit} (h : OutC P b n c E G e E1 G1) (hr : Ren P b n E1 G1 E2 G2) : OutC P b n c E G e E2 G2 := fun W R hg hR =>
  wbz (h W R hg hR) fun e2 F' H' ⟨h1, h2, h3⟩ V a w hrel => by
    subst h1; subst h2; subst h3
    obtain ⟨V', h5⟩ := hr W R hg hR V a w hrel
    exact ⟨_, _, V', ⟨rfl, rfl, rfl⟩, h5⟩
theorem OutC.into {c : Code} {E E0 E1 : EF} {G G0 G1 : EG} {e : Exit} (hr : Ren P b n E0 G0 E G) (h : OutC P b n c E G e E1 G1) : OutC P b n c E0 G0 e E1 G1 := fun W R hg hR V a w Q' hrel hQ => by
  obtain ⟨V', h3⟩ := hr W R hg hR V a w hrel
  exact h W R hg hR V' a w Q' h3 hQ
theorem OutC.seq {x y : Code} {E E1 E2 : EF} {G G1 G2 : EG} {e : Exit} (h1 : OutC P b n x E G .normal E1 G1) (h2 : OutC P b n y E1 G1 e E2 G2) : OutC P b n (.seq x y) E G e E2 G2 := fun W R hg hR =>
  PC.seq fun K hK => PC.mono (h1 W R hg hR) fun e' F H ⟨a1, a2, a3⟩ => by
    subst a1; subst a2; subst a3
    exact hK _ _ (h2 W R hg hR)
theorem OutC.seqX {x y : Code} {E E1 : EF} {G G1 : EG} {e : Exit} (h1 : OutC P b n x E G e E1 G1) (he : e ≠ .normal) : OutC P b n (.seq x y) E G e E1 G1 := fun W R hg hR =>
  PC.seq fun K hK => PC.mono (h1 W R hg hR) fun e' F H ⟨a1, a2, a3⟩ => by
    subst a1; subst a2; subst a3
    cases e' with
    | normal => exact absurd rfl he
    | _ => exact ⟨rfl, rfl, rfl⟩
theorem OutC.block {id : Nat} {c : Code} {E E1 : EF} {G G1 : EG} {e : Exit} (h : OutC P b n c E G e E1 G1) : OutC P b n (.block id c) E G (match e with
    | .exit id' => if id' = id then .normal else .exit id'
    | e => e) E1 G1 := fun W R hg hR => PC.block (PC.mono (h W R hg hR) fun e' F H ⟨a1, a2, a3⟩ => by
  subst a1; subst a2; subst a3
  cases e' with
  | exit id' =>
    simp only [zmd]
    by_cases e : id' = id
    · rw [if_pos e, if_pos e]; simp
    · rw [if_neg e, if_neg e]; simp
  | _ => exact ⟨rfl, rfl, rfl⟩)
theorem OutC.loop {c : Code} {E E' : EF} {G G' : EG} {e : Exit} {m : Nat} (h : LP P b n c e E' G' m E G) : OutC P b n (.loop c) E G e E' G' := fun W R hg hR => by
  refine PC.loop (fun m F H => ∃ E G, F = v6 E ∧ H = qd G R ∧ LP P b n c e E' G' m E G) (m := m) ⟨E, G, rfl, rfl, h⟩ fun m F H ⟨E, G, h1, h2, hI⟩ => ?_
  subst h1; subst h2
  cases hI with
  | last he h =>
    refine PC.mono (h W R hg hR) fun e2 F' H' ⟨a1, a2, a3⟩ => ?_
    subst a1; subst a2; subst a3
    cases e2 with
    | normal => exact absurd rfl he
    | _ => exact ⟨rfl, rfl, rfl⟩
  | round h hr hs =>
    refine PC.mono (h.ren hr W R hg hR) fun e2 F' H' ⟨a1, a2, a3⟩ => ?_
    subst a1; subst a2; subst a3
    exact ⟨_, Nat.lt_succ_self _, _, _, rfl, rfl, hs⟩
theorem OutC.cond {q : Operand} {x y : Code} {E E1 : EF} {G G1 : EG} {e : Exit} {t : Bool} (hc : evP (v6 E) q = .u (.bool t)) (h : OutC P b n (match t with
    | true => x
    | false => y) E G e E1 G1) : OutC P b n (.cond q x y) E G e E1 G1 := fun W R hg hR =>
  PC.cond hc (fun e => by subst e; exact h W R hg hR) (fun e => by subst e; exact h W R hg hR)
theorem OutC.scope {c : Code} {E E1 : EF} {G G1 : EG} {e : Exit} (h : OutC P b n c E G e E1 G1) (he : ∀ l, e ≠ .goto l) : OutC P b n (.scope c) E G e E1 G1 := fun W R hg hR =>
  PC.scope (PC.mono (h W R hg hR) fun e2 F H ⟨a1, a2, a3⟩ => by
    subst a1; subst a2; subst a3
    cases e2 <;> first | exact ⟨rfl, rfl, rfl⟩ | exact absurd rfl (he _))
theorem GhOk.fl (h : GhOk b W) : ∀ i, Fl (W.G i) := fun i => (h i).fl
theorem RestOk.fl (h : RestOk b R) : RFl R := fun i bd hb c hc => (h i bd hb c hc).fl
theorem zwn (hsy : znb P sy) (hm : P.follows .mixedOrders = true) {id : Nat} {ops : Array Oper} {draw : Bool} {nx : Nat} {E : EF} {G : EG} {k : EF → EG → Option β} {r : β} (h : ztm sy ctx n id ops draw nx E G k = some r) :
    ∃ E' G', k E' G' = some r ∧ (∀ {γ : Type} (k2 : EF → EG → Option γ), ztm sy ctx n id ops draw nx E G k2 = k2 E' G') ∧ OutC P b n (.region id ops draw) E G .normal E' G' := by
  cases draw with
  | false =>
    simp only [ztm] at h
    obtain ⟨cs, rts, E', G', hs, hk, hu⟩ := Zi hsy _ _ _ _ _ h
    refine ⟨E', G', hk, fun k2 => by simp only [ztm]; exact hu _, fun W R hg hR => ?_⟩
    obtain ⟨l⟩ := ops
    exact PC.region (Steps.seq (GhOk.fl hg) (RestOk.fl hR) hs ⟨rfl, rfl, rfl⟩)
  | true =>
    simp only [ztm] at h
    obtain ⟨cs, rts, E', G', hs, hk, hu⟩ := Zi hsy _ _ _ _ _ h
    simp only [wc2] at hk hu
    split at hk <;> try (cases hk; done)
    rename_i hdo
    exact ⟨E', G', hk, fun k2 => by simp only [ztm]; rw [hu]; simp only [hdo], fun W R hg hR => Steps.drawn (GhOk.fl hg) (RestOk.fl hR) hm hs hdo⟩
def Ends (P : Program) (sy : SyT) (fuel : Nat) (hint : Nat → Option HK) (ctx b n : Nat) {β : Type} (c : Code) (p nx : Nat) (E : EF) (G : EG) (k : EK β) (r : β) : Prop :=
  ∃ e nx' E' G', k e nx' E' G' = some r ∧ (∀ {γ : Type} (k2 : EK γ), ql sy fuel hint ctx b n c p nx E G k2 = k2 e nx' E' G') ∧ OutC P b n c E G e E' G'
theorem vk (hm : P.follows .mixedOrders = true) (hsy : znb P sy) : ∀ (c : Code) (p nx : Nat) {β : Type} (E : EF) (G : EG) (k : EK β) (r : β), ql sy fuel hint ctx b n c p nx E G k = some r → Ends P sy fuel hint ctx b n c p nx E G k r
  | .skip, p, nx, β, E, G, k, r, h => ⟨.normal, nx, E, G, by simpa only [ql] using h, fun k2 => by simp only [ql], fun W R _ _ => PC.skip ⟨rfl, rfl, rfl⟩⟩
  | .ret, p, nx, β, E, G, k, r, h => ⟨.ret, nx, E, G, by simpa only [ql] using h, fun k2 => by simp only [ql], fun W R _ _ => PC.ret ⟨rfl, rfl, rfl⟩⟩
  | .exit id, p, nx, β, E, G, k, r, h => ⟨.exit id, nx, E, G, by simpa only [ql] using h, fun k2 => by simp only [ql], fun W R _ _ => PC.exit ⟨rfl, rfl, rfl⟩⟩
  | .label l, p, nx, β, E, G, k, r, h => ⟨.normal, nx, E, G, by simpa only [ql] using h, fun k2 => by simp only [ql], fun W R _ _ => PC.label ⟨rfl, rfl, rfl⟩⟩
  | .scope c, p, nx, β, E, G, k, r, h => by
    simp only [ql] at h
    obtain ⟨e, nx', E', G', hk, hu, ho⟩ := vk hm hsy c (2 * p) nx E G _ r h
    have he : ∀ l, e ≠ .goto l := fun l e1 => by subst e1; cases hk
    refine ⟨e, nx', E', G', ?_, fun k2 => ?_, ho.scope he⟩
    · cases e <;> first | exact hk | exact absurd rfl (he _)
    · simp only [ql]; rw [hu]
      cases e <;> first | rfl | exact absurd rfl (he _)
  | .seq x y, p, nx, β, E, G, k, r, h => by
    simp only [ql] at h
    split at h
    · rename_i lh hp
      unfold J at h
      obtain ⟨e, nx', E', G', hk, hu, ho⟩ := vk hm hsy x (2 * p) nx E G _ r h
      cases e with
      | normal =>
        obtain ⟨t, g1, g2, g3⟩ := Qj hk
        obtain ⟨e2, nx2, E2, G2, hk2, hu2, ho2⟩ := vk hm hsy y _ _ _ _ k r g2
        exact ⟨e2, nx2, E2, G2, hk2, fun k2 => by simp only [ql, hp, J]; rw [hu]; simp only; rw [g3]; exact hu2 k2, (ho.ren (Q6 g1)).seq ho2⟩
      | _ => exact ⟨_, nx', E', G', hk, fun k2 => by simp only [ql, hp, J]; rw [hu], ho.seqX (fun e => by cases e)⟩
    · rename_i h0 lh hp
      split at h <;> try (cases h; done)
      rename_i t0 hp0
      obtain ⟨t, ht, hk⟩ := qg h
      obtain ⟨e, nx', E', G', h1, hu, ho⟩ := vk hm hsy x (2 * p) _ _ _ _ t ht
      cases e with
      | normal =>
        obtain ⟨e2, nx2, E2, G2, hk2, hu2, ho2⟩ := vk hm hsy y _ _ _ _ k r hk
        refine ⟨e2, nx2, E2, G2, hk2, fun k2 => ?_, (OutC.into (Q6 hp0) (ho.ren (Q6 h1))).seq ho2⟩
        simp only [ql, hp, hp0]
        rw [ht]
        exact hu2 k2
      | _ => cases h1
    · rename_i hp hpc
      obtain ⟨e, nx', E', G', hk, hu, ho⟩ := vk hm hsy x (2 * p) nx E G _ r h
      cases e with
      | normal =>
        obtain ⟨e2, nx2, E2, G2, hk2, hu2, ho2⟩ := vk hm hsy y _ nx' E' G' k r hk
        refine ⟨e2, nx2, E2, G2, hk2, fun k2 => ?_, ho.seq ho2⟩
        rw [ql]
        split
        · rename_i lh hp'; exact absurd hp' (hp lh)
        · rename_i h0 lh hp'; exact absurd hp' (hpc h0 lh)
        · rw [hu]; exact hu2 k2
      | _ =>
        refine ⟨_, nx', E', G', hk, fun k2 => ?_, ho.seqX (fun e => by cases e)⟩
        rw [ql]
        split
        · rename_i lh hp'; exact absurd hp' (hp lh)
        · rename_i h0 lh hp'; exact absurd hp' (hpc h0 lh)
        · rw [hu]
  | .cond c x y, p, nx, β, E, G, k, r, h => by
    simp only [ql] at h
    split at h
    · rename_i hc
      obtain ⟨e, nx', E', G', hk, hu, ho⟩ := vk hm hsy x (2 * p) nx E G k r h
      exact ⟨e, nx', E', G', hk, fun k2 => by simp only [ql, hc]; exact hu k2, OutC.cond (t := true) (by rw [zkh, hc]; simp only [TS.den]; rfl) ho⟩
    · rename_i hc
      obtain ⟨e, nx', E', G', hk, hu, ho⟩ := vk hm hsy y (2 * p + 1) nx E G k r h
      exact ⟨e, nx', E', G', hk, fun k2 => by simp only [ql, hc]; exact hu k2, OutC.cond (t := false) (by rw [zkh, hc]; simp only [TS.den]; rfl) ho⟩
    · rename_i q hc
      have e1 : evP (v6 E) c = .u (.bool q) := by rw [zkh, hc]; simp only [TS.den]; rfl
      unfold ifB at h
      split at h
      · obtain ⟨e, nx', E', G', hk, hu, ho⟩ := vk hm hsy x (2 * p) nx E G k r h
        exact ⟨e, nx', E', G', hk, fun k2 => by simp only [ql, hc, ifB]; exact hu k2, OutC.cond e1 ho⟩
      · obtain ⟨e, nx', E', G', hk, hu, ho⟩ := vk hm hsy y (2 * p + 1) nx E G k r h
        exact ⟨e, nx', E', G', hk, fun k2 => by simp only [ql, hc, ifB]; exact hu k2, OutC.cond e1 ho⟩
    · cases h
  | .block id c, p, nx, β, E, G, k, r, h => by
    simp only [ql] at h
    split at h
    · rename_i lh hp
      unfold J at h
      obtain ⟨e, nx', E', G', hk, hu, ho⟩ := vk hm hsy c (2 * p) nx E G _ r h
      cases e with
      | exit id' =>
        simp only at hk hu
        by_cases e : id' = id
        · rw [if_pos e] at hk
          obtain ⟨t, g1, g2, g3⟩ := Qj hk
          refine ⟨_, _, _, _, g2, fun k2 => by simp only [ql, hp, J]; rw [hu]; simp only; rw [if_pos e]; exact g3 _, ?_⟩
          have := (ho.ren (Q6 g1)).block (id := id)
          simp only [if_pos e] at this; exact this
        · rw [if_neg e] at hk
          refine ⟨_, _, _, _, hk, fun k2 => by simp only [ql, hp, J]; rw [hu]; simp only; rw [if_neg e], ?_⟩
          have := ho.block (id := id)
          simp only [if_neg e] at this; exact this
      | normal =>
        obtain ⟨t, g1, g2, g3⟩ := Qj hk
        exact ⟨_, _, _, _, g2, fun k2 => by simp only [ql, hp, J]; rw [hu]; exact g3 _, (ho.ren (Q6 g1)).block⟩
      | _ => exact ⟨_, _, _, _, hk, fun k2 => by simp only [ql, hp, J]; rw [hu], ho.block⟩
    · rename_i hp
      obtain ⟨e, nx', E', G', hk, hu, ho⟩ := vk hm hsy c (2 * p) nx E G _ r h
      have un : ∀ {γ : Type} (k2 : EK γ), ql sy fuel hint ctx b n (.block id c) p nx E G k2 = match e with
        | .exit id' => if id' = id then k2 .normal nx' E' G' else k2 (.exit id') nx' E' G'
        | e => k2 e nx' E' G' := fun {γ} k2 => by
        rw [ql]
        split
        · rename_i lh hp'; exact absurd hp' (hp lh)
        · rw [hu]; cases e <;> rfl
      cases e with
      | exit id' =>
        simp only at hk un
        by_cases e : id' = id
        · rw [if_pos e] at hk
          refine ⟨_, _, _, _, hk, fun k2 => by rw [un, if_pos e], ?_⟩
          have := ho.block (id := id)
          simp only [if_pos e] at this; exact this
        · rw [if_neg e] at hk
          refine ⟨_, _, _, _, hk, fun k2 => by rw [un, if_neg e], ?_⟩
          have := ho.block (id := id)
          simp only [if_neg e] at this; exact this
      | _ => exact ⟨_, _, _, _, hk, fun k2 => un k2, ho.block⟩
  | .loop c, p, nx, β, E, G, k, r, h => by
    simp only [ql] at h
    split at h
    · cases h
    · cases h
    · rename_i m hp
      have key : ∀ (m p nx : Nat) (E : EF) (G : EG), zun (fun p nx E G k => ql sy fuel hint ctx b n c p nx E G k) k m p nx E G = some r → ∃ e nx' E' G' j, k e nx' E' G' = some r ∧ (∀ {γ : Type} (k2 : EK γ), zun (fun p nx E G k => ql sy fuel hint ctx b n c p nx E G k) k2 m p nx E G = k2 e nx' E' G') ∧ LP P b n c e E' G' j E G := by
        intro m
        induction m with
        | zero => intro p nx E G h; cases h
        | succ m ih =>
          intro p nx E G h
          simp only [zun] at h
          obtain ⟨e, nx', E', G', hk, hu, ho⟩ := vk hm hsy c (2 * p) nx E G _ r h
          cases e with
          | normal =>
            obtain ⟨e2, nx2, E2, G2, j, hk2, hu2, hl⟩ := ih (2 * p + 1) nx' E' G' hk
            exact ⟨e2, nx2, E2, G2, j + 1, hk2, fun k2 => by simp only [zun]; rw [hu]; exact hu2 k2, .round ho Ren.refl hl⟩
          | _ => exact ⟨_, nx', E', G', 0, hk, fun k2 => by simp only [zun]; rw [hu], .last (fun e => by cases e) ho⟩
      obtain ⟨e, nx', E', G', j, hk, hu, hl⟩ := key m p nx E G h
      exact ⟨e, nx', E', G', hk, fun k2 => by simp only [ql, hp]; exact hu k2, OutC.loop hl⟩
    · rename_i lh hp
      obtain ⟨t, g1, g2, g3⟩ := Qj h
      have key : ∀ (m : Nat) (t : DL lh.tys), jr (fun t next => ql sy fuel hint ctx b n c (2 * p) lh.nx (unE lh (vq lh.tys t)) (unG lh (vq lh.tys t)) fun e nx' E' G' => match e with
          | .normal => meet b lh next E' G'
          | e => k e nx' E' G') m t = some r → ∃ e nx' E' G' j, k e nx' E' G' = some r ∧ (∀ {γ : Type} (k2 : EK γ), jr (fun t next => ql sy fuel hint ctx b n c (2 * p) lh.nx (unE lh (vq lh.tys t)) (unG lh (vq lh.tys t)) fun e nx' E' G' => match e with
          | .normal => meet b lh next E' G'
          | e => k2 e nx' E' G') m t = k2 e nx' E' G') ∧ LP P b n c e E' G' j (unE lh (vq lh.tys t)) (unG lh (vq lh.tys t)) := by
        intro m
        induction m with
        | zero => intro t h; cases h
        | succ m ih =>
          intro t h
          simp only [jr] at h
          obtain ⟨e, nx', E', G', hk, hu, ho⟩ := vk hm hsy c (2 * p) _ _ _ _ r h
          cases e with
          | normal =>
            obtain ⟨t', k1, k2, k3⟩ := Qj hk
            obtain ⟨e2, nx2, E2, G2, j, hk2, hu2, hl⟩ := ih t' k2
            exact ⟨e2, nx2, E2, G2, j + 1, hk2, fun k2 => by simp only [jr]; rw [hu]; simp only; rw [k3]; exact hu2 k2, .round ho (Q6 k1) hl⟩
          | _ => exact ⟨_, nx', E', G', 0, hk, fun k2 => by simp only [jr]; rw [hu], .last (fun e => by cases e) ho⟩
      obtain ⟨e, nx', E', G', j, hk, hu, hl⟩ := key fuel t g2
      exact ⟨e, nx', E', G', hk, fun k2 => by simp only [ql, hp]; rw [g3]; exact hu k2, (OutC.loop hl).into (Q6 g1)⟩
    · rename_i lh hp
      split at h <;> try (cases h; done)
      rename_i id ops y
      split at h <;> try (cases h; done)
      rename_i o l hops
      split at h <;> try (cases h; done)
      rename_i x hx
      obtain ⟨t0, g1, g2, g3⟩ := Qj h
      obtain ⟨B, hB, hc, m, hsee, hok, hfor⟩ := z0v g2
      rw [zhg] at hfor
      obtain ⟨tn, hfold, hfin⟩ := qg hfor
      simp only [zyd, wb6, wcz, wc5] at hok
      have hok0 : zyd m = true := by simp only [zyd, wb6, wcz, wc5]; exact hok
      obtain ⟨hml, hmf, hdi⟩ := hok
      have hml := wb2 hml
      have hd : ∀ (i j : Nat) a b, i ≠ j → m.es[i]? = some a → m.es[j]? = some b → a.1 ≠ b.1 := fun i j a b hne ha hb => zse (zgh _) hdi i j a.1 b.1 hne (by rw [wb9, ha]; rfl) (by rw [wb9, hb]; rfl)
      obtain ⟨cs, rts, E1, G1, hst, hrun, hur⟩ := Zi hsy _ _ _ _ _ hfin
      obtain ⟨e, nx', E2, G2, hk, hu, ho⟩ := vk hm hsy y _ _ E1 G1 _ r hrun
      have he : e ≠ .normal := fun e1 => by subst e1; cases hk
      have hk' : k e nx' E2 G2 = some r := by cases e <;> first | exact hk | exact absurd rfl he
      refine ⟨e, nx', E2, G2, hk', fun k2 => ?_, OutC.into (Q6 g1) fun W R hg hR => ?_⟩
      · rw [ql]
        split
        · rename_i h9; rw [hp] at h9; cases h9
        · rename_i h9; rw [hp] at h9; cases h9
        · rename_i h9; rw [hp] at h9; cases h9
        · rename_i h9; rw [hp] at h9; cases h9
        · rename_i lh' h9
          rw [hp] at h9; cases h9
          simp only [hops, hx]
          rw [g3, ← hB, mrC_at hc hsee hok0, zhg, hfold]
          show Qo sy ctx n ops id lh.nx l 1 _ _ [] _ = _
          rw [hur, hu]
          cases e <;> first | rfl | exact absurd rfl he
      refine PC.loop (fun q F H => ∃ (L : List Nat) (t : DL lh.tys), L.Nodup ∧ (∀ j ∈ L, j < m.es.length) ∧ q = m.es.length - L.length ∧ Vl B L t0 = some t ∧ F = v6 (unE lh (vq lh.tys t)) ∧ H = qd (unG lh (vq lh.tys t)) R) (m := m.es.length)
        ⟨[], t0, List.nodup_nil, (fun j hj => by cases hj), by simp, rfl, rfl, rfl⟩ fun q F H ⟨L, t, hn, hL, hq, hf, hF, hH⟩ => ?_
      subst hF; subst hH
      have hs := zor hc L t0 t m hf hsee
      refine PC.seq fun K hK => ?_
      obtain ⟨ol⟩ := ops
      replace hops : ol = o :: l := hops
      subst hops
      refine PC.region (z4i hx hs (by rw [zo8]; exact hml) (fun hall => ?_) fun j ee hje hmj => ?_)
      · have hall : ∀ j, j ∈ L ↔ j < m.es.length := fun j => ⟨hL j, fun hj => by
          have h1 := hall j hj
          rw [show ({ m with mask := zef L m.mask } : MS).mask = zef L m.mask from rfl, zg9 _ _ _ (by rw [hml]; exact hj)] at h1
          by_cases hjl : j ∈ L
          · exact hjl
          · rw [if_neg hjl] at h1
            have := hmf true (wb8 h1)
            cases this⟩
        have := zxl hc hd hn hall hsee hfold hf
        subst this
        refine Steps.seq (GhOk.fl hg) (RestOk.fl hR) hst (hK _ _ (PC.mono (ho W R hg hR) fun e2 F' H' ⟨a1, a2, a3⟩ => ?_))
        subst a1; subst a2; subst a3
        cases e2 <;> first | exact ⟨rfl, rfl, rfl⟩ | exact absurd rfl he
      · have hjl : j < m.es.length := (wb3.1 hje).1
        have hjn : j ∉ L := fun hj => by
          rw [show ({ m with mask := zef L m.mask } : MS).mask = zef L m.mask from rfl, zg9 _ _ _ (by rw [hml]; exact hjl), if_pos hj] at hmj
          cases hmj
        have hn2 : (L ++ [j]).Nodup := by
          rw [List.nodup_append]
          exact ⟨hn, by simp, fun a ha b hb e => by simp at hb; subst hb; subst e; exact hjn ha⟩
        have hL2 : ∀ i ∈ L ++ [j], i < m.es.length := fun i hi => by
          rcases wcr.1 hi with h | h
          · exact hL i h
          · simp at h; subst h; exact hjl
        obtain ⟨t2, hf2⟩ := zsz hc hd hn2 hL2 hsee hfold
        have hf3 := hf2
        rw [zbw, hf] at hf3
        replace hf3 : ja (B j t) (Vl B []) = some t2 := hf3
        obtain ⟨t3, hBt, ht3⟩ := qg hf3
        replace ht3 : some t3 = some t2 := ht3
        cases ht3
        rw [hB] at hBt
        simp only [hs] at hBt
        obtain ⟨e3, he3, hBt⟩ := qg hBt
        cases hje.symm.trans he3
        obtain ⟨cs2, rts2, E3, G3, hst2, hrun2, _⟩ := Zi hsy _ _ _ _ _ hBt
        obtain ⟨e4, nx4, E4, G4, hk4, _, ho4⟩ := vk hm hsy y _ _ E3 G3 _ t2 hrun2
        cases e4 with
        | normal =>
          have hpk : zq7 b lh E4 G4 = some t2 := hk4
          refine Steps.seq (GhOk.fl hg) (RestOk.fl hR) hst2 (hK _ _ (PC.mono ((ho4.ren (Q6 hpk)) W R hg hR) fun e2 F' H' ⟨a1, a2, a3⟩ => ?_))
          subst a1; subst a2; subst a3
          have hlen : L.length < m.es.length := by
            have := List.Nodup.length_le_of_subset hn2 (l₂ := range m.es.length) fun i hi => wdw.2 (hL2 i hi)
            simp at this; omega
          exact ⟨m.es.length - (L ++ [j]).length, by rw [hq]; simp; omega, L ++ [j], t2, hn2, hL2, rfl, hf2, rfl, rfl⟩
        | _ => cases hk4
  | .region id ops draw, p, nx, β, E, G, k, r, h => by
    simp only [ql] at h
    split at h
    · rename_i lh hp
      unfold J at h
      obtain ⟨E', G', hk, hu, ho⟩ := zwn (b := b) hsy hm h
      obtain ⟨t, g1, g2, g3⟩ := Qj hk
      exact ⟨_, _, _, _, g2, fun k2 => by simp only [ql, hp, J]; rw [hu]; exact g3 _, ho.ren (Q6 g1)⟩
    · rename_i hp
      obtain ⟨E', G', hk, hu, ho⟩ := zwn (b := b) hsy hm h
      refine ⟨_, _, _, _, hk, fun k2 => ?_, ho⟩
      rw [ql]
      split
      · rename_i lh hp'; exact absurd hp' (hp lh)
      · exact hu _
  | .rangeFunc _ _ _ _, p, nx, β, E, G, k, r, h => by simp only [ql] at h; cases h
  | .goto _, p, nx, β, E, G, k, r, h => by simp only [ql] at h; cases h
  | .refuse _, p, nx, β, E, G, k, r, h => by simp only [ql] at h; cases h
end
def SR.now (s : TS) (rd : List Nat) : SR := ⟨Unit, true, some (), fun _ => s, fun _ => [], rd, [], []⟩
def SR.dat (α : Type) (o : Option α) (s : α → TS) (rd : List Nat) : SR := ⟨α, false, o, s, fun _ => [], rd, [], []⟩
def SR.vx (b : Bool) (t : Ty) (x : t.D) : SR := match b with
  | true => .dat t.D (some x) (fun y => .v ⟨t, y⟩) []
  | false => .now (.v ⟨t, x⟩) []
def SR.vo (t : Ty) (o : Option t.D) : SR := .dat t.D o (fun y => .v ⟨t, y⟩) []
structure Agr (o : Oper) (E : EF) (G : EG) (rd : List Nat) (F : PFrame) (H : PHeap) : Prop where
  f : ∀ t, Operand.tmp t ∈ o.op.operands → F t = (E t).den
  hn : ∀ id, id ∈ rd → AgN H G id
theorem Agr.h {o : Oper} {E : EF} {G : EG} {rd : List Nat} {F : PFrame} {H : PHeap} (h : Agr o E G rd F H) : ∀ id, id ∈ rd → H (.o id) = qr id (G id) := fun id hid => (h.hn id hid).1
section
variable {P : Program} {o : Oper} {E : EF} {G : EG} {rd : List Nat} {F : PFrame} {H : PHeap} {W : Env}
theorem Agr.ev (h : Agr o E G rd F H) {x : Operand} (hx : x ∈ o.op.operands) : evP F x = (evE E x).den := by
  cases x with
  | tmp t => simp only [evP, evE]; exact h.f t hx
  | const v => simp only [evP, evE, TS.den]
  | global g => simp only [evP, evE, TS.den]
  | func f => simp only [evP, evE, TS.den, q8]
theorem SOk.now {s : TS} (h : ∀ W F H, Agr o E G rd F H → PQ P W o F H s.den) : SOk P o E G (.now s rd) :=
  ⟨fun _ => rfl, fun x hx W n F H hfl hd hF hH => wan hd (h W F H ⟨hF, fun id hid => hH id (.inl hid)⟩) ⟨rfl, rfl⟩⟩
theorem SOk.dat {α : Type} {op : Option α} {s : α → TS} (h : ∀ x, op = some x → ∀ W F H, Agr o E G rd F H → PQ P W o F H (s x).den) : SOk P o E G (.dat α op s rd) :=
  ⟨fun _ => rfl, fun x hx W n F H hfl hd hF hH => wan hd (h x hx W F H ⟨hF, fun id hid => hH id (.inl hid)⟩) ⟨rfl, rfl⟩⟩
theorem SOk.vx {b : Bool} {t : Ty} {x : t.D} (h : ∀ W F H, Agr o E G [] F H → PQ P W o F H (enc t x)) : SOk P o E G (.vx b t x) := by
  cases b with
  | true => exact SOk.dat fun y hy W F H ha => by cases hy; simp only [TS.den]; exact h W F H ha
  | false => exact SOk.now fun W F H ha => by simp only [TS.den]; exact h W F H ha
theorem SOk.vo {t : Ty} {op : Option t.D} (h : ∀ x, op = some x → ∀ W F H, Agr o E G [] F H → PQ P W o F H (enc t x)) : SOk P o E G (.vo t op) :=
  SOk.dat fun y hy W F H ha => by simp only [TS.den]; exact h y hy W F H ha
theorem PQ.ref {p q : PV} (h : PQ P W o F H p) (hr : Ref p q) : PQ P W o F H q := fun V a w hh hs =>
  Oper.wp_mono (fun a' w' ⟨v, h1, h2, h3⟩ => ⟨v, h1, hr _ _ _ _ _ h2, h3⟩) (h V a w hh hs)
def ofCx : (t : Ty) → Value → Option t.D
  | .int k, .int k' z => match ikB k k' with
    | true => some z
    | false => none
  | .bool, .bool b => some b
  | .str, .string s => some s.data.toList
  | _, _ => none
theorem z4b {t : Ty} {v : Value} {x : t.D} (h : ofCx t v = some x) : ofV v = enc t x := by
  unfold ofCx at h
  split at h
  · split at h <;> cases h
    rename_i e
    rw [zp2 e]; rfl
  · cases h; rfl
  · cases h; rfl
  · cases h
def zk (t : Ty) : TS → Option t.D
  | .v d => d.as t
  | .c v => ofCx t v
  | _ => none
theorem vj {t : Ty} {s : TS} {x : t.D} (h : zk t s = some x) : s.den = enc t x := by
  unfold zk at h
  split at h
  · have := wac h
    subst this
    simp only [TS.den]
  · simp only [TS.den]; exact z4b h
  · cases h
def Zo : TS → Option Int
  | .v ⟨.int _, z⟩ => some z
  | .c (.int _ z) => some z
  | _ => none
theorem Jm {s : TS} {z : Int} (h : Zo s = some z) : ∃ k, s.den = .u (.int k z) := by
  unfold Zo at h
  split at h
  · cases h; exact ⟨_, by simp only [TS.den]; rfl⟩
  · cases h; exact ⟨_, by simp only [TS.den]; rfl⟩
  · cases h
def q3 {α : Type} (o : Option α) (f : α → Option SR) : Option SR := match o with
  | some a => f a
  | none => none
theorem jt {α : Type} {o : Option α} {f : α → Option SR} {q : SR} (h : q3 o f = some q) : ∃ a, o = some a ∧ f a = some q := by
  cases o with
  | none => cases h
  | some a => exact ⟨a, rfl, h⟩
def intX (k : IntKind) (op : BinOp) (a b : Int) : Option Int := match op with
  | .add => some (k.wrap (a + b))
  | .sub => some (k.wrap (a - b))
  | .mul => some (k.wrap (a * b))
  | .and => some (andI k a b)
  | .or => some (orI k a b)
  | .xor => some (xorI k a b)
  | .andNot => some (zqd k a b)
  | _ => none
def cmpX (op : BinOp) (a b : Int) : Option Bool := match op with
  | .eql => some (decide (a = b))
  | .neq => some (decide (¬ a = b))
  | .lss => some (decide (a < b))
  | .leq => some (decide (a ≤ b))
  | .gtr => some (decide (b < a))
  | .geq => some (decide (b ≤ a))
  | _ => none
def z3v (k : IntKind) (op : BinOp) (a b : Int) : Option (Option Int) := match op with
  | .quo => some (zu1 k a b)
  | .rem => some (zx3 k a b)
  | .shl => some (zzi k a b)
  | .shr => some (zyl k a b)
  | _ => none
theorem z4j {k : IntKind} {op : BinOp} {a b r : Int} (h : intX k op a b = some r) (t : Nat) (x y : Operand) : ya P op t x y (.u (.int k a)) (.u (.int k b)) = some (.u (.int k r)) := by
  unfold intX at h
  split at h <;> cases h
  · exact zwy
  · exact zyj
  · exact zx9
  · exact b_and _ _
  · exact b_or _ _
  · exact b_xor _ _
  · exact zy8 _ _
theorem z2z {k : IntKind} {op : BinOp} {a b : Int} {r : Bool} (h : cmpX op a b = some r) (t : Nat) (x y : Operand) : ya P op t x y (.u (.int k a)) (.u (.int k b)) = some (.u (.bool r)) := by
  unfold cmpX at h
  split at h <;> cases h
  · exact zzq
  · exact z1x
  · exact zzd
  · exact z0z
  · exact zyt
  · exact zzg
theorem zv9 {k k' : IntKind} {op : BinOp} {a b r : Int} {q : Option Int} (h : z3v k op a b = some q) (hq : q = some r) (hk : op = .shl ∨ op = .shr ∨ k' = k) (t : Nat) (x y : Operand) : ya P op t x y (.u (.int k a)) (.u (.int k' b)) = some (.u (.int k r)) := by
  unfold z3v at h
  split at h <;> cases h
  · rcases hk with h | h | h <;> first | cases h | skip
    exact b_quo hq
  · rcases hk with h | h | h <;> first | cases h | skip
    exact b_rem hq
  · exact b_shl hq
  · exact b_shr hq
def isSh (op : BinOp) : Bool := match op with
  | .shl => true
  | .shr => true
  | _ => false
def foldOp (op : BinOp) : Bool := match op with
  | .and => false
  | .or => false
  | .xor => false
  | .andNot => false
  | _ => true
def isC (x y : TS) (op : BinOp) : Bool := match x with
  | .c _ => match y with
    | .c _ => foldOp op
    | _ => false
  | _ => false
def vxI (c bd : Bool) (k : IntKind) (r : Int) : SR := match c with
  | true => .now (.c (.int k r)) []
  | false => .vx bd (.int k) r
def vxB (c bd : Bool) (r : Bool) : SR := match c with
  | true => .now (.c (.bool r)) []
  | false => .vx bd .bool r
theorem SOk.vxI {c bd : Bool} {k : IntKind} {r : Int} (h : ∀ W F H, Agr o E G [] F H → PQ P W o F H (.u (.int k r))) : SOk P o E G (vxI c bd k r) := by
  cases c with
  | true => exact SOk.now fun W F H ha => by simp only [TS.den]; exact h W F H ha
  | false => exact SOk.vx fun W F H ha => h W F H ha
theorem SOk.vxB {c bd : Bool} {r : Bool} (h : ∀ W F H, Agr o E G [] F H → PQ P W o F H (.u (.bool r))) : SOk P o E G (vxB c bd r) := by
  cases c with
  | true => exact SOk.now fun W F H ha => by simp only [TS.den]; exact h W F H ha
  | false => exact SOk.vx fun W F H ha => h W F H ha
def sInt (bd : Bool) (k : IntKind) (op : BinOp) (x y : TS) : Option SR := match isSh op with
  | true => q3 (zk (.int k) x) fun a => q3 (Zo y) fun b => match z3v k op a b with
    | some q => some (.vo (.int k) q)
    | none => none
  | false => q3 (zk (.int k) x) fun a => q3 (zk (.int k) y) fun b => match intX k op a b with
    | some r => some (vxI (isC x y op) bd k r)
    | none => match cmpX op a b with
      | some r => some (vxB (isC x y op) bd r)
      | none => match z3v k op a b with
        | some q => some (.vo (.int k) q)
        | none => none
theorem z2f {bd : Bool} {k : IntKind} {op : BinOp} {t t' : Nat} {x y : Operand} {q : SR} (ho : o.op = .binOp op t x y t') (hy : ze5 P t y = true) (h : sInt bd k op (evE E x) (evE E y) = some q) : SOk P o E G q := by
  have hx' : x ∈ o.op.operands := by rw [ho]; simp [Op.operands]
  have hy' : y ∈ o.op.operands := by rw [ho]; simp [Op.operands]
  have step : ∀ {W F H} {p1 p2 r : PV}, (evE E x).den = p1 → (evE E y).den = p2 → ya P op t x y p1 p2 = some r → Agr o E G [] F H → PQ P W o F H r := fun {W F H p1 p2 r} h1 h2 h3 ha => by
    refine qe ?_
    unfold zj; rw [ho]
    simp only
    rw [zeu hy, ha.ev hx', ha.ev hy', h1, h2, h3]
  unfold sInt at h
  split at h
  · rename_i hsh
    obtain ⟨a, ha, h⟩ := jt h
    obtain ⟨b, hb, h⟩ := jt h
    split at h <;> try (cases h; done)
    rename_i qo hq
    cases h
    obtain ⟨k', hk'⟩ := Jm hb
    refine SOk.vo fun r hr W F H hag => step (vj ha) hk' (zv9 hq hr ?_ t x y) hag
    cases op <;> first | exact .inl rfl | exact .inr (.inl rfl) | (simp [isSh] at hsh)
  · obtain ⟨a, ha, h⟩ := jt h
    obtain ⟨b, hb, h⟩ := jt h
    split at h
    · rename_i r hr
      cases h
      exact SOk.vxI fun W F H hag => step (vj ha) (vj hb) (z4j hr t x y) hag
    · split at h
      · rename_i r hr
        cases h
        exact SOk.vxB fun W F H hag => step (vj ha) (vj hb) (z2z hr t x y) hag
      · split at h <;> try (cases h; done)
        rename_i qo hq
        cases h
        exact SOk.vo fun r hr W F H hag => step (vj ha) (vj hb) (zv9 hq hr (.inr (.inr rfl)) t x y) hag
def zzb (bd : Bool) (op : BinOp) (x y : TS) : Option SR := q3 (zk .bool x) fun a => q3 (zk .bool y) fun b => match op with
  | .eql => some (.vx bd .bool (a == b))
  | .neq => some (.vx bd .bool (a != b))
  | _ => none
theorem z0a {bd : Bool} {op : BinOp} {t t' : Nat} {x y : Operand} {q : SR} (ht : P.underlying t = some .bool) (ho : o.op = .binOp op t x y t') (hy : ze5 P t y = true) (h : zzb bd op (evE E x) (evE E y) = some q) : SOk P o E G q := by
  have hx' : x ∈ o.op.operands := by rw [ho]; simp [Op.operands]
  have hy' : y ∈ o.op.operands := by rw [ho]; simp [Op.operands]
  unfold zzb at h
  obtain ⟨a, ha, h⟩ := jt h
  obtain ⟨b, hb, h⟩ := jt h
  have step : ∀ {W F H} {r : Bool}, ya P op t x y (.u (.bool a)) (.u (.bool b)) = some (.u (.bool r)) → Agr o E G [] F H → PQ P W o F H (.u (.bool r)) := fun {W F H r} h3 hag => by
    refine qe ?_
    unfold zj; rw [ho]
    simp only
    rw [zeu hy, hag.ev hx', hag.ev hy', vj ha, vj hb]
    exact h3
  split at h <;> cases h
  · exact SOk.vx fun W F H hag => step (b_eqB a b ht) hag
  · exact SOk.vx fun W F H hag => step (b_neB a b ht) hag
def z1n (a b : List UInt8) : Option (List UInt8) := match decide (((a.length + b.length : Nat) : Int) ≤ 9223372036854775807) with
  | true => some (a ++ b)
  | false => none
def sStr (bd : Bool) (op : BinOp) (x y : TS) : Option SR := q3 (zk .str x) fun a => q3 (zk .str y) fun b => match op with
  | .eql => some (.vx bd .bool (a == b))
  | .neq => some (.vx bd .bool (!(a == b)))
  | .lss => some (.vx bd .bool (Op.bytesLess a b))
  | .add => some (.vo .str (z1n a b))
  | _ => none
theorem Y0 (a : List UInt8) : (ByteArray.mk ⟨a⟩).toList = a := by
  rw [ByteArray.toList_eq]
theorem z3u {bd : Bool} {op : BinOp} {t t' : Nat} {x y : Operand} {q : SR} (ho : o.op = .binOp op t x y t') (hy : ze5 P t y = true) (h : sStr bd op (evE E x) (evE E y) = some q) : SOk P o E G q := by
  have hx' : x ∈ o.op.operands := by rw [ho]; simp [Op.operands]
  have hy' : y ∈ o.op.operands := by rw [ho]; simp [Op.operands]
  unfold sStr at h
  obtain ⟨a, ha, h⟩ := jt h
  obtain ⟨b, hb, h⟩ := jt h
  have step : ∀ {W F H} {r : PV}, ya P op t x y (.u (.string ⟨⟨a⟩⟩)) (.u (.string ⟨⟨b⟩⟩)) = some r → Agr o E G [] F H → PQ P W o F H r := fun {W F H r} h3 hag => by
    refine qe ?_
    unfold zj; rw [ho]
    simp only
    rw [zeu hy, hag.ev hx', hag.ev hy', vj ha, vj hb]
    exact h3
  split at h <;> cases h
  · refine SOk.vx fun W F H hag => ?_
    have := zxm (P := P) (t := t) (x := x) (y := y) (⟨⟨a⟩⟩ : ByteArray) ⟨⟨b⟩⟩
    rw [Y0, Y0] at this
    exact step this hag
  · refine SOk.vx fun W F H hag => ?_
    have := zxc (P := P) (t := t) (x := x) (y := y) (⟨⟨a⟩⟩ : ByteArray) ⟨⟨b⟩⟩
    rw [Y0, Y0] at this
    exact step this hag
  · refine SOk.vx fun W F H hag => ?_
    have := b_lssS (P := P) (t := t) (x := x) (y := y) (⟨⟨a⟩⟩ : ByteArray) ⟨⟨b⟩⟩
    unfold bltS at this
    rw [Y0, Y0] at this
    exact step this hag
  · refine SOk.vo fun r hr W F H hag => ?_
    unfold z1n at hr
    split at hr <;> cases hr
    rename_i hle
    have hle := wc8 hle
    have : z3p (⟨⟨a⟩⟩ : ByteArray) ⟨⟨b⟩⟩ = some (⟨⟨a⟩⟩ ++ ⟨⟨b⟩⟩) := by
      unfold z3p
      rw [if_pos]
      exact hle
    have h2 := b_addS (P := P) (t := t) (x := x) (y := y) this
    have e : (⟨⟨a⟩⟩ ++ ⟨⟨b⟩⟩ : ByteArray) = ⟨⟨a ++ b⟩⟩ := by
      apply ByteArray.ext
      rw [ByteArray.data_append]; simp
    rw [e] at h2
    exact step h2 hag
theorem zsw {x : Operand} (ho : o.op = .move x ∨ o.op = .assign x) : SOk P o E G (.now (evE E x) []) := SOk.now fun W F H hag => by
  refine qe ?_
  unfold zj
  rcases ho with ho | ho
  · rw [ho]; simp only
    rw [hag.ev (by rw [ho]; simp [Op.operands])]
  · rw [ho]; simp only
    rw [hag.ev (by rw [ho]; simp [Op.operands])]
def z0g : TS → Option Ty
  | .v d => some d.t
  | .c (.bool _) => some .bool
  | .c (.int k _) => some (.int k)
  | .c (.string _) => some .str
  | _ => none
def z09 (bd : Bool) (c x y : TS) : Option SR := match c with
  | .c (.bool true) => some (.now x [])
  | .c (.bool false) => some (.now y [])
  | .v ⟨.bool, b⟩ => match z0g x with
    | none => none
    | some t => match z0g y with
      | none => none
      | some t' => match t with
        | .bool => q3 (zk .bool x) fun p => q3 (zk .bool y) fun q => some (.vx bd .bool (cond b p q))
        | t => q3 (zk t x) fun p => q3 (zk t y) fun q => some (.vx bd t (cond b p q))
  | _ => none
theorem z1d {bd : Bool} {c x y : Operand} {q : SR} (ho : o.op = .pick c x y) (h : z09 bd (evE E c) (evE E x) (evE E y) = some q) : SOk P o E G q := by
  have hc' : c ∈ o.op.operands := by rw [ho]; simp [Op.operands]
  have hx' : x ∈ o.op.operands := by rw [ho]; simp [Op.operands]
  have hy' : y ∈ o.op.operands := by rw [ho]; simp [Op.operands]
  have step : ∀ {W F H} {b : Bool} {p1 p2 : PV}, (evE E c).den = .u (.bool b) → (evE E x).den = p1 → (evE E y).den = p2 → Agr o E G [] F H → PQ P W o F H (if b then p1 else p2) := fun {W F H b p1 p2} h1 h2 h3 hag => by
    refine qe ?_
    unfold zj; rw [ho]
    simp only
    rw [hag.ev hc', hag.ev hx', hag.ev hy', h1, h2, h3]
  have typed : ∀ {t : Ty} {b : Bool} {q : SR}, (evE E c).den = .u (.bool b) → (q3 (zk t (evE E x)) fun p => q3 (zk t (evE E y)) fun q => some (.vx bd t (cond b p q))) = some q → SOk P o E G q := fun {t b q} h1 h => by
    obtain ⟨p1, hp, h⟩ := jt h
    obtain ⟨p2, hq, h⟩ := jt h
    cases h
    refine SOk.vx fun W F H hag => ?_
    have := step (W := W) h1 (vj hp) (vj hq) hag
    cases b <;> exact this
  unfold z09 at h
  split at h
  · rename_i hc
    cases h
    exact SOk.now fun W F H hag => by
      have := step (W := W) (b := true) (by rw [hc]; simp only [TS.den]; rfl) rfl rfl hag
      exact this
  · rename_i hc
    cases h
    exact SOk.now fun W F H hag => by
      have := step (W := W) (b := false) (by rw [hc]; simp only [TS.den]; rfl) rfl rfl hag
      exact this
  · rename_i b hc
    have h1 : (evE E c).den = .u (.bool b) := by rw [hc]; simp only [TS.den]; rfl
    split at h <;> try (cases h; done)
    split at h <;> try (cases h; done)
    split at h
    · exact typed h1 h
    · exact typed h1 h
  · cases h
def isCT : TS → Bool
  | .c _ => true
  | _ => false
def sNot (bd : Bool) (x : TS) : Option SR := q3 (zk .bool x) fun b => match isCT x with
  | true => some (.now (.c (.bool (!b))) [])
  | false => some (.vx bd .bool (!b))
theorem z3d {bd : Bool} {t : TypeId} {x : Operand} {q : SR} (ho : o.op = .unOp .not t x) (h : sNot bd (evE E x) = some q) : SOk P o E G q := by
  have hx' : x ∈ o.op.operands := by rw [ho]; simp [Op.operands]
  obtain ⟨b, hb, h⟩ := jt h
  have key : ∀ W F H, Agr o E G [] F H → PQ P W o F H (enc .bool (!b)) := fun W F H hag => qe (by
    unfold zj; rw [ho]
    simp only
    rw [hag.ev hx', vj hb]
    exact z2t b)
  split at h <;> cases h
  · exact SOk.now fun W F H hag => by simp only [TS.den]; exact key W F H hag
  · exact SOk.vx key
def z4z (bd : Bool) (k : IntKind) (x : TS) : Option SR := q3 (Zo x) fun z => some (.vx bd (.int k) (k.wrap z))
theorem z0s {bd : Bool} {t t' : TypeId} {x : Operand} {k : IntKind} {q : SR} (ho : o.op = .convert t t' x) (h1 : (zfb P t).isSome = true) (h2 : zfb P t' = some k) (h : z4z bd k (evE E x) = some q) : SOk P o E G q := by
  have hx' : x ∈ o.op.operands := by rw [ho]; simp [Op.operands]
  obtain ⟨z, hz, h⟩ := jt h
  cases h
  obtain ⟨k', hk'⟩ := Jm hz
  refine SOk.vx fun W F H hag => qe ?_
  unfold zj; rw [ho]
  simp only
  rw [hag.ev hx', hk']
  exact zyf h1 h2
end
def SR.vr (b : Bool) (t : Ty) (x : t.D) (rd : List Nat) : SR := match b with
  | true => .dat t.D (some x) (fun y => .v ⟨t, y⟩) rd
  | false => .now (.v ⟨t, x⟩) rd
section
variable {P : Program} {o : Oper} {E : EF} {G : EG} {rd : List Nat} {F : PFrame} {H : PHeap} {W : Env}
theorem SOk.vr {b : Bool} {t : Ty} {x : t.D} (h : ∀ W F H, Agr o E G rd F H → PQ P W o F H (enc t x)) : SOk P o E G (.vr b t x rd) := by
  cases b with
  | true => exact SOk.dat fun y hy W F H ha => by cases hy; simp only [TS.den]; exact h W F H ha
  | false => exact SOk.now fun W F H ha => by simp only [TS.den]; exact h W F H ha
theorem wbb {cs bs : List PV} : Ref (.rp (cs ++ bs)) (.rp cs) := fun Z H V w v hv => by
  cases hv with
  | rp _ b o' g hz hb h1 h2 =>
    refine .rp _ b o' g hz hb (fun i p hi => h1 i p ?_) fun i p hi => h2 i p ?_
    · rw [wcc (wb3.1 hi).1]; exact hi
    · rw [wcc (wb3.1 hi).1]; exact hi
def zf9 : (r : Ty) → r.D → Nat → Option Dyn
  | .cons a _, x, 0 => some ⟨a, x.1⟩
  | .cons _ r, x, i + 1 => zf9 r x.2 i
  | _, _, _ => none
theorem zvs : ∀ (r : Ty) (x : r.D) (i : Nat) (d : Dyn), zf9 r x i = some d → (q5 r (je r x))[i]? = some (enc d.t d.x)
  | .cons a r, x, 0, d, h => by
    simp only [zf9] at h
    cases h
    simp only [q5, je, wdz]
    rw [wed (jn a x.1)]; rfl
  | .cons a r, x, i + 1, d, h => by
    simp only [zf9] at h
    simp only [q5, je, wdy]
    rw [wdp (jn a x.1)]
    exact zvs r x.2 i d h
  | .int _, _, _, _, h => by simp [zf9] at h
  | .bool, _, _, _, h => by simp [zf9] at h
  | .str, _, _, _, h => by simp [zf9] at h
  | .sl _, _, _, _, h => by simp [zf9] at h
  | .ref _, _, _, _, h => by simp [zf9] at h
  | .arr _ _, _, _, _, h => by simp [zf9] at h
  | .nil, _, _, _, h => by simp [zf9] at h
  | .st _, _, _, _, h => by simp [zf9] at h
  | .tup _, _, _, _, h => by simp [zf9] at h
def sExt (x : TS) (i : Nat) : Option SR := match x with
  | .tup xs => match xs[i]? with
    | some y => some (.now y [])
    | none => none
  | .v ⟨.tup r, p⟩ => match zf9 r p i with
    | some d => some (.now (.v d) [])
    | none => none
  | _ => none
theorem z2d {x : Operand} {i : Nat} {q : SR} (ho : o.op = .extract x i) (h : sExt (evE E x) i = some q) : SOk P o E G q := by
  have hx' : x ∈ o.op.operands := by rw [ho]; simp [Op.operands]
  have step : ∀ {W F H} {cs : List PV} {r : PV}, (evE E x).den = .tup cs → cs[i]? = some r → Agr o E G [] F H → PQ P W o F H r := fun {W F H cs r} h1 h2 hag => by
    refine qe ?_
    unfold zj; rw [ho]
    simp only
    rw [hag.ev hx', h1]; exact h2
  unfold sExt at h
  split at h
  · rename_i xs hxs
    split at h <;> try (cases h; done)
    rename_i y hy
    cases h
    refine SOk.now fun W F H hag => step (cs := q8 xs) (by rw [hxs]; simp only [TS.den]) ?_ hag
    rw [Zf, wb9, hy]; rfl
  · rename_i r p hxs
    split at h <;> try (cases h; done)
    rename_i d hd
    cases h
    refine SOk.now fun W F H hag => ?_
    simp only [TS.den]
    exact step (cs := q5 r (je r p)) (by rw [hxs]; simp only [TS.den]; rfl) (zvs r p i d hd) hag
  · cases h
theorem yb {id ver k : Nat} {n : Nat} {t : TypeId} {cs : List PV} (hH : H (.o id) = qr id (G id)) {bd : BD} (hb : (G id).b = some bd) (hd : bd.den id (G id).cv = .row t k n cs) (hv : (G id).ver = ver) : yh H (.o id) ver = some (t, k, n, cs) := by
  unfold yh
  rw [hH]
  simp only [qr, hb, wcd, hd]
  rw [if_pos hv]
theorem Y5 {id ver k n : Nat} (hH : H (.o id) = qr id (G id)) {bd : BD} (hb : (G id).b = some bd) (hd : (bd.den id (G id).cv).kn = some (k, n)) (hv : (G id).ver = ver) : zae H (.o id) ver = some (k, n) := by
  unfold zae
  rw [hH]
  simp only [qr, hb, wcd]
  rw [if_pos hv]; exact hd
def cellsB : BD → Option (List TS)
  | .box _ xs => some xs
  | _ => none
theorem yv {id ver : Nat} {t : TypeId} {xs : List TS} (hH : H (.o id) = qr id (G id)) (hb : (G id).b = some (.box t xs)) (hv : (G id).ver = ver) : jx H (.o id) ver = some (jo xs) := by
  unfold jx
  rw [hH]
  simp only [qr, hb, wcd, BD.den]
  rw [if_pos hv]
theorem yl {id ver : Nat} {k n : Nat} {t : TypeId} {cs : List PV} (hH : H (.o id) = qr id (G id)) {bd : BD} (hb : (G id).b = some bd) (hd : bd.den id (G id).cv = .row t k n cs) (hv : (G id).ver = ver) : jx H (.o id) ver = some cs := by
  unfold jx
  rw [hH]
  simp only [qr, hb, wcd, hd]
  rw [if_pos hv]
theorem znq {id ver : Nat} {k n : Nat} {t : TypeId} {cs : List PV} (hH : H (.o id) = qr id (G id)) {bd : BD} (hb : (G id).b = some bd) (hd : bd.den id (G id).cv = .que t k n cs) (hv : (G id).ver = ver) : jx H (.o id) ver = some cs := by
  unfold jx
  rw [hH]
  simp only [qr, hb, wcd, hd]
  rw [if_pos hv]
def atL {α : Type} (l : List α) (z : Int) : Option α := match decide (0 ≤ z) with
  | true => l[z.toNat]?
  | false => none
def qn (n : Nat) (z : Int) : Option Int := match decide (0 ≤ z) with
  | true => match decide (z.toNat < n) with
    | true => some z
    | false => none
  | false => none
theorem z6 {α : Type} {l : List α} {z : Int} {y : α} (h : atL l z = some y) : 0 ≤ z ∧ l[z.toNat]? = some y := by
  unfold atL at h
  split at h
  · rename_i h0; exact ⟨wc8 h0, h⟩
  · cases h
theorem zdl {n : Nat} {z y : Int} (h : qn n z = some y) : 0 ≤ z ∧ z.toNat < n ∧ y = z := by
  unfold qn at h
  split at h
  · rename_i h0
    split at h
    · rename_i h1; cases h; exact ⟨wc8 h0, wc8 h1, rfl⟩
    · cases h
  · cases h
structure Kids where
  t : Ty
  it : TypeId
  l : List (List t.D)
  h : Hole
def BD.kids : BD → Option Kids
  | .rows _ it t l _ h => some ⟨t, it, l, h⟩
  | .mrows _ it t es _ h => some ⟨t, it, es.map fun e => e.2.1, h⟩
  | _ => none
def Kids.at (k : Kids) (p : Int) : Option (List k.t.D) := match k.h with
  | none => atL k.l p
  | some x => match Nat.beq p.toNat x with
    | true => none
    | false => atL k.l p
def zcr (G : EG) (id v : Nat) : Option Kids := match Nat.beq (G id).cv v with
  | true => match (G id).b with
    | some b => b.kids
    | none => none
  | false => none
theorem wai {k : Kids} {p : Int} {y : List k.t.D} (h : k.at p = some y) : 0 ≤ p ∧ k.l[p.toNat]? = some y ∧ k.h.is p.toNat = false := by
  unfold Kids.at at h
  split at h
  · rename_i e
    exact ⟨(z6 h).1, (z6 h).2, by rw [e]; rfl⟩
  · rename_i e
    split at h
    · cases h
    · rename_i e2; exact ⟨(z6 h).1, (z6 h).2, by rw [e]; exact e2⟩
theorem zaw {id v : Nat} {k : Kids} {p : Int} {y : List k.t.D} (hk : zcr G id v = some k) (hy : k.at p = some y) (hn : AgN H G id) : H (.c id p.toNat) = ⟨v, some (.row k.it (wid k.t) y.length (y.flatMap (je k.t)))⟩ := by
  obtain ⟨_, h2, h3⟩ := wai hy
  unfold zcr at hk
  split at hk <;> try (cases hk; done)
  rename_i hv
  have hv := wb2 hv
  split at hk <;> try (cases hk; done)
  rename_i b hb
  rw [hn.2]
  unfold Qp
  rw [hv, hb]
  unfold BD.kids at hk
  split at hk <;> cases hk
  · simp only [wc4, BD.ch]
    rw [h3]; simp only [h2, wcd]
  · simp only [wc4, BD.ch]
    simp only [wb9] at h2
    obtain ⟨e, h4, rfl⟩ := wca.1 h2
    rw [h3]; simp only [h4, wcd]
abbrev i64 : Ty := .int .i64
def zt6 (bd : Bool) (sl : Bool) (G : EG) (x : TS) : Option SR := match sl with
  | true => match x with
    | .v ⟨.sl _, l⟩ => some (.vr bd i64 (l.length : Int) [])
    | .own id ver => match Nat.beq (G id).ver ver with
      | true => match (G id).b with
        | some (.row _ t l) => some (.vr bd i64 (l.length : Int) [id])
        | some (.rowx _ _ xs) => some (.now (.c (.int .i64 xs.length)) [id])
        | some (.que _ t l) => some (.vr bd i64 (l.length : Int) [id])
        | some (.rows _ _ t l _ _) => some (.vr bd i64 (l.length : Int) [id])
        | _ => none
      | false => none
    | .kid id p v => match zcr G id v with
      | some k => some (.dat (List k.t.D) (k.at p) (fun y => .v ⟨i64, (y.length : Int)⟩) [id])
      | none => none
    | .c (.slice _ n _) => some (.now (.c (.int .i64 n)) [])
    | _ => none
  | false => match x with
    | .v ⟨.str, s⟩ => some (.vr bd i64 (s.length : Int) [])
    | .c (.string s) => some (.vr bd i64 (s.data.toList.length : Int) [])
    | _ => none
theorem zwr {bd sl : Bool} {t : Nat} {x : Operand} {q : SR} (ho : o.op = .call { callee := .builtin .len, args := #[x], argTypes := #[t] }) (ht : sl = true → Qx P t = true) (ht2 : sl = false → Yc P t = true) (h : zt6 bd sl G (evE E x) = some q) : SOk P o E G q := by
  have hx' : x ∈ o.op.operands := by rw [ho]; simp [Op.operands, Call.operands]
  have step : ∀ {rd W F H} {p r : PV}, (evE E x).den = p → L.lenP P H t p = some r → Agr o E G rd F H → PQ P W o F H r := fun {rd W F H p r} h1 h2 hag => by
    refine qe ?_
    unfold zj; rw [ho]
    show L.lenP P H t (evP F x) = _
    rw [hag.ev hx', h1]; exact h2
  unfold zt6 at h
  cases sl with
  | true =>
    simp only at h
    split at h
    · rename_i t' l hx
      cases h
      refine SOk.vr fun W F H hag => step (p := .sl (wid t') (l.map (enc t'))) (by rw [hx]; simp only [TS.den]; rfl) ?_ hag
      unfold L.lenP
      simp only
      rw [if_pos (ht rfl), wcs]; rfl
    · rename_i id ver hx
      split at h <;> try (cases h; done)
      rename_i hv
      have hv := wb2 hv
      split at h
      · rename_i tid t' l hb
        cases h
        refine SOk.vr fun W F H hag => step (p := .ps (.o id) ver) (by rw [hx]; simp only [TS.den]) ?_ hag
        unfold L.lenP
        simp only
        rw [if_pos (ht rfl), Y5 (hag.h id (by simp)) hb rfl hv]; rfl
      · rename_i tid k xs hb
        cases h
        refine SOk.now fun W F H hag => ?_
        refine (step (p := .ps (.o id) ver) (by rw [hx]; simp only [TS.den]) ?_ hag : PQ P W o F H (.u (.int .i64 xs.length)))
        unfold L.lenP
        simp only
        rw [if_pos (ht rfl), Y5 (hag.h id (by simp)) hb rfl hv]; rfl
      · rename_i tid t' l hb
        cases h
        refine SOk.vr fun W F H hag => step (p := .ps (.o id) ver) (by rw [hx]; simp only [TS.den]) ?_ hag
        unfold L.lenP
        simp only
        rw [if_pos (ht rfl), Y5 (hag.h id (by simp)) hb rfl hv]; rfl
      · rename_i tid it t' l kv hh hb
        cases h
        refine SOk.vr fun W F H hag => step (p := .ps (.o id) ver) (by rw [hx]; simp only [TS.den]) ?_ hag
        unfold L.lenP
        simp only
        rw [if_pos (ht rfl), Y5 (hag.h id (by simp)) hb rfl hv]; rfl
      · cases h
    · rename_i id p v hx
      split at h <;> cases h
      rename_i k hk
      refine SOk.dat fun y hy W F H hag => step (p := .ps (.c id p.toNat) v) (by rw [hx]; simp only [TS.den]) ?_ hag
      unfold L.lenP zae
      simp only
      rw [if_pos (ht rfl), zaw hk hy (hag.hn id (by simp))]
      simp only [if_true, PBody.kn, TS.den]; rfl
    · rename_i a n c hx
      cases h
      refine SOk.now fun W F H hag => ?_
      refine (step (p := .u (.slice a n c)) (by rw [hx]; simp only [TS.den]; rfl) ?_ hag : PQ P W o F H (.u (.int .i64 n)))
      unfold L.lenP
      simp only
      rw [if_pos (ht rfl)]
    · cases h
  | false =>
    simp only at h
    split at h
    · rename_i s hx
      cases h
      refine SOk.vr fun W F H hag => step (p := .u (.string ⟨⟨s⟩⟩)) (by rw [hx]; simp only [TS.den]; rfl) ?_ hag
      unfold L.lenP
      simp only
      rw [if_pos (ht2 rfl)]; rfl
    · rename_i s hx
      cases h
      refine SOk.vr fun W F H hag => step (p := .u (.string s)) (by rw [hx]; simp only [TS.den]; rfl) ?_ hag
      unfold L.lenP
      simp only
      rw [if_pos (ht2 rfl)]; rfl
    · cases h
def oeq (a b : Option Nat) : Bool := match a, b with
  | some x, some y => Nat.beq x y
  | _, _ => false
theorem za6 {a : Option Nat} {k : Nat} (h : oeq a (some k) = true) : a = some k := by
  unfold oeq at h
  split at h
  · rename_i e; cases e; rw [wb2 h]
  · cases h
def z0f : TS → Option Int
  | .c (.int _ z) => some z
  | _ => none
def z43 : List TS → Nat → Bool
  | [], _ => false
  | x :: xs, off => match Nat.blt off (Jo x) with
    | true => match x with
      | .v ⟨.arr _ _, _⟩ => Nat.beq off 0
      | _ => false
    | false => z43 xs (off - Jo x)
def cstA (xs : List TS) (off : Nat) (i : TS) : Option Int := match z43 xs off with
  | true => none
  | false => z0f i
theorem zxw {xs : List TS} {off : Nat} {i : TS} {z : Int} (h : cstA xs off i = some z) : z0f i = some z := by
  unfold cstA at h
  split at h
  · cases h
  · exact h
def sIdx (es : Option Nat) (ar : Option (Nat × Nat)) (G : EG) (x i : TS) : Option SR := q3 (Zo i) fun z => match x with
  | .v ⟨.sl t, l⟩ => match oeq es (some (wid t)) with
    | true => some (.dat t.D (atL l z) (fun y => .rd ⟨t, y⟩) [])
    | false => none
  | .rd ⟨.arr n t, a⟩ => match ar with
    | some (n', k) => match Nat.beq n' n && Nat.beq k (wid t) with
      | true => some (.dat t.D (atL a.l z) (fun y => .rd ⟨t, y⟩) [])
      | false => none
    | none => none
  | .own id ver => match Nat.beq (G id).ver ver with
    | true => match (G id).b with
      | some (.row _ t l) => match oeq es (some (wid t)) with
        | true => some (.dat Int (qn l.length z) (fun y => .elt id (wid t) y 0 ver) [id])
        | false => none
      | some (.que _ t l) => match oeq es (some (wid t)) with
        | true => some (.dat Int (qn l.length z) (fun y => .elt id (wid t) y 0 ver) [id])
        | false => none
      | some (.rows _ _ _ l _ _) => match oeq es (some 1) with
        | true => some (.dat Int (qn l.length z) (fun y => .elt id 1 y 0 ver) [id])
        | false => none
      | some (.rowx _ k xs) => match oeq es (some k) with
        | true => match z0f i with
          | some z => match qn xs.length z with
            | some z => some (.now (.pt id (z.toNat * k) ver) [id])
            | none => none
          | none => none
        | false => none
      | _ => none
    | false => none
  | .kid id p v => match zcr G id v with
    | some k => match oeq es (some (wid k.t)) with
      | true => some (.dat Int (ja (k.at p) fun y => qn y.length z) (fun y => .kel id p (wid k.t) y 0 v) [id])
      | false => none
    | none => none
  | .pt id off ver => match Nat.beq (G id).ver ver with
    | true => match (G id).b with
      | some (.box _ xs) => match ar with
        | some (n, k) => match cstA xs off i with
          | some z => match qn n z with
            | some z => some (.now (.pt id (off + z.toNat * k) ver) [id])
            | none => none
          | none => some (.dat Int (qn n z) (fun y => .elt id k y off ver) [id])
        | none => none
      | _ => none
    | false => none
  | _ => none
theorem zpf {i : TS} {z z' : Int} (h : z0f i = some z) (h' : Zo i = some z') : z = z' := by
  unfold z0f at h
  split at h
  · cases h; simp only [Zo] at h'; cases h'; rfl
  · cases h
theorem Yv {α : Type} (f : α → List PV) (k : Nat) : ∀ (l : List α), (∀ x ∈ l, (f x).length = k) → ∀ (j : Nat) (y : α), l[j]? = some y → ∃ rest, (l.flatMap f).drop (j * k) = f y ++ rest
  | [], _, j, y, h => by simp at h
  | a :: l, hl, 0, y, h => by
    simp at h; subst h
    exact ⟨l.flatMap f, by simp⟩
  | a :: l, hl, j + 1, y, h => by
    obtain ⟨rest, hr⟩ := Yv f k l (fun x hx => hl x (by simp [hx])) j y (by simpa using h)
    refine ⟨rest, ?_⟩
    rw [wci, wek, Nat.add_comm, ← List.drop_drop, wdp (hl a (by simp))]
    exact hr
theorem z4e {t : Nat} {x i : Operand} {q : SR} (ho : o.op = .indexAddr t x i) (h : sIdx (esz P t) (arr P t) G (evE E x) (evE E i) = some q) : SOk P o E G q := by
  have hx' : x ∈ o.op.operands := by rw [ho]; simp [Op.operands]
  have hi' : i ∈ o.op.operands := by rw [ho]; simp [Op.operands]
  unfold sIdx at h
  obtain ⟨z, hz, h⟩ := jt h
  obtain ⟨kd, hk⟩ := Jm hz
  have step : ∀ {rd W F H} {p r : PV}, (evE E x).den = p → L.indexAddrP P H t p (.u (.int kd z)) = some r → Agr o E G rd F H → PQ P W o F H r := fun {rd W F H p r} h1 h2 hag => by
    refine qe ?_
    unfold zj; rw [ho]
    simp only
    rw [hag.ev hx', hag.ev hi', h1, hk]; exact h2
  split at h
  · rename_i t' l hx
    split at h <;> cases h
    rename_i he
    have he := za6 he
    refine SOk.dat fun y hy W F H hag => ?_
    obtain ⟨h0, hy⟩ := z6 hy
    simp only [TS.den]
    refine step (p := .sl (wid t') (l.map (enc t'))) (by rw [hx]; simp only [TS.den]; rfl) ?_ hag
    unfold L.indexAddrP
    simp only
    rw [if_pos h0, if_pos he, wb9, hy]
    simp only [wcd, qc]
  · rename_i n t' a hx
    split at h <;> try (cases h; done)
    rename_i n' k har
    split at h <;> cases h
    rename_i hb
    simp only [wb6] at hb
    have e1 := wb2 hb.1
    have e2 := wb2 hb.2
    subst e1; subst e2
    refine SOk.dat fun y hy W F H hag => ?_
    obtain ⟨h0, hy⟩ := z6 hy
    simp only [TS.den]
    have hlt : z.toNat < n' := by rw [← a.h]; exact (wb3.1 hy).1
    obtain ⟨rest, hr⟩ := Yv (je t') (wid t') a.l (fun x _ => jn t' x) _ y hy
    refine PQ.ref (step (p := .rp (je (.arr n' t') a)) (r := .rp (je t' y ++ rest)) (by rw [hx]; simp only [TS.den]) ?_ hag) wbb
    unfold L.indexAddrP
    simp only
    rw [if_pos h0, har]
    simp only
    rw [if_pos hlt]
    simp only [je]
    rw [hr]
  · rename_i id ver hx
    split at h <;> try (cases h; done)
    rename_i hv
    have hv := wb2 hv
    have told : ∀ {bd : BD} {k n : Nat} {q : SR}, (G id).b = some bd → (bd.den id (G id).cv).kn = some (k, n) → oeq (esz P t) (some k) = true → q = .dat Int (qn n z) (fun y => .elt id k y 0 ver) [id] → SOk P o E G q := fun {bd k n q} hb hkn he e => by
      subst e
      have he := za6 he
      refine SOk.dat fun y hy W F H hag => ?_
      obtain ⟨h0, hlt, rfl⟩ := zdl hy
      refine (step (p := .ps (.o id) ver) (by rw [hx]; simp only [TS.den]) ?_ hag : PQ P W o F H (TS.elt id k y 0 ver).den)
      simp only [TS.den]
      unfold L.indexAddrP
      simp only
      rw [if_pos h0, Y5 (hag.h id (by simp)) hb hkn hv]
      simp only
      rw [if_pos ⟨he, hlt⟩]; rfl
    split at h
    · rename_i tid t' l hb
      split at h <;> cases h
      rename_i he
      exact told hb rfl he rfl
    · rename_i tid t' l hb
      split at h <;> cases h
      rename_i he
      exact told hb rfl he rfl
    · rename_i tid it t' l kv hh hb
      split at h <;> cases h
      rename_i he
      exact told hb rfl he rfl
    · rename_i tid k xs hb
      split at h <;> try (cases h; done)
      rename_i he
      have he := za6 he
      split at h <;> try (cases h; done)
      rename_i z1 hz1
      have := zpf hz1 hz
      subst this
      split at h <;> cases h
      rename_i z2 hz2
      obtain ⟨h0, hlt, rfl⟩ := zdl hz2
      refine SOk.now fun W F H hag => ?_
      refine (step (p := .ps (.o id) ver) (by rw [hx]; simp only [TS.den]) ?_ hag : PQ P W o F H (TS.pt id (z2.toNat * k) ver).den)
      simp only [TS.den]
      unfold L.indexAddrP
      simp only
      rw [if_pos h0, Y5 (hag.h id (by simp)) hb rfl hv]
      simp only
      rw [if_pos ⟨he, hlt⟩]
    · cases h
  · rename_i id p v hx
    split at h <;> try (cases h; done)
    rename_i k hkk
    split at h <;> cases h
    rename_i he
    have he := za6 he
    refine SOk.dat fun y hy W F H hag => ?_
    obtain ⟨r, hr, hy⟩ := qg hy
    obtain ⟨h0, hlt, rfl⟩ := zdl hy
    refine (step (p := .ps (.c id p.toNat) v) (by rw [hx]; simp only [TS.den]) ?_ hag : PQ P W o F H (TS.kel id p (wid k.t) y 0 v).den)
    simp only [TS.den]
    unfold L.indexAddrP zae
    simp only
    rw [if_pos h0, zaw hkk hr (hag.hn id (by simp))]
    simp only [if_true, PBody.kn]
    rw [if_pos ⟨he, hlt⟩]; rfl
  · rename_i id off ver hx
    split at h <;> try (cases h; done)
    rename_i hv
    have hv := wb2 hv
    split at h <;> try (cases h; done)
    rename_i tid xs hb
    split at h <;> try (cases h; done)
    rename_i n k har
    have key : ∀ {W F H} {y : Int}, qn n z = some y → Agr o E G [id] F H → PQ P W o F H (.pp (.o id) (off + y.toNat * k) ver) := fun {W F H y} hy hag => by
      obtain ⟨h0, hlt, rfl⟩ := zdl hy
      refine step (p := .pp (.o id) off ver) (by rw [hx]; simp only [TS.den]) ?_ hag
      unfold L.indexAddrP
      simp only
      rw [if_pos h0, har]
      simp only
      rw [if_pos hlt, yv (hag.h id (by simp)) hb hv]; rfl
    split at h
    · rename_i z1 hz1
      have := zpf (zxw hz1) hz
      subst this
      split at h <;> cases h
      rename_i z2 hz2
      exact SOk.now fun W F H hag => by simp only [TS.den]; exact key hz2 hag
    · cases h
      refine SOk.dat fun y hy W F H hag => ?_
      simp only [TS.den]
      rw [Nat.add_comm]
      exact key hy hag
  · cases h
end
def ldT (ag : Bool) (k off : Nat) (xs : List TS) : Option TS := match Jt 512 off xs with
  | none => none
  | some q => match Jt 512 k q.2 with
    | none => none
    | some r => match Yd ag r.1 with
      | .dead => none
      | s => match ag || Nat.beq k 1 with
        | true => some s
        | false => none
theorem zbf {ag : Bool} {k off : Nat} {xs : List TS} {s : TS} (h : ldT ag k off xs = some s) : (∃ p, zi ag k ((jo xs).drop off) = some p ∧ Ref p s.den) ∧ ∃ rest, (jo xs).drop off = s.den.cells ++ rest := by
  unfold ldT at h
  split at h <;> try (cases h; done)
  rename_i q hq
  split at h <;> try (cases h; done)
  rename_i r hr
  split at h <;> try (cases h; done)
  rename_i hnd
  split at h <;> cases h
  rename_i hk
  obtain ⟨a1, a2⟩ := zd _ _ _ _ hq
  obtain ⟨b1, b2⟩ := zd _ _ _ _ hr
  have e : (jo xs).drop off = jo r.1 ++ jo r.2 := by rw [← a1, wdp a2, b1]
  rw [e]
  refine ⟨zvq b2 fun ha => ?_, jo r.2, by rw [Qg hnd]⟩
  rw [ha] at hk
  exact wb2 (by simpa using hk)
section
variable {P : Program} {o : Oper} {E : EF} {G : EG} {rd : List Nat} {F : PFrame} {H : PHeap} {W : Env}
def sFld (fo k : Nat) (ag : Bool) (G : EG) (x : TS) : Option SR := match Nat.beq k 0 with
  | true => none
  | false => match x with
    | .rd d => match ldT ag k fo [.v d] with
      | some (.v d') => some (.now (.rd d') [])
      | _ => none
    | .pt id off ver => match Nat.beq (G id).ver ver with
      | true => match (G id).b with
        | some (.box _ _) => some (.now (.pt id (off + fo) ver) [id])
        | some (.rowx _ _ _) => some (.now (.pt id (off + fo) ver) [id])
        | _ => none
      | false => none
    | .elt id w i off ver => match Nat.beq (G id).ver ver with
      | true => match (G id).b with
        | some (.box _ _) => some (.now (.elt id w i (off + fo) ver) [id])
        | some (.row _ _ _) => some (.now (.elt id w i (off + fo) ver) [id])
        | _ => none
      | false => none
    | _ => none
theorem zfz {id ver : Nat} (hH : H (.o id) = qr id (G id)) {bd : BD} (hb : (G id).b = some bd) (hd : (∃ t xs, bd = .box t xs) ∨ (∃ t k xs, bd = .rowx t k xs) ∨ (∃ t y l, bd = .row t y l)) (hv : (G id).ver = ver) : (jx H (.o id) ver).isSome = true := by
  rcases hd with ⟨t, xs, rfl⟩ | ⟨t, k, xs, rfl⟩ | ⟨t, y, l, rfl⟩
  · rw [yv hH hb hv]; rfl
  · rw [yl hH hb rfl hv]; rfl
  · rw [yl hH hb rfl hv]; rfl
theorem z4d {s f fo ft k : Nat} {ag : Bool} {x : Operand} {q : SR} (ho : o.op = .fieldAddr s x f) (hf : fof P s f = some (fo, ft)) (ht : asz P ft = some (ag, k)) (h : sFld fo k ag G (evE E x) = some q) : SOk P o E G q := by
  have hx' : x ∈ o.op.operands := by rw [ho]; simp [Op.operands]
  have step : ∀ {rd W F H} {p r : PV}, (evE E x).den = p → L.fieldAddrP P H s f p = some r → Agr o E G rd F H → PQ P W o F H r := fun {rd W F H p r} h1 h2 hag => by
    refine qe ?_
    unfold zj; rw [ho]
    simp only
    rw [hag.ev hx', h1]; exact h2
  unfold sFld at h
  split at h <;> try (cases h; done)
  rename_i hk0
  have hk0 : ¬ k = 0 := fun e => by subst e; cases hk0
  have own : ∀ {W F H} {id oo ver : Nat}, (evE E x).den = .pp (.o id) oo ver → (jx H (.o id) ver).isSome = true → Agr o E G [id] F H → PQ P W o F H (.pp (.o id) (oo + fo) ver) := fun {W F H id oo ver} h1 h2 hag => by
    refine step (p := .pp (.o id) oo ver) h1 ?_ hag
    unfold L.fieldAddrP
    rw [hf]
    simp only
    rw [ht]
    simp only
    rw [if_neg hk0]
    cases hl : jx H (.o id) ver with
    | none => rw [hl] at h2; cases h2
    | some cs => rfl
  split at h
  · rename_i d hx
    split at h <;> cases h
    rename_i d' hd
    obtain ⟨_, rest, hr⟩ := zbf hd
    simp only [jo, TS.den, qc, wcl] at hr
    refine SOk.now fun W F H hag => ?_
    simp only [TS.den]
    refine PQ.ref (step (p := .rp (je d.t d.x)) (r := .rp (je d'.t d'.x ++ rest)) (by rw [hx]; simp only [TS.den]) ?_ hag) wbb
    unfold L.fieldAddrP
    rw [hf]
    simp only
    rw [ht]
    simp only
    rw [if_neg hk0, hr]
  · rename_i id off ver hx
    split at h <;> try (cases h; done)
    rename_i hv
    have hv := wb2 hv
    split at h <;> cases h
    · rename_i t xs hb
      exact SOk.now fun W F H hag => by simp only [TS.den]; exact own (by rw [hx]; simp only [TS.den]) (zfz (hag.h id (by simp)) hb (.inl ⟨_, _, rfl⟩) hv) hag
    · rename_i t w xs hb
      exact SOk.now fun W F H hag => by simp only [TS.den]; exact own (by rw [hx]; simp only [TS.den]) (zfz (hag.h id (by simp)) hb (.inr (.inl ⟨_, _, _, rfl⟩)) hv) hag
  · rename_i id w i off ver hx
    split at h <;> try (cases h; done)
    rename_i hv
    have hv := wb2 hv
    split at h <;> cases h
    · rename_i t xs hb
      exact SOk.now fun W F H hag => by simp only [TS.den]; rw [← wd7]; exact own (by rw [hx]; simp only [TS.den]) (zfz (hag.h id (by simp)) hb (.inl ⟨_, _, rfl⟩) hv) hag
    · rename_i t y l hb
      exact SOk.now fun W F H hag => by simp only [TS.den]; rw [← wd7]; exact own (by rw [hx]; simp only [TS.den]) (zfz (hag.h id (by simp)) hb (.inr (.inr ⟨_, _, _, rfl⟩)) hv) hag
  · cases h
def zej : List TS → Nat → Option (TS × Nat)
  | [], _ => none
  | x :: xs, off => match Nat.blt off (Jo x) with
    | true => some (x, off)
    | false => zej xs (off - Jo x)
theorem zfe : ∀ {xs : List TS} {off : Nat} {r : TS × Nat}, zej xs off = some r → ∃ pre post, jo xs = pre ++ r.1.den.cells ++ post ∧ pre.length + r.2 = off ∧ r.2 < Jo r.1
  | [], off, r, h => by simp [zej] at h
  | x :: xs, off, r, h => by
    simp only [zej] at h
    split at h
    · rename_i hb
      cases h
      refine ⟨[], jo xs, by simp only [jo, wc2], by simp, by simpa [web] using hb⟩
    · rename_i hb
      obtain ⟨pre, post, h1, h2, h3⟩ := zfe h
      refine ⟨x.den.cells ++ pre, post, by simp only [jo, h1, wcq], ?_, h3⟩
      have hl := zbu x
      have : ¬ off < Jo x := by
        intro hlt
        have : Nat.blt off (Jo x) = true := by simpa [web] using hlt
        rw [hb] at this; cases this
      rw [wch, hl]; omega
def arr1 (xs : List TS) (off : Nat) : Option (TS × Nat) := match zej xs off with
  | some (.v ⟨.st r, y⟩, o) => match zfd (.v ⟨.st r, y⟩) with
    | some ys => zej ys o
    | none => none
  | q => q
theorem z18 {xs : List TS} {off : Nat} {r : TS × Nat} (h : arr1 xs off = some r) : ∃ pre post, jo xs = pre ++ r.1.den.cells ++ post ∧ pre.length + r.2 = off ∧ r.2 < Jo r.1 := by
  unfold arr1 at h
  split at h
  · rename_i rr y o ha
    split at h <;> try (cases h; done)
    rename_i ys hy
    obtain ⟨p1, q1, a1, a2, a3⟩ := zfe ha
    obtain ⟨p2, q2, b1, b2, b3⟩ := zfe h
    rw [Zd hy rfl] at a1
    simp only [PV.cells] at a1
    exact ⟨p1 ++ p2, q2 ++ q1, by rw [a1, b1]; simp only [wcq], by rw [wch]; simp only at a2; omega, b3⟩
  · exact zfe h
def zbo (o : Option TS) : TS := match o with
  | some s => s
  | none => .dead
def sLd (ag : Bool) (k : Nat) (G : EG) (x : TS) : Option SR := match x with
  | .rd d => match ldT ag k 0 [.v d] with
    | some s => some (.now s [])
    | none => none
  | .v ⟨.ref t, p⟩ => match Nat.ble k (wid t) && (ag || Nat.beq k 1) with
    | true => some (.dat t.D p (fun y => zbo (ldT ag k 0 [.v ⟨t, y⟩])) [])
    | false => none
  | .pt id off ver => match Nat.beq (G id).ver ver with
    | true => match (G id).b with
      | some (.box _ xs) => match ldT ag k off xs with
        | some s => some (.now s [id])
        | none => none
      | some (.rowx _ _ xs) => match ldT ag k off xs with
        | some s => some (.now s [id])
        | none => none
      | _ => none
    | false => none
  | .elt id w i off ver => match Nat.beq (G id).ver ver with
    | true => match (G id).b with
      | some (.row _ t l) => match Nat.beq w (wid t) && (Nat.ble (off + k) w && (ag || Nat.beq k 1)) with
        | true => some (.dat t.D (atL l i) (fun y => zbo (ldT ag k off [.v ⟨t, y⟩])) [id])
        | false => none
      | some (.que _ t l) => match Nat.beq w (wid t) && (Nat.ble (off + k) w && (ag || Nat.beq k 1)) with
        | true => some (.dat t.D (atL l i) (fun y => zbo (ldT ag k off [.v ⟨t, y⟩])) [id])
        | false => none
      | some (.box _ xs) => match arr1 xs off with
        | some (.v ⟨.arr n t, a⟩, off') => match Nat.beq w (wid t) && (Nat.ble (off' + k) w && (ag || Nat.beq k 1)) with
          | true => some (.dat t.D (atL a.l i) (fun y => zbo (ldT ag k off' [.v ⟨t, y⟩])) [id])
          | false => none
        | _ => none
      | some (.rows _ it t l _ h) => match Nat.beq w 1 && Nat.beq off 0 && Nat.beq k 1 && !ag with
        | true => some (.dat (List t.D) (Kids.at ⟨t, it, l, h⟩ i) (fun _ => .kid id i (G id).cv) [id])
        | false => none
      | _ => none
    | false => none
  | .kel id p w i off v => match zcr G id v with
    | some c => match Nat.beq w (wid c.t) && (Nat.ble (off + k) w && (ag || Nat.beq k 1)) with
      | true => some (.dat c.t.D (ja (c.at p) fun y => atL y i) (fun y => zbo (ldT ag k off [.v ⟨c.t, y⟩])) [id])
      | false => none
    | none => none
  | _ => none
theorem zx1 {ag : Bool} {k : Nat} {cs ds : List PV} {p : PV} (h : zi ag k cs = some p) : zi ag k (cs ++ ds) = some p := by
  unfold zi at h ⊢
  cases ag with
  | true =>
    simp only [if_true] at h ⊢
    split at h <;> cases h
    rename_i hk
    rw [if_pos (by simp; omega), List.take_append_of_le_length hk]
  | false =>
    simp at h ⊢
    rw [wcc (wb3.1 h).1]; exact h
theorem zom {ag : Bool} {k off : Nat} {t : Ty} {y : t.D} {cs rest : List PV} (hcs : cs = je t y ++ rest) (hP : ∃ p, zi ag k (cs.drop off) = some p) : ∃ p, zi ag k (cs.drop off) = some p ∧ Ref p (zbo (ldT ag k off [.v ⟨t, y⟩])).den := by
  unfold zbo
  split
  · rename_i s hs
    obtain ⟨⟨p, h1, h2⟩, rest', h3⟩ := zbf hs
    simp only [jo, TS.den, qc, wcl] at h1 h3
    refine ⟨p, ?_, h2⟩
    rw [hcs]
    by_cases hle : off ≤ (je t y).length
    · rw [List.drop_append_of_le_length hle]
      exact zx1 h1
    · rw [List.drop_eq_nil_of_le (by omega)] at h1
      unfold zi at h1
      cases ag with
      | true =>
        simp only [if_true, wdj] at h1
        split at h1
        · rename_i hk
          have : k = 0 := by omega
          subst this
          cases h1
          unfold zi
          simp
        · cases h1
      | false => simp at h1
  · obtain ⟨p, hp⟩ := hP
    exact ⟨p, hp, by simp only [TS.den]; exact Ref.unk p⟩
theorem zpi {ag : Bool} {k : Nat} {cs : List PV} (h : k ≤ cs.length) (hk : (ag || Nat.beq k 1) = true) : ∃ p, zi ag k cs = some p := by
  unfold zi
  cases ag with
  | true => simp only [if_true]; rw [if_pos h]; exact ⟨_, rfl⟩
  | false =>
    have : k = 1 := wb2 (by simpa using hk)
    subst this
    cases cs with
    | nil => simp at h
    | cons c cs => exact ⟨c, by simp⟩
theorem zkx {ag : Bool} {k off i : Nat} {t : Ty} {l : List t.D} {y : t.D} (hy : l[i]? = some y) (hle : off + k ≤ wid t) (hk : (ag || Nat.beq k 1) = true) (rest : List PV) : ∃ p, zi ag k ((l.flatMap (je t) ++ rest).drop (i * wid t + off)) = some p ∧ Ref p (zbo (ldT ag k off [.v ⟨t, y⟩])).den := by
  obtain ⟨r1, hr⟩ := Yv (je t) (wid t) l (fun x _ => jn t x) i y hy
  have hlen : (l.flatMap (je t)).length = l.length * wid t := ye _ _ _ fun x _ => jn t x
  have hi := (wb3.1 hy).1
  have hmul : i * wid t + wid t ≤ l.length * wid t := by
    have : (i + 1) * wid t ≤ l.length * wid t := wdd _ hi
    rwa [wek] at this
  have e : (l.flatMap (je t) ++ rest).drop (i * wid t) = je t y ++ (r1 ++ rest) := by
    rw [List.drop_append_of_le_length (by omega), hr, wcq]
  rw [← List.drop_drop, e]
  refine zom rfl (zpi ?_ hk)
  rw [wd9, wch, jn]; omega
theorem sLd_ok {t k : Nat} {ag : Bool} {x : Operand} {q : SR} (ho : o.op = .load t x) (ht : asz P t = some (ag, k)) (h : sLd ag k G (evE E x) = some q) : SOk P o E G q := by
  have hx' : x ∈ o.op.operands := by rw [ho]; simp [Op.operands]
  have step : ∀ {rd W F H} {p r : PV}, (evE E x).den = p → Qq P H t p = some r → Agr o E G rd F H → PQ P W o F H r := fun {rd W F H p r} h1 h2 hag => by
    refine qe ?_
    unfold zj; rw [ho]
    simp only
    rw [hag.ev hx', h1]; exact h2
  have own : ∀ {W F H} {id oo ver : Nat} {cs : List PV} {s : TS}, (evE E x).den = .pp (.o id) oo ver → jx H (.o id) ver = some cs → (∃ p, zi ag k (cs.drop oo) = some p ∧ Ref p s.den) → Agr o E G [id] F H → PQ P W o F H s.den := fun {W F H id oo ver cs s} h1 h2 h3 hag => by
    obtain ⟨p, hp, hr⟩ := h3
    refine PQ.ref (step (p := .pp (.o id) oo ver) (r := p) h1 ?_ hag) hr
    unfold Qq
    rw [ht]
    simp only
    rw [h2]; exact hp
  unfold sLd at h
  split at h
  · rename_i d hx
    split at h <;> cases h
    rename_i s hs
    obtain ⟨⟨p, h1, h2⟩, _⟩ := zbf hs
    simp only [jo, TS.den, qc, wcl, List.drop_zero] at h1
    refine SOk.now fun W F H hag => PQ.ref (step (p := .rp (je d.t d.x)) (r := p) (by rw [hx]; simp only [TS.den]) ?_ hag) h2
    unfold Qq
    rw [ht]; exact h1
  · rename_i t' p hx
    split at h <;> cases h
    rename_i hc
    simp only [wb6] at hc
    refine SOk.dat fun y hy W F H hag => ?_
    subst hy
    obtain ⟨p, h1, h2⟩ := zom (ag := ag) (k := k) (off := 0) (t := t') (y := y) (cs := je t' y) (rest := []) (by simp) (zpi (by rw [List.drop_zero, jn]; exact wc0 hc.1) hc.2)
    refine PQ.ref (step (p := .rp (je t' y)) (r := p) (by rw [hx]; simp only [TS.den]; rfl) ?_ hag) h2
    unfold Qq
    rw [ht]; exact h1
  · rename_i id off ver hx
    split at h <;> try (cases h; done)
    rename_i hv
    have hv := wb2 hv
    split at h <;> try (cases h; done)
    · rename_i tt xs hb
      split at h <;> cases h
      rename_i s hs
      exact SOk.now fun W F H hag => own (by rw [hx]; simp only [TS.den]) (yv (hag.h id (by simp)) hb hv) (zbf hs).1 hag
    · rename_i tt w xs hb
      split at h <;> cases h
      rename_i s hs
      exact SOk.now fun W F H hag => own (by rw [hx]; simp only [TS.den]) (yl (hag.h id (by simp)) hb rfl hv) (zbf hs).1 hag
  · rename_i id w i off ver hx
    split at h <;> try (cases h; done)
    rename_i hv
    have hv := wb2 hv
    have told : ∀ {bd : BD} {t' : Ty} {l : List t'.D} {q : SR}, (G id).b = some bd → (∀ H, H (.o id) = qr id (G id) → jx H (.o id) ver = some (l.flatMap (je t'))) → (Nat.beq w (wid t') && (Nat.ble (off + k) w && (ag || Nat.beq k 1))) = true → q = .dat t'.D (atL l i) (fun y => zbo (ldT ag k off [.v ⟨t', y⟩])) [id] → SOk P o E G q := fun {bd t' l q} hb hl hc e => by
      subst e
      simp only [wb6] at hc
      have e := wb2 hc.1
      have hle := wc0 hc.2.1
      subst e
      refine SOk.dat fun y hy W F H hag => ?_
      obtain ⟨h0, hy⟩ := z6 hy
      refine own (oo := i.toNat * wid t' + off) (cs := l.flatMap (je t')) (by rw [hx]; simp only [TS.den]) (hl H (hag.h id (by simp))) ?_ hag
      have := zkx (ag := ag) (k := k) (off := off) hy hle hc.2.2 []
      simpa using this
    split at h <;> try (cases h; done)
    · rename_i tt t' l hb
      split at h <;> cases h
      rename_i hc
      exact told hb (fun H hH => yl hH hb rfl hv) hc rfl
    · rename_i tt t' l hb
      split at h <;> cases h
      rename_i hc
      exact told hb (fun H hH => znq hH hb rfl hv) hc rfl
    · rename_i tt xs hb
      split at h <;> try (cases h; done)
      rename_i n t' a off' har
      split at h <;> cases h
      rename_i hc
      simp only [wb6] at hc
      have e := wb2 hc.1
      have hle := wc0 hc.2.1
      subst e
      refine SOk.dat fun y hy W F H hag => ?_
      obtain ⟨h0, hy⟩ := z6 hy
      obtain ⟨pre, post, h1, h2, h3⟩ := z18 har
      simp only at h1 h2
      refine own (oo := i.toNat * wid t' + off) (cs := jo xs) (by rw [hx]; simp only [TS.den]) (yv (hag.h id (by simp)) hb hv) ?_ hag
      simp only [TS.den, qc, je] at h1
      have := zkx (ag := ag) (k := k) (off := off') hy hle hc.2.2 post
      rw [h1, show i.toNat * wid t' + off = pre.length + (i.toNat * wid t' + off') by omega, ← List.drop_drop, wcq, wdp rfl]
      exact this
    · rename_i tt it t' l kv hh hb
      split at h <;> cases h
      rename_i hc
      simp only [wb6, wc5] at hc
      obtain ⟨⟨⟨e1, e2⟩, e3⟩, e4⟩ := hc
      have e1 := wb2 e1
      have e2 := wb2 e2
      have e3 := wb2 e3
      subst e1; subst e2; subst e3; subst e4
      refine SOk.dat fun y hy W F H hag => ?_
      obtain ⟨h0, hy, hi⟩ := wai hy
      simp only at hy hi
      refine own (oo := i.toNat * 1 + 0) (cs := (range l.length).map (hh.cell id (G id).cv)) (by rw [hx]; simp only [TS.den]) (yl (hag.h id (by simp)) hb rfl hv) ⟨.ps (.c id i.toNat) (G id).cv, ?_, by simp only [TS.den]; exact Ref.refl _⟩ hag
      have hlt := (wb3.1 hy).1
      unfold zi
      simp [hlt, Hole.cell, hi]
  · rename_i id p w i off v hx
    split at h <;> try (cases h; done)
    rename_i c hk
    split at h <;> cases h
    rename_i hc
    simp only [wb6] at hc
    have e := wb2 hc.1
    have hle := wc0 hc.2.1
    subst e
    refine SOk.dat fun y hy W F H hag => ?_
    obtain ⟨r, hr, hy⟩ := qg hy
    obtain ⟨h0, hy⟩ := z6 hy
    have hb := zaw hk hr (hag.hn id (by simp))
    obtain ⟨q, hq, hq2⟩ := zkx (ag := ag) (k := k) (off := off) hy hle hc.2.2 []
    refine PQ.ref (step (p := .pp (.c id p.toNat) (i.toNat * wid c.t + off) v) (r := q) (by rw [hx]; simp only [TS.den]) ?_ hag) hq2
    unfold Qq jx
    rw [ht]
    simp only
    rw [hb]
    simp only [if_true]
    simpa using hq
  · cases h
def zur (s : TS) : Option (List TS) := match s with
  | .v ⟨.arr n t, a⟩ => some [.v ⟨.arr n t, a⟩]
  | s => Yl s
theorem zyh {s : TS} {xs : List TS} (h : zur s = some xs) : s.den = .agg (jo xs) := by
  unfold zur at h
  split at h
  · cases h; simp only [TS.den, jo, wcl, qc]; rfl
  · exact zay h
def sFie (fo k : Nat) (ag : Bool) (x : TS) : Option SR := match zur x with
  | some xs => match ldT ag k fo xs with
    | some s => some (.now s [])
    | none => none
  | none => none
theorem z3x {t f fo ft k : Nat} {ag : Bool} {x : Operand} {q : SR} (ho : o.op = .field t x f) (hf : fof P t f = some (fo, ft)) (ht : asz P ft = some (ag, k)) (h : sFie fo k ag (evE E x) = some q) : SOk P o E G q := by
  have hx' : x ∈ o.op.operands := by rw [ho]; simp [Op.operands]
  unfold sFie at h
  split at h <;> try (cases h; done)
  rename_i xs hxs
  split at h <;> cases h
  rename_i s hs
  obtain ⟨⟨p, h1, h2⟩, _⟩ := zbf hs
  refine SOk.now fun W F H hag => PQ.ref (qe ?_) h2
  unfold zj; rw [ho]
  simp only
  rw [hag.ev hx', zyh hxs]
  unfold zpn
  rw [hf]
  simp only
  unfold zo3
  rw [ht]; exact h1
def zpt (s : List UInt8) (z : Int) : Option Int := match decide (0 ≤ z) with
  | true => (s[z.toNat]?).map fun b => (b.toNat : Int)
  | false => none
def z4q (x i : TS) : Option SR := q3 (Zo i) fun z => q3 (zk .str x) fun s => some (.vo (.int .u8) (zpt s z))
theorem zzp {t : TypeId} {x i : Operand} {q : SR} (ho : o.op = .index t x i) (ht : Yc P t = true) (h : z4q (evE E x) (evE E i) = some q) : SOk P o E G q := by
  have hx' : x ∈ o.op.operands := by rw [ho]; simp [Op.operands]
  have hi' : i ∈ o.op.operands := by rw [ho]; simp [Op.operands]
  obtain ⟨z, hz, h⟩ := jt h
  obtain ⟨s, hs, h⟩ := jt h
  cases h
  obtain ⟨kd, hk⟩ := Jm hz
  refine SOk.vo fun r hr W F H hag => qe ?_
  unfold zpt at hr
  split at hr <;> try (cases hr; done)
  rename_i h0
  have h0 := wc8 h0
  obtain ⟨b, hb, rfl⟩ := wca.1 hr
  unfold zj; rw [ho]
  simp only
  rw [hag.ev hx', hag.ev hi', vj hs, hk]
  show ze0 P t (.u (.string ⟨⟨s⟩⟩)) (.u (.int kd z)) = _
  unfold ze0
  simp only
  rw [if_pos ht, if_pos h0]
  have : (⟨⟨s⟩⟩ : ByteArray)[z.toNat]? = some b := by
    have e := (wb3.1 hb)
    obtain ⟨e1, e2⟩ := e
    have : z.toNat < (⟨⟨s⟩⟩ : ByteArray).size := e1
    rw [getElem?_pos (⟨⟨s⟩⟩ : ByteArray) z.toNat this]
    exact congrArg some e2
  rw [this]; rfl
def bdL (d : Nat) : Option TS → Option (Option Int)
  | none => some none
  | some s => match Zo s with
    | some z => some (some z)
    | none => none
def bdN (d : Nat) : Option Int → Option Nat
  | none => some d
  | some z => match decide (0 ≤ z) with
    | true => some z.toNat
    | false => none
def zh8 {α : Type} (l : List α) (lo hi : Option Int) : Option (List α) := match bdN 0 lo with
  | none => none
  | some a => match bdN l.length hi with
    | none => none
    | some b => match decide (a ≤ b) && decide (b ≤ l.length) with
      | true => some ((l.take b).drop a)
      | false => none
def sSli (es : Option Nat) (str : Bool) (x : TS) (lo hi : Option TS) : Option SR := q3 (bdL 0 lo) fun a => q3 (bdL 0 hi) fun b => match x with
  | .v ⟨.sl t, l⟩ => match oeq es (some (wid t)) with
    | true => some (.vo (.sl t) (zh8 l a b))
    | false => none
  | .v ⟨.str, s⟩ => match str with
    | true => some (.vo .str (zh8 s a b))
    | false => none
  | _ => none
theorem zqx {d d' : Nat} {lo : Option Operand} {F : PFrame} (hev : ∀ x, lo = some x → evP F x = (evE E x).den) {a : Option Int} (h : bdL d (lo.map (evE E)) = some a) : zbv d' (lo.map (evP F)) = bdN d' a := by
  cases lo with
  | none => simp only [Option.map_none, bdL] at h; cases h; rfl
  | some x =>
    simp only [wcd, bdL] at h
    split at h <;> cases h
    rename_i z hz
    obtain ⟨k, hk⟩ := Jm hz
    simp only [wcd]
    rw [hev x rfl, hk]
    unfold zbv bdN
    simp only
    by_cases h0 : 0 ≤ z
    · rw [if_pos h0, decide_eq_true h0]
    · rw [if_neg h0, decide_eq_false h0]
theorem z4g {t : TypeId} {x : Operand} {lo hi : Option Operand} {q : SR} (ho : o.op = .slice t x lo hi none) (h : sSli (esz P t) (Yc P t) (evE E x) (lo.map (evE E)) (hi.map (evE E)) = some q) : SOk P o E G q := by
  have hx' : x ∈ o.op.operands := by rw [ho]; simp [Op.operands]
  have hl' : ∀ y, lo = some y → y ∈ o.op.operands := fun y e => by rw [ho]; subst e; simp [Op.operands]
  have hh' : ∀ y, hi = some y → y ∈ o.op.operands := fun y e => by rw [ho]; subst e; simp [Op.operands]
  obtain ⟨a, ha, h⟩ := jt h
  obtain ⟨b, hb, h⟩ := jt h
  split at h
  · rename_i t' l hx
    split at h <;> try (cases h; done)
    rename_i he
    cases h
    have he := za6 he
    refine SOk.vo fun r hr W F H hag => qe ?_
    unfold zj; rw [ho]
    simp only
    rw [hag.ev hx', hx]
    simp only [TS.den]
    rw [zby]
    unfold zg2
    simp only
    rw [zqx (E := E) (fun y e => hag.ev (hl' y e)) ha, zqx (E := E) (fun y e => hag.ev (hh' y e)) hb, wcs]
    unfold zh8 at hr
    split at hr <;> try (cases hr; done)
    rename_i n1 h1
    split at hr <;> try (cases hr; done)
    rename_i n2 h2
    split at hr <;> cases hr
    rename_i hc
    simp only [wb6, wc9] at hc
    rw [h1, h2]
    simp only
    rw [if_pos ⟨he, hc.1, hc.2⟩, zby, List.map_drop, List.map_take]
  · rename_i s hx
    split at h <;> try (cases h; done)
    rename_i hst
    cases h
    refine SOk.vo fun r hr W F H hag => qe ?_
    unfold zj; rw [ho]
    simp only
    rw [hag.ev hx', hx]
    simp only [TS.den]
    show zg2 P t (.u (.string ⟨⟨s⟩⟩)) _ _ = _
    unfold zg2
    simp only
    have hsz : (⟨⟨s⟩⟩ : ByteArray).size = s.length := rfl
    rw [zqx (E := E) (fun y e => hag.ev (hl' y e)) ha, zqx (E := E) (fun y e => hag.ev (hh' y e)) hb, hsz]
    unfold zh8 at hr
    split at hr <;> try (cases hr; done)
    rename_i n1 h1
    split at hr <;> try (cases hr; done)
    rename_i n2 h2
    split at hr <;> cases hr
    rename_i hc
    simp only [wb6, wc9] at hc
    rw [h1, h2]
    simp only
    rw [if_pos ⟨hst, hc.1, hc.2⟩]
    have : (⟨⟨s⟩⟩ : ByteArray).extract n1 n2 = ⟨⟨(s.take n2).drop n1⟩⟩ := by
      apply ByteArray.ext
      rw [ByteArray.data_extract]
      simp [List.extract_eq_take_drop, List.drop_take]
    rw [this]; rfl
  · cases h
end
def BD.celled : BD → Bool
  | .obj _ _ => false
  | .mrows _ _ _ _ _ _ => false
  | .iter _ _ _ _ => false
  | _ => true
def zo6 (G : EG) (id ver : Nat) : Bool := match Nat.beq (G id).ver ver with
  | true => match (G id).b with
    | some bd => bd.celled
    | none => false
  | false => false
def rowB (G : EG) (id ver : Nat) : Bool := match Nat.beq (G id).ver ver with
  | true => match (G id).b with
    | some (.row _ _ _) => true
    | some (.rowx _ _ _) => true
    | _ => false
  | false => false
def ownB (G : EG) (id ver : Nat) : Bool := match Nat.beq (G id).ver ver with
  | true => (G id).b.isSome
  | false => false
mutual
def okT (G : EG) : TS → Bool
  | .v d => Ya d.t
  | .c (.agg vs) => vs.toList.all Value.oneCell'
  | .c v => v.oneCell'
  | .own id ver => ownB G id ver
  | .q id _ _ ver => rowB G id ver
  | .pt id _ ver => zo6 G id ver
  | .elt id _ _ _ ver => zo6 G id ver
  | .rd _ => true
  | .fn _ _ _ => true
  | .agg xs => zu6 G xs
  | _ => false
def zu6 (G : EG) : List TS → Bool
  | [] => true
  | x :: xs => okT G x && zu6 G xs
end
mutual
def zc9 : TS → List Nat
  | .own id _ => [id]
  | .q id _ _ _ => [id]
  | .pt id _ _ => [id]
  | .elt id _ _ _ _ => [id]
  | .agg xs => zdd xs
  | _ => []
def zdd : List TS → List Nat
  | [] => []
  | x :: xs => zc9 x ++ zdd xs
end
section
variable {P : Program} {o : Oper} {E : EF} {G : EG} {rd : List Nat} {F : PFrame} {H : PHeap} {W : Env}
theorem zxt {id ver : Nat} (h : rowB G id ver = true) (hH : H (.o id) = qr id (G id)) : (yh H (.o id) ver).isSome = true := by
  unfold rowB at h
  split at h <;> try (cases h; done)
  rename_i hv
  have hv := wb2 hv
  split at h <;> try (cases h; done)
  · rename_i hb; rw [yb hH hb rfl hv]; rfl
  · rename_i hb; rw [yb hH hb rfl hv]; rfl
theorem zw2 {id ver : Nat} (h : ownB G id ver = true) (hH : H (.o id) = qr id (G id)) : ((H (.o id)).body.isSome && Nat.beq (H (.o id)).ver ver) = true := by
  unfold ownB at h
  split at h <;> try (cases h; done)
  rename_i hv
  rw [hH]
  simp only [qr, Option.isSome_map, h, hv, Bool.and_self]
theorem zbe {id ver : Nat} (h : zo6 G id ver = true) (hH : H (.o id) = qr id (G id)) : (jx H (.o id) ver).isSome = true := by
  unfold zo6 at h
  split at h <;> try (cases h; done)
  rename_i hv
  split at h <;> try (cases h; done)
  rename_i bd hb
  unfold jx
  rw [hH]
  simp only [qr, hb, wcd, wb2 hv, if_true]
  cases bd <;> first | rfl | cases h
mutual
theorem zru : ∀ (s : TS), okT G s = true → (∀ id ∈ zc9 s, H (.o id) = qr id (G id)) → ∀ c ∈ s.den.cells, yj H c = true
  | .v d, h, hi, c, hc => by
    simp only [okT] at h
    simp only [TS.den, qc] at hc
    exact Y6 _ _ H h c hc
  | .c v, h, hi, c, hc => by
    simp only [TS.den] at hc
    cases v with
    | agg vs =>
      simp only [okT, wcz] at h
      simp only [ofV, PV.cells] at hc
      obtain ⟨u, hu, rfl⟩ := wcf.1 hc
      exact h u hu
    | _ => simp only [okT] at h; simp only [ofV, PV.cells, wcb] at hc; subst hc; exact h
  | .own id ver, h, hi, c, hc => by
    simp only [okT] at h
    simp only [TS.den, PV.cells, wcb] at hc; subst hc
    exact zw2 h (hi id (by simp only [zc9, wcb]))
  | .q id k off ver, h, hi, c, hc => by
    simp only [okT] at h
    simp only [TS.den, PV.cells, wcb] at hc; subst hc
    exact zxt h (hi id (by simp only [zc9, wcb]))
  | .pt id off ver, h, hi, c, hc => by
    simp only [okT] at h
    simp only [TS.den, PV.cells, wcb] at hc; subst hc
    exact zbe h (hi id (by simp only [zc9, wcb]))
  | .elt id k i off ver, h, hi, c, hc => by
    simp only [okT] at h
    simp only [TS.den, PV.cells, wcb] at hc; subst hc
    exact zbe h (hi id (by simp only [zc9, wcb]))
  | .rd d, h, hi, c, hc => by simp only [TS.den, PV.cells, wcb] at hc; subst hc; rfl
  | .fn f a b, h, hi, c, hc => by simp only [TS.den, PV.cells, wcb] at hc; subst hc; rfl
  | .agg xs, h, hi, c, hc => by
    simp only [okT] at h
    simp only [TS.den, PV.cells] at hc
    exact zoj xs h (by simpa only [zc9] using hi) c hc
  | .kid _ _ _, h, hi, c, hc => by simp [okT] at h
  | .kel _ _ _ _ _ _, h, hi, c, hc => by simp [okT] at h
  | .dead, h, hi, c, hc => by simp [okT] at h
  | .tup _, h, hi, c, hc => by simp [okT] at h
theorem zoj : ∀ (xs : List TS), zu6 G xs = true → (∀ id ∈ zdd xs, H (.o id) = qr id (G id)) → ∀ c ∈ jo xs, yj H c = true
  | [], h, hi, c, hc => by simp [jo] at hc
  | x :: xs, h, hi, c, hc => by
    simp only [zu6, wb6] at h
    simp only [jo, wcr] at hc
    simp only [zdd, wcr] at hi
    rcases hc with hc | hc
    · exact zru x h.1 (fun id hid => hi id (.inl hid)) c hc
    · exact zoj xs h.2 (fun id hid => hi id (.inr hid)) c hc
end
theorem okC_of {p : PV} (h : ∀ c ∈ p.cells, yj H c = true) (hn : (∃ cs, p = .agg cs) ∨ p.cells = [p]) : okC H p = true := by
  rcases hn with ⟨cs, rfl⟩ | hn
  · simp only [okC, wcz]; exact h
  · have := h p (by rw [hn]; simp)
    cases p with
    | agg cs => simp [yj] at this
    | _ => exact this
theorem Ys {s : TS} (h : okT G s = true) (hi : ∀ id ∈ zc9 s, H (.o id) = qr id (G id)) : okC H s.den = true := by
  refine okC_of (zru s h hi) ?_
  cases hs : zw s
  · exact .inr (Jj hs)
  · exact .inl ⟨_, Zp hs⟩
abbrev ZT := TypeId → Option (List TS)
def zai (P : Program) (zt : ZT) : Prop := ∀ t xs, zt t = some xs → ∃ us, zio P t = some us ∧ us.all Value.oneCell' = true ∧ RefL (us.map .u) (jo xs)
def znk (off k : Nat) (s : TS) (xs : List TS) : Option (List TS) := match Jt 512 off xs with
  | none => none
  | some q => match Jt 512 k q.2 with
    | none => none
    | some r => match Nat.beq (Jo s) k with
      | true => some (q.1 ++ s :: r.2)
      | false => none
theorem Zw {off k : Nat} {s : TS} {xs ys : List TS} (h : znk off k s xs = some ys) : jo ys = setMany (jo xs) off s.den.cells ∧ off + k ≤ (jo xs).length ∧ s.den.cells.length = k := by
  unfold znk at h
  split at h <;> try (cases h; done)
  rename_i q hq
  split at h <;> try (cases h; done)
  rename_i r hr
  split at h <;> cases h
  rename_i hk
  have hk : s.den.cells.length = k := by rw [zbu]; exact wb2 hk
  obtain ⟨a1, a2⟩ := zd _ _ _ _ hq
  obtain ⟨b1, b2⟩ := zd _ _ _ _ hr
  refine ⟨?_, ?_, hk⟩
  · unfold setMany
    rw [zik, ← a1, ← b1]
    simp only [jo]
    rw [wed a2, ← wcq, hk]
    congr 1
    rw [← wcq, wdp (by rw [wch, a2, b2])]
  · rw [← a1, ← b1]
    simp only [wch, a2, b2]; omega
def zsv (places : List (Nat × Nat)) : List TS → List (Nat × TS) → Option (List TS)
  | xs, [] => some xs
  | xs, (i, s) :: r => match places[i]? with
    | none => none
    | some pl => match znk pl.1 pl.2 s xs with
      | some ys => zsv places ys r
      | none => none
theorem RefL.setMany {cs ds : List PV} (h : RefL cs ds) (off : Nat) (ps : List PV) : RefL (setMany cs off ps) (setMany ds off ps) := RefL.append (RefL.append (h.take off) (RefL.refl ps)) (h.drop _)
theorem zsn {places : List (Nat × Nat)} : ∀ (parts : List (Nat × TS)) (xs ys : List TS) (cs : List PV), zsv places xs parts = some ys → RefL cs (jo xs) → (∀ p ∈ parts, okC H p.2.den = true) → ∃ r, zb4 H places cs (parts.map fun p => (p.1, p.2.den)) = some r ∧ RefL r (jo ys)
  | [], xs, ys, cs, h, hr, _ => by simp only [zsv] at h; cases h; exact ⟨cs, rfl, hr⟩
  | (i, s) :: parts, xs, ys, cs, h, hr, ho => by
    simp only [zsv] at h
    split at h <;> try (cases h; done)
    rename_i pl hpl
    split at h <;> try (cases h; done)
    rename_i zs hz
    obtain ⟨h1, h2, h3⟩ := Zw hz
    obtain ⟨r, hr1, hr2⟩ := zsn parts zs ys (setMany cs pl.1 s.den.cells) h (by rw [h1]; exact hr.setMany _ _) fun p hp => ho p (by simp [hp])
    refine ⟨r, ?_, hr2⟩
    obtain ⟨off, size⟩ := pl
    simp only [wcj, zb4, hpl]
    rw [if_pos ⟨h3, by rw [hr.1]; exact h2, ho (i, s) (by simp)⟩]
    exact hr1
def zf1 (P : Program) (t : TypeId) : Option (List (Nat × Nat)) := match P.underlying t with
  | some (.struct fs) => fs.toList.mapM fun f => (P.info? f.type).map fun i => (f.offset, i.size)
  | some (.array m e) => (P.info? e).map fun i => (range m).map fun j => (j * i.size, i.size)
  | _ => none
theorem z2e {t : TypeId} {us : List Value} {l : List (Nat × Nat)} (hz : zio P t = some us) (hp : zf1 P t = some l) : zz3 P t = some (us.map .u, l) := by
  obtain ⟨z, hz1, rfl⟩ := wca.1 hz
  unfold zz3
  rw [hz1]
  simp only
  unfold zf1 at hp
  split at hp
  · rename_i fs hu
    rw [hu]; simp only; rw [hp]; rfl
  · rename_i m e hu
    rw [hu]; simp only
    obtain ⟨i, hi, rfl⟩ := wca.1 hp
    rw [hi]; rfl
  · cases hp
def okPs (G : EG) (ps : List (Nat × TS)) : Bool := ps.all fun p => okT G p.2
def idsPs (ps : List (Nat × TS)) : List Nat := ps.flatMap fun p => zc9 p.2
theorem zz0 (xs : List TS) : (Yd true xs).den = .agg (jo xs) := by
  unfold Yd
  simp only
  split
  · rename_i x
    split
    · rename_i hx
      simp only [jo, wcl]; exact Zp hx
    · simp only [TS.den]
  · simp only [TS.den]
def aggA (a : Bool) (xs : List TS) : TS := match a with
  | true => Yd true xs
  | false => .agg xs
theorem zyz (a : Bool) (xs : List TS) : (aggA a xs).den = .agg (jo xs) := by
  cases a
  · simp only [aggA, TS.den]
  · exact zz0 xs
def sBld (zt : ZT) (isA : Bool) (places : Option (List (Nat × Nat))) (t : TypeId) (G : EG) (ps : List (Nat × TS)) : Option SR := match zt t with
  | none => none
  | some xs => match places with
    | none => none
    | some l => match okPs G ps with
      | true => match zsv l xs ps with
        | some ys => some (.now (aggA isA ys) (idsPs ps))
        | none => none
      | false => none
theorem z33 {zt : ZT} {isA : Bool} (hzt : zai P zt) {t : TypeId} {parts : Array (Nat × Operand)} {q : SR} (ho : o.op = .build t parts) (h : sBld zt isA (zf1 P t) t G (parts.toList.map fun x => (x.1, evE E x.2)) = some q) : SOk P o E G q := by
  have hx' : ∀ x ∈ parts.toList, x.2 ∈ o.op.operands := fun x hx => by
    rw [ho]
    simp only [Op.operands, List.mem_toArray, wcf]
    exact ⟨x, hx, rfl⟩
  unfold sBld at h
  split at h <;> try (cases h; done)
  rename_i xs hxs
  split at h <;> try (cases h; done)
  rename_i l hl
  split at h <;> try (cases h; done)
  rename_i hok
  split at h <;> cases h
  rename_i ys hys
  obtain ⟨us, hu1, hu2, hu3⟩ := hzt t xs hxs
  refine SOk.now fun W F H hag => ?_
  have hoks : ∀ p ∈ (parts.toList.map fun x => (x.1, evE E x.2)), okC H p.2.den = true := fun p hp => by
    refine Ys (wcz.1 hok p hp) fun id hid => hag.h id ?_
    exact wcu.2 ⟨p, hp, hid⟩
  obtain ⟨r, hr1, hr2⟩ := zsn (H := H) _ _ _ _ hys hu3 hoks
  refine PQ.ref (p := .agg r) (qe ?_) (by rw [zyz]; exact Ref.agg hr2)
  unfold zj; rw [ho]
  simp only
  have e : (parts.toList.map fun x => (x.1, evP F x.2)) = (parts.toList.map fun x => (x.1, evE E x.2)).map fun p => (p.1, p.2.den) := by
    rw [wc7]
    exact wde fun x hx => by simp only [Function.comp]; rw [hag.ev (hx' x hx)]
  rw [e]
  unfold zrf
  rw [z2e hu1 hl]
  simp only
  have hz : (us.map PV.u).all (yj H) = true := by
    rw [List.all_map]; exact hu2
  rw [if_pos hz, hr1]; rfl
theorem z3b {f : Fn} {a b : Array Operand} (ho : o.op = .makeFunc f a b) : SOk P o E G (.now (.fn f (a.toList.map (evE E)) (b.toList.map (evE E))) []) := SOk.now fun W F H hag => by
  refine qe ?_
  unfold zj; rw [ho]
  simp only [TS.den]
  have ea : a.toList.map (evP F) = q8 (a.toList.map (evE E)) := by
    rw [Zf, wc7]
    exact wde fun x hx => hag.ev (by rw [ho]; simp only [Op.operands, Array.mem_append]; exact .inl (by simpa using hx))
  have eb : b.toList.map (evP F) = q8 (b.toList.map (evE E)) := by
    rw [Zf, wc7]
    exact wde fun x hx => hag.ev (by rw [ho]; simp only [Op.operands, Array.mem_append]; exact .inr (by simpa using hx))
  rw [ea, eb]
def zzs (G : EG) (x : TS) : Option SR := match x with
  | .rd d => some (.now (.rd d) [])
  | .fn (.func g) a b => some (.now (.fn (.func g) a b) [])
  | .pt id off ver => match zo6 G id ver with
    | true => some (.now (.pt id off ver) [id])
    | false => none
  | .v ⟨.ref t, op⟩ => some (.dat t.D op (fun y => .rd ⟨t, y⟩) [])
  | _ => none
theorem zzo {x : Operand} {q : SR} (ho : o.op = .nilCheck x) (h : zzs G (evE E x) = some q) : SOk P o E G q := by
  have hx' : x ∈ o.op.operands := by rw [ho]; simp [Op.operands]
  have step : ∀ {rd W F H} {p r : PV}, (evE E x).den = p → z3f H p = some r → Agr o E G rd F H → PQ P W o F H r := fun {rd W F H p r} h1 h2 hag => by
    refine qe ?_
    unfold zj; rw [ho]
    simp only
    rw [hag.ev hx', h1]; exact h2
  unfold zzs at h
  split at h
  · rename_i d hx
    cases h
    exact SOk.now fun W F H hag => step (by rw [hx]) (by simp only [TS.den]; rfl) hag
  · rename_i g a b hx
    cases h
    exact SOk.now fun W F H hag => step (by rw [hx]) (by simp only [TS.den]; rfl) hag
  · rename_i id off ver hx
    split at h <;> cases h
    rename_i hl
    refine SOk.now fun W F H hag => step (by rw [hx]) ?_ hag
    simp only [TS.den, z3f]
    cases hc : jx H (.o id) ver with
    | none => have := zbe hl (hag.h id (by simp)); rw [hc] at this; cases this
    | some cs => rfl
  · rename_i t op hx
    cases h
    refine SOk.dat fun y hy W F H hag => ?_
    subst hy
    refine step (by rw [hx]) ?_ hag
    simp only [TS.den]
    rfl
  · cases h
def zqu {α : Type} (l : List α) : Option Bool := match l with
  | [] => none
  | _ => some false
def zgi (op : BinOp) (b : Bool) : Option Bool := match op with
  | .eql => some b
  | .neq => some (!b)
  | _ => none
def z0l (bd : Bool) (op : BinOp) (G : EG) (x : TS) : Option SR := match x with
  | .rd _ => match zgi op false with
    | some b => some (.now (.c (.bool b)) [])
    | none => none
  | .c (.pointer none) => match zgi op true with
    | some b => some (.now (.c (.bool b)) [])
    | none => none
  | .pt id _ ver => match zo6 G id ver with
    | true => match zgi op false with
      | some b => some (.now (.c (.bool b)) [id])
      | none => none
    | false => none
  | .v ⟨.ref _, p⟩ => match zgi op p.isNone with
    | some b => some (.vx bd .bool b)
    | none => none
  | _ => none
def zzn (op : BinOp) (x : TS) : Option SR := match x with
  | .c (.slice none _ _) => match zgi op true with
    | some b => some (.now (.c (.bool b)) [])
    | none => none
  | .v ⟨.sl _, l⟩ => match op with
    | .eql => some (.vo .bool (zqu l))
    | .neq => some (.vo .bool ((zqu l).map fun b => !b))
    | _ => none
  | _ => none
theorem zwc {op : BinOp} {b c : Bool} (h : zgi op b = some c) : zl2 op (some b) = some (.u (.bool c)) := by
  unfold zgi at h
  split at h <;> cases h <;> rfl
theorem z1k {bd : Bool} {op : BinOp} {t t' : Nat} {x : Operand} {q : SR} (ho : o.op = .binOp op t x (.const (.pointer none)) t') (ht : zwa P t = true) (h : z0l bd op G (evE E x) = some q) : SOk P o E G q := by
  have hx' : x ∈ o.op.operands := by rw [ho]; simp [Op.operands]
  have step : ∀ {rd W F H} {p : PV} {b c : Bool}, (evE E x).den = p → zgy H p = some b → zgi op b = some c → Agr o E G rd F H → PQ P W o F H (.u (.bool c)) := fun {rd W F H p b c} h1 h2 h3 hag => by
    refine qe ?_
    unfold zj; rw [ho]
    simp only
    unfold zxa
    simp only
    rw [if_pos ht, hag.ev hx', h1, h2]
    exact zwc h3
  unfold z0l at h
  split at h
  · rename_i d hx
    split at h <;> cases h
    rename_i b hb
    exact SOk.now fun W F H hag => (step (p := .rp (je d.t d.x)) (by rw [hx]; simp only [TS.den]) rfl hb hag : PQ P W o F H (.u (.bool b)))
  · rename_i hx
    split at h <;> cases h
    rename_i b hb
    exact SOk.now fun W F H hag => (step (p := .u (.pointer none)) (by rw [hx]; simp only [TS.den]; rfl) rfl hb hag : PQ P W o F H (.u (.bool b)))
  · rename_i id off ver hx
    split at h <;> try (cases h; done)
    rename_i hl
    split at h <;> cases h
    rename_i b hb
    refine SOk.now fun W F H hag => (step (p := .pp (.o id) off ver) (by rw [hx]; simp only [TS.den]) ?_ hb hag : PQ P W o F H (.u (.bool b)))
    simp only [zgy]
    cases hc : jx H (.o id) ver with
    | none => have := zbe hl (hag.h id (by simp)); rw [hc] at this; cases this
    | some cs => rfl
  · rename_i t1 p hx
    split at h <;> cases h
    rename_i b hb
    refine SOk.vx fun W F H hag => ?_
    cases p with
    | none => exact step (p := .u (.pointer none)) (by rw [hx]; simp only [TS.den]; rfl) rfl hb hag
    | some y => exact step (p := .rp (je t1 y)) (by rw [hx]; simp only [TS.den]; rfl) rfl hb hag
  · cases h
theorem z0w {op : BinOp} {t t' : Nat} {x : Operand} {q : SR} (ho : o.op = .binOp op t x (.const (.slice none 0 0)) t') (ht : Qx P t = true) (h : zzn op (evE E x) = some q) : SOk P o E G q := by
  have hx' : x ∈ o.op.operands := by rw [ho]; simp [Op.operands]
  have step : ∀ {rd W F H} {p : PV} {b c : Bool}, (evE E x).den = p → zl7 H p = some b → zgi op b = some c → Agr o E G rd F H → PQ P W o F H (.u (.bool c)) := fun {rd W F H p b c} h1 h2 h3 hag => by
    refine qe ?_
    unfold zj; rw [ho]
    simp only
    unfold zxa
    simp only
    rw [if_pos ht, hag.ev hx', h1, h2]
    exact zwc h3
  unfold zzn at h
  split at h
  · rename_i n c hx
    split at h <;> cases h
    rename_i b hb
    exact SOk.now fun W F H hag => (step (p := .u (.slice none n c)) (by rw [hx]; simp only [TS.den]; rfl) rfl hb hag : PQ P W o F H (.u (.bool b)))
  · rename_i t1 l hx
    split at h <;> cases h
    · refine SOk.vo fun r hr W F H hag => ?_
      cases l with
      | nil => cases hr
      | cons y l => cases hr; exact step (p := .sl (wid t1) ((y :: l).map (enc t1))) (by rw [hx]; simp only [TS.den]; rfl) rfl rfl hag
    · refine SOk.vo fun r hr W F H hag => ?_
      cases l with
      | nil => cases hr
      | cons y l => cases hr; exact step (p := .sl (wid t1) ((y :: l).map (enc t1))) (by rw [hx]; simp only [TS.den]; rfl) rfl rfl hag
  · cases h
theorem z4p {d : Nat} {t : TypeId} {A B : Array TypeId} {C : Bool} (hu : P.underlying t = some (.func A B C)) (f : Fn) (va vb : Array Value) (w : World) : (Op.equalIn (d + 1) t (.func f va vb) .nilFunc).run P w = .ok false w := by
  simp [Op.equalIn, run_underlying hu]
theorem z2v {d : Nat} {t : TypeId} {A B : Array TypeId} {C : Bool} (hu : P.underlying t = some (.func A B C)) (w : World) : (Op.equalIn (d + 1) t .nilFunc .nilFunc).run P w = .ok true w := by
  simp [Op.equalIn, run_underlying hu]
theorem zrl {op : BinOp} {t : TypeId} {u v : Value} {b c : Bool} {w : World} (hg : ∀ x y, (eqGuard op t x y u v).run P w = .ok () w) (he : (Op.equal t u v).run P w = .ok b w) (hb : zgi op b = some c) (h1 : binOp .eql t u v = (do pure (.bool (← Op.equal t u v)))) (h2 : binOp .neq t u v = (do pure (.bool !(← Op.equal t u v)))) (x y : Operand) :
    (do eqGuard op t x y u v; binOp op t u v : Sem Value).run P w = .ok (.bool c) w := by
  unfold zgi at hb
  split at hb <;> cases hb
  · simp [Sem.run_bind, hg, h1, he]
  · simp [Sem.run_bind, hg, h2, he]
theorem wbm {op : BinOp} {t t' : TypeId} {x : Operand} {b c : Bool} (ho : o.op = .binOp op t x (.const .nilFunc) t') {A B : Array TypeId} {C : Bool} (hu : P.underlying t = some (.func A B C)) (hp : (∃ f a d, evP F x = .fn f a d ∧ b = false) ∨ (evP F x = .u .nilFunc ∧ b = true)) (hb : zgi op b = some c) : PQ P W o F H (.u (.bool c)) := wab fun V ac w hw hh => by
  have h1 := hh x (by rw [ho]; simp [Op.operands])
  have hv : (b = false ∧ ∃ f va vb, ac.eval x = .func f va vb) ∨ (b = true ∧ ac.eval x = .nilFunc) := by
    rcases hp with ⟨f, a, d, e, rfl⟩ | ⟨e, rfl⟩
    · rw [e] at h1
      generalize ac.eval x = v at h1
      cases h1 with
      | fn _ _ _ va vb => exact .inl ⟨rfl, f, va, vb, rfl⟩
    · rw [e] at h1
      generalize ac.eval x = v at h1
      cases h1; exact .inr ⟨rfl, rfl⟩
  refine ⟨.bool c, ?_, .u _⟩
  have hy : ac.eval (.const .nilFunc) = .nilFunc := rfl
  have hex : execOp ac.eval o = Next.value <$> (do eqGuard op t x (.const .nilFunc) (ac.eval x) .nilFunc; binOp op t (ac.eval x) .nilFunc : Sem Value) := by
    unfold execOp; rw [ho]; simp [hy]
  rw [hex]
  have key : (do eqGuard op t x (.const .nilFunc) (ac.eval x) .nilFunc; binOp op t (ac.eval x) .nilFunc : Sem Value).run P w = .ok (.bool c) w := by
    rcases hv with ⟨rfl, f, va, vb, e⟩ | ⟨rfl, e⟩
    · rw [e]
      exact zrl (fun x y => by cases op <;> rfl) (z4p (d := 9999) hu f va vb w) hb rfl rfl x _
    · rw [e]
      exact zrl (fun x y => by cases op <;> rfl) (z2v (d := 9999) hu w) hb rfl rfl x _
  rw [Sem.run_map, key]; rfl
end
structure BRef (bd bd' : PBody) : Prop where
  is : ∀ w m v vs, bd.Is w m v vs → bd'.Is w m v vs
  cs : RefL bd.cs bd'.cs
theorem BRef.row {t : TypeId} {k n : Nat} {cs ds : List PV} (h : RefL cs ds) : BRef (.row t k n cs) (.row t k n ds) := ⟨fun _ _ _ _ h => h, h⟩
theorem BRef.box {t : TypeId} {cs ds : List PV} (h : RefL cs ds) : BRef (.box t cs) (.box t ds) := ⟨fun _ _ _ _ h => h, h⟩
section
variable {P : Program} {o : Oper} {E : EF} {G : EG} {rd : List Nat} {F : PFrame} {H : PHeap} {W : Env} {n : Nat}
theorem wbl {V : Nm → Value} {a : Act} {w : World} {id : Nm} {ver : Nat} {bd bd' : PBody} (hb : BRef bd bd') (hr : Rel P W n F (H.set id ⟨ver, some bd⟩) V a w) : Rel P W n F (H.set id ⟨ver, some bd'⟩) V a w := by
  have hh := hr.heap
  have hs : ∀ i, ((H.set id ⟨ver, some bd⟩) i).ver = ((H.set id ⟨ver, some bd'⟩) i).ver ∧ ((H.set id ⟨ver, some bd⟩) i).body.isSome = ((H.set id ⟨ver, some bd'⟩) i).body.isSome := fun i => by
    unfold PHeap.set
    by_cases e : i = id <;> simp [e]
  have tr : ∀ {p v}, Rp W.Z (H.set id ⟨ver, some bd⟩) V w p v → Rp W.Z (H.set id ⟨ver, some bd'⟩) V w p v := fun h =>
    h.mono (fun b hb hlt => ⟨fun hz => by
      rcases hz with hz | ⟨i, h1, h2⟩
      · exact hb (.inl hz)
      · exact hb (.inr ⟨i, by rw [(hs i).2]; exact h1, h2⟩), hlt, rfl⟩) (wb7 _) (fun i => by rw [(hs i).1]; exact wb7 _) (fun i ver _ h1 h2 => ⟨by rw [(hs i).2]; exact h1, by rw [(hs i).1]; exact h2, rfl⟩)
  refine ⟨⟨hh.below, fun i b0 hbd => ?_, fun i => tr (hh.ghost i), fun i j g h1 h2 => hh.apart i j g (by rw [(hs i).2]; exact h1) (by rw [(hs j).2]; exact h2), hh.zlt, fun i b h1 => hh.nz i b (by rw [(hs i).2]; exact h1)⟩, hr.size, hr.defers, fun t => tr (hr.slot t)⟩
  by_cases e : i = id
  · subst e
    simp only [PHeap.set, if_true, wco] at hbd
    subst hbd
    obtain ⟨vs, h1, h2⟩ := hh.body i bd (by simp [PHeap.set])
    exact ⟨vs, hb.is _ _ _ _ h1, hb.cs.rpL (h2.mono fun p v => tr)⟩
  · obtain ⟨vs, h1, h2⟩ := hh.body i b0 (by simpa [PHeap.set, e] using hbd)
    exact ⟨vs, h1, h2.mono fun p v => tr⟩
theorem wah {p0 q0 : PV} {id : Nm} {ver : Nat} {bd bd' : PBody} (hb : BRef bd bd') (hp : Ref p0 q0) (hd : Jc n o) (h : PE P W n o F H (fun p H' => p = p0 ∧ H' = H.set id ⟨ver, some bd⟩)) : PE P W n o F H (fun p H' => p = q0 ∧ H' = H.set id ⟨ver, some bd'⟩) := fun V a w hr =>
  Oper.wp_mono (fun a' w' ⟨p, H', V', ⟨e1, e2⟩, hr'⟩ => by
    subst e1; subst e2
    have := wbl hb hr'
    refine ⟨q0, _, V', ⟨rfl, rfl⟩, this.heap, this.size, this.defers, fun t => ?_⟩
    have hs := this.slot t
    unfold PFrame.put at hs ⊢
    split
    · rename_i e; rw [if_pos e] at hs; exact hp _ _ _ _ _ hs
    · rename_i e; rw [if_neg e] at hs; exact hs) (h V a w hr)
theorem wbd {F' : PFrame} {p : PV} (h : PQ P W o F' H p) (hr : ∀ t, Operand.tmp t ∈ o.op.operands → Ref (F t) (F' t)) : PQ P W o F H p := fun V a w hh hs =>
  h V a w hh fun t ht => hr t ht _ _ _ _ _ (hs t ht)
def zns (ty : Ty) (E : EF) (F : PFrame) : PFrame := fun t => match toT ty (E t) with
  | some v => enc ty v
  | none => F t
theorem ztb {ty : Ty} (hag : Agr o E G rd F H) : ∀ t, Operand.tmp t ∈ o.op.operands → Ref (F t) (zns ty E F t) := fun t ht => by
  unfold zns
  split
  · rename_i v hv
    rw [hag.f t ht]
    exact (Qr _ _ _ hv).2
  · exact Ref.refl _
def zo7 (ty : Ty) (E : EF) : Operand → Option ty.D
  | .tmp t => toT ty (E t)
  | _ => none
theorem zf4 {ty : Ty} {x : Operand} {v : ty.D} (h : zo7 ty E x = some v) : evP (zns ty E F) x = enc ty v := by
  unfold zo7 at h
  split at h
  · simp only [evP, zns, h]
  · cases h
def zeb : (t : Ty) → t.D → Option (List Value)
  | .int k, z => some [.int k z]
  | .bool, b => some [.bool b]
  | .str, s => some [.string ⟨⟨s⟩⟩]
  | .nil, _ => some []
  | .cons a r, x => match zeb a x.1 with
    | none => none
    | some l => match zeb r x.2 with
      | none => none
      | some m => some (l ++ m)
  | .st r, x => zeb r x
  | _, _ => none
theorem ze7 : ∀ (t : Ty) (x : t.D) (l : List Value), zeb t x = some l → je t x = l.map .u
  | .int _, _, l, h => by simp only [zeb] at h; cases h; rfl
  | .bool, _, l, h => by simp only [zeb] at h; cases h; rfl
  | .str, _, l, h => by simp only [zeb] at h; cases h; rfl
  | .nil, _, l, h => by simp only [zeb] at h; cases h; rfl
  | .cons a r, x, l, h => by
    simp only [zeb] at h
    split at h <;> try (cases h; done)
    rename_i l1 h1
    split at h <;> cases h
    rename_i l2 h2
    simp only [je, ze7 a _ _ h1, ze7 r _ _ h2, wdu]
  | .st r, x, l, h => by simp only [zeb] at h; simp only [je]; exact ze7 r x l h
  | .sl _, _, l, h => by simp [zeb] at h
  | .ref _, _, l, h => by simp [zeb] at h
  | .arr _ _, _, l, h => by simp [zeb] at h
  | .tup _, _, l, h => by simp [zeb] at h
def z4h (l : List Bool) : Bool := l.all fun b => b
def z2q (op : BinOp) (b : Bool) : Option Bool := match op with
  | .eql => some b
  | .neq => some (!b)
  | _ => none
mutual
def ctT : TS → Bool
  | .c _ => true
  | .agg xs => ctTs xs
  | _ => false
def ctTs : List TS → Bool
  | [] => true
  | x :: r => ctT x && ctTs r
end
def sEqS (bd : Bool) (es : Array Value → Array Value → Option (List Bool)) (gt : Bool) (op : BinOp) (r : Ty) (E : EF) (x y : Operand) : Option SR := match gt with
  | true => none
  | false => q3 (zo7 (.st r) E x) fun a => q3 (zo7 (.st r) E y) fun b => q3 (zeb (.st r) a) fun xs => q3 (zeb (.st r) b) fun ys => q3 (es xs.toArray ys.toArray) fun l => q3 (z2q op (z4h l)) fun c => match ctT (evE E x) && ctT (evE E y) with
    | true => some (.now (.c (.bool c)) [])
    | false => some (.vx bd .bool c)
theorem Z3 (l : List Value) : (l.map PV.u).mapM zog = some l := by
  induction l with
  | nil => rfl
  | cons v l ih => rw [wcj, wds, ih]; rfl
theorem z3c {bd : Bool} {op : BinOp} {r : Ty} {t t' : Nat} {x y : Operand} {q : SR} {d : Tmp} (ho : o.op = .binOp op t x y t') (h : sEqS bd (eqS P t) (P.eqGuardType P.depth t) op r E x y = some q) : SOk P o E G q := by
  unfold sEqS at h
  split at h
  · cases h
  rename_i hg
  obtain ⟨a, ha, h⟩ := jt h
  obtain ⟨b, hb, h⟩ := jt h
  obtain ⟨xs, hxs, h⟩ := jt h
  obtain ⟨ys, hys, h⟩ := jt h
  obtain ⟨l, hl, h⟩ := jt h
  obtain ⟨c, hc, h⟩ := jt h
  suffices key : ∀ W F H, Agr o E G [] F H → PQ P W o F H (enc .bool c) by
    split at h <;> cases h
    · exact SOk.now fun W F H hag => by simp only [TS.den]; exact key W F H hag
    · exact SOk.vx key
  intro W F H hag
  refine wbd (F' := zns (.st r) E F) (wab fun V ac w hw hh => ?_) (ztb hag)
  have e1 : evP (zns (.st r) E F) x = .agg (xs.map .u) := by rw [zf4 ha]; unfold enc mkV; simp only [zq]; rw [ze7 _ _ _ hxs]
  have e2 : evP (zns (.st r) E F) y = .agg (ys.map .u) := by rw [zf4 hb]; unfold enc mkV; simp only [zq]; rw [ze7 _ _ _ hys]
  have h1 := (hh x (by rw [ho]; simp [Op.operands])).val2 (u := .agg xs.toArray) (by rw [e1]; simp only [PV.val2, Z3]; rfl)
  have h2 := (hh y (by rw [ho]; simp [Op.operands])).val2 (u := .agg ys.toArray) (by rw [e2]; simp only [PV.val2, Z3]; rfl)
  have h4 : (Op.equal t (.agg xs.toArray) (.agg ys.toArray)).run P w = .ok (l.all id) w := zvo hl w 9998
  have e3 : z4h l = l.all id := rfl
  unfold z2q at hc
  split at hc <;> cases hc
  · have h3 := run_eqGuard_agg (P := P) (w := w) .eql t x y xs.toArray ys.toArray hg
    exact ⟨_, by simp only [execOp, ho, h1, h2]; simp [Sem.run_bind, h3, binOp, h4]; rfl, .u _⟩
  · have h3 := run_eqGuard_agg (P := P) (w := w) .neq t x y xs.toArray ys.toArray hg
    exact ⟨_, by simp only [execOp, ho, h1, h2]; simp [Sem.run_bind, h3, binOp, h4]; rfl, .u _⟩
def sEqA (bd : Bool) (gt : Bool) (op : BinOp) (n : Nat) (k : IntKind) (E : EF) (x y : Operand) : Option SR := match gt with
  | true => none
  | false => q3 (zo7 (.arr n (.int k)) E x) fun a => q3 (zo7 (.arr n (.int k)) E y) fun b => q3 (z2q op (a.l == b.l)) fun c => some (.vx bd .bool c)
theorem zl9 (k : IntKind) : ∀ l : List Int, l.flatMap (je (.int k)) = (l.map (Value.int k)).map .u
  | [] => rfl
  | a :: l => by rw [wci, zl9 k l]; rfl
theorem z24 {bd : Bool} {op : BinOp} {e n : Nat} {k : IntKind} {t t' : Nat} {x y : Operand} {q : SR} (ho : o.op = .binOp op t x y t') (hu : P.underlying t = some (.array n e)) (hD : P.underlying e = some (.int k)) (hs : asz P e = some (false, 1)) (h : sEqA bd (P.eqGuardType P.depth t) op n k E x y = some q) : SOk P o E G q := by
  unfold sEqA at h
  split at h
  · cases h
  rename_i hg
  obtain ⟨a, ha, h⟩ := jt h
  obtain ⟨b, hb, h⟩ := jt h
  obtain ⟨c, hc, h⟩ := jt h
  cases h
  refine SOk.vx fun W F H hag => ?_
  refine wbd (F' := zns (.arr n (.int k)) E F) (wab fun V ac w hw hh => ?_) (ztb hag)
  have e1 : evP (zns (.arr n (.int k)) E F) x = .agg ((a.l.map (Value.int k)).map .u) := by rw [zf4 ha]; unfold enc mkV; simp only [zq]; show PV.agg (List.flatMap (je (.int k)) _) = _; rw [zl9]
  have e2 : evP (zns (.arr n (.int k)) E F) y = .agg ((b.l.map (Value.int k)).map .u) := by rw [zf4 hb]; unfold enc mkV; simp only [zq]; show PV.agg (List.flatMap (je (.int k)) _) = _; rw [zl9]
  have h1 := (hh x (by rw [ho]; simp [Op.operands])).val2 (u := .agg (a.l.map (Value.int k)).toArray) (by rw [e1]; simp only [PV.val2, Z3]; rfl)
  have h2 := (hh y (by rw [ho]; simp [Op.operands])).val2 (u := .agg (b.l.map (Value.int k)).toArray) (by rw [e2]; simp only [PV.val2, Z3]; rfl)
  have h4 := z06 hu hD (fun w => (zc4 hs w).2) ⟨a.l, a.h⟩ ⟨b.l, b.h⟩ w
  simp only at h4
  unfold z2q at hc
  split at hc <;> cases hc
  · have h3 := run_eqGuard_agg (P := P) (w := w) .eql t x y (a.l.map (Value.int k)).toArray (b.l.map (Value.int k)).toArray hg
    exact ⟨_, by simp only [execOp, ho, h1, h2]; simp [Sem.run_bind, h3, binOp, h4], .u _⟩
  · have h3 := run_eqGuard_agg (P := P) (w := w) .neq t x y (a.l.map (Value.int k)).toArray (b.l.map (Value.int k)).toArray hg
    exact ⟨_, by simp only [execOp, ho, h1, h2]; simp [Sem.run_bind, h3, binOp, h4], .u _⟩
theorem zyu {t : Array TypeId} {ty : TypeId} {k : IntKind} {a b : Int} : zqe P .min t ty [.u (.int k a), .u (.int k b)] = some (.u (.int k (min a b))) := by
  simp [zqe, PV.val2, Builtin.min_, Builtin.min2, qj, ofV]
  split <;> omega
theorem zz1 {t : Array TypeId} {ty : TypeId} {k : IntKind} {a b : Int} : zqe P .max t ty [.u (.int k a), .u (.int k b)] = some (.u (.int k (max a b))) := by
  simp [zqe, PV.val2, Builtin.max_, Builtin.max2, qj, ofV]
  split <;> omega
def z38 (bd : Bool) (mx : Bool) (x y : TS) : Option SR := match x with
  | .v ⟨.int k, a⟩ => q3 (zk (.int k) y) fun b => some (.vx bd (.int k) (cond mx (max a b) (min a b)))
  | .c (.int k a) => q3 (zk (.int k) y) fun b => some (.vx bd (.int k) (cond mx (max a b) (min a b)))
  | _ => none
theorem zwl {bd mx : Bool} {x y : Operand} {ts : Array TypeId} {q : SR} (ho : o.op = .call { callee := .builtin (cond mx .max .min), args := #[x, y], argTypes := ts }) (h : z38 bd mx (evE E x) (evE E y) = some q) : SOk P o E G q := by
  have hx' : x ∈ o.op.operands := by rw [ho]; simp [Op.operands, Call.operands]
  have hy' : y ∈ o.op.operands := by rw [ho]; simp [Op.operands, Call.operands]
  have key : ∀ {k : IntKind} {a b : Int}, (evE E x).den = .u (.int k a) → zk (.int k) (evE E y) = some b → SOk P o E G (.vx bd (.int k) (cond mx (max a b) (min a b))) := fun {k a b} h1 h2 => by
    refine SOk.vx fun W F H hag => qe ?_
    unfold zj; rw [ho]
    have e1 := hag.ev hx'
    have e2 := hag.ev hy'
    rw [h1] at e1
    rw [vj h2] at e2
    cases mx with
    | true =>
      show zqe P .max ts o.type [evP F x, evP F y] = _
      rw [e1, e2]
      exact zz1
    | false =>
      show zqe P .min ts o.type [evP F x, evP F y] = _
      rw [e1, e2]
      exact zyu
  unfold z38 at h
  split at h
  · rename_i k a hx
    obtain ⟨b, hb, h⟩ := jt h
    cases h
    exact key (by rw [hx]; simp only [TS.den]; rfl) hb
  · rename_i k a hx
    obtain ⟨b, hb, h⟩ := jt h
    cases h
    exact key (by rw [hx]; simp only [TS.den]; rfl) hb
  · cases h
end
end
end Go.Proofs.YtiafpechgjopfaaGreatDoor.T
