/-
  The run of pure values itself, and its proof.
-/
import Derived.Test.YtficeeaaaijgcaaLn
namespace Go.Proofs.Ytficeeaaaijgcaa.L
open Go Go.RowKit
set_option linter.unusedVariables false
set_option linter.unusedSimpArgs false

/-! evaluated at once, not later -/
def natK {β : Type} (m : Nat) (f : Nat → β) : β := match m with | 0 => f 0 | m + 1 => f (m + 1)
theorem natK_eq {β : Type} (m : Nat) (f : Nat → β) : natK m f = f m := by cases m <;> rfl
def setK {α β : Type} : List α → Nat → α → (List α → β) → β
  | [], _, _, k => k []
  | _ :: xs, 0, p, k => k (p :: xs)
  | x :: xs, d + 1, p, k => setK xs d p fun ys => k (x :: ys)
theorem setK_eq {α β : Type} : ∀ (l : List α) (d : Nat) (p : α) (k : List α → β), setK l d p k = k (l.set d p)
  | [], _, _, k => rfl
  | _ :: xs, 0, p, k => rfl
  | x :: xs, d + 1, p, k => by rw [setK, setK_eq xs d p, List.set_cons_succ]
def listK {α β : Type} : List α → (List α → β) → β
  | [], k => k []
  | x :: xs, k => listK xs fun ys => k (x :: ys)
theorem listK_eq {α β : Type} : ∀ (l : List α) (k : List α → β), listK l k = k l
  | [], k => rfl
  | x :: xs, k => by rw [listK, listK_eq xs]
def normK {β : Type} (p : PV) (f : PV → β) : β :=
  match p with
  | .u (.int k (.ofNat m)) => natK m fun m => f (.u (.int k (.ofNat m)))
  | .u (.int k (.negSucc m)) => natK m fun m => f (.u (.int k (.negSucc m)))
  | .u (.bool true) => f (.u (.bool true))
  | .u (.bool false) => f (.u (.bool false))
  | .agg cs => listK cs fun cs => f (.agg cs)
  | .tup cs => listK cs fun cs => f (.tup cs)
  | .sl k cs => listK cs fun cs => f (.sl k cs)
  | .rp cs => listK cs fun cs => f (.rp cs)
  | p => f p
theorem normK_eq {β : Type} (p : PV) (f : PV → β) : normK p f = f p := by
  unfold normK
  split <;> first | rfl | simp only [natK_eq, listK_eq]

def gH (h : List PBlk) : PHeap := fun i => (h[i]?).getD ⟨0, none⟩
theorem gF_set (l : List PV) (d : Nat) (p : PV) (hd : d < l.length) : frame0 (l.set d p) = (frame0 l).put (some d) p := by
  funext t
  simp only [frame0, PFrame.put, List.getElem?_set, Option.some.injEq]
  by_cases e : d = t <;> simp [e]
  subst e
  simp [hd]
theorem gH_set (h : List PBlk) (d : Nat) (b : PBlk) (hd : d < h.length) : gH (h.set d b) = (gH h).set d b := by
  funext t
  simp only [gH, PHeap.set, List.getElem?_set]
  by_cases e : d = t
  · subst e; simp [hd]
  · have e' : ¬ t = d := fun h => e h.symm
    simp [e, e']
theorem gH_empty (n : Nat) : gH (List.replicate n ⟨0, none⟩) = PHeap.empty := by
  funext t
  simp only [gH, PHeap.empty, List.getElem?_replicate]
  split <;> rfl

inductive Res where
  | ro (p : PV)
  | own (t : TypeId) (k m : Nat) (us : List Value)
  deriving Inhabited
def CRes (P : Program) (f : FuncId) (as : List PV) : Res → Prop
  | .ro p => PCall P f as (· = p)
  | .own t k m us => PCallOwn P f as t k (fun a b => a = m ∧ b = us)

def putO (l : List PV) (d : Option Nat) (p : PV) : Option (List PV) :=
  match d with
  | none => some l
  | some d => if d < l.length then normK p fun p => setK l d p some else none
theorem putO_spec {l l' : List PV} {d : Option Nat} {p : PV} (h : putO l d p = some l') : frame0 l' = (frame0 l).put d p ∧ l'.length = l.length ∧ ∀ t, d = some t → t < l.length := by
  cases d with
  | none => cases h; exact ⟨by funext t; simp [PFrame.put], rfl, fun t h => by cases h⟩
  | some d =>
    simp only [putO] at h
    split at h
    · rename_i hd
      rw [normK_eq, setK_eq] at h
      cases h
      exact ⟨gF_set l d p hd, by simp, fun t e => by cases e; exact hd⟩
    · cases h

def snocK {α β : Type} : List α → α → (List α → β) → β
  | [], p, k => k [p]
  | x :: xs, p, k => snocK xs p fun ys => k (x :: ys)
theorem snocK_eq {α β : Type} : ∀ (l : List α) (p : α) (k : List α → β), snocK l p k = k (l ++ [p])
  | [], p, k => rfl
  | x :: xs, p, k => by rw [snocK, snocK_eq xs p]; rfl
/-- a new block, numbered behind all -/
def newK (h : List PBlk) (b : PBody) : List PBlk :=
  match b with
  | .row t k m cs => listK cs fun cs => natK m fun m => snocK h ⟨1, some (.row t k m cs)⟩ fun h => h
  | .box t cs => listK cs fun cs => snocK h ⟨1, some (.box t cs)⟩ fun h => h
theorem newK_spec (h : List PBlk) (b : PBody) : gH (newK h b) = (gH h).set h.length ⟨(gH h h.length).ver + 1, some b⟩ := by
  have e : newK h b = h ++ [⟨1, some b⟩] := by cases b <;> simp only [newK, listK_eq, natK_eq, snocK_eq]
  rw [e]
  funext t
  simp only [gH, PHeap.set, List.getElem?_append]
  by_cases h1 : t < h.length
  · have : ¬ t = h.length := by omega
    simp [h1, this]
  · by_cases h2 : t = h.length
    · subst h2; simp
    · have : ¬ t < h.length := h1
      simp [h1, h2]
      rw [List.getElem?_eq_none (by simp; omega)]
      simp
theorem gH_new (h : List PBlk) : (gH h h.length).ver = 0 := by simp [gH]

/-- a row is told anew -/
def rowK (h : List PBlk) (d : Nat) (v : Nat) (b : PBody) : Option (List PBlk) :=
  if d < h.length then
    match b with
    | .row t k m cs => listK cs fun cs => natK m fun m => natK v fun v => setK h d ⟨v, some (.row t k m cs)⟩ some
    | .box t cs => listK cs fun cs => natK v fun v => setK h d ⟨v, some (.box t cs)⟩ some
  else none
theorem rowK_spec {h h' : List PBlk} {d v : Nat} {b : PBody} (e : rowK h d v b = some h') : gH h' = (gH h).set d ⟨v, some b⟩ ∧ h'.length = h.length := by
  unfold rowK at e
  split at e
  · rename_i hd
    cases b <;> simp only [listK_eq, natK_eq, setK_eq] at e <;> cases e <;> exact ⟨gH_set h d _ hd, by simp⟩
  · cases e

def vdep : Nat := 8

/-- one operation in the text's order -/
def stepE (P : Program) (call : FuncId → List PV → Option Res) (sub : FuncId → List PV → List PBlk → Option (PV × List PBlk)) (o : Oper) (l : List PV) (h : List PBlk) : Option (List PV × List PBlk) :=
  let F := frame0 l
  let H := gH h
  let id0 := h.length
  let quiet : Option (List PV × List PBlk) := (pstep P H F o).bind fun p => (putO l o.dst p).map fun l => (l, h)
  match o.op with
  | .store t x y =>
    match evP F x, asz P t with
    | .pp id off ver, some (ag, k) =>
      match liveCells H id ver, (H id).body with
      | some cs, some bd =>
        if okC H (evP F y) = true ∧ (evP F y).cells.length = k ∧ off + k ≤ cs.length then
          (putO l o.dst (.u undef)).bind fun l => (rowK h id ver (storeB off (evP F y).cells bd)).map fun h => (l, h)
        else none
      | _, _ => none
    | _, _ => none
  | .alloc t =>
    match o.dst, zeroC P t with
    | some d, some us => if us.all Value.oneCell' = true then (natK id0 fun id0 => putO l (some d) (.pp id0 0 1)).map fun l => (l, newK h (.box t (us.map .u))) else none
    | _, _ => none
  | .box t x =>
    match o.dst with
    | some d => if okC H (evP F x) = true then (natK id0 fun id0 => putO l (some d) (.pp id0 0 1)).map fun l => (l, newK h (.box t (evP F x).cells)) else none
    | none => none
  | .buildSlice t len parts =>
    match o.dst, selem P t with
    | some d, some (e, k, b, z) =>
      if z.cells.toList.all Value.oneCell' = true ∧ len * k ≤ 16777216 ∧ len ≤ 16777216 ∧ litOk H k len (parts.toList.map fun x => (x.1, evP F x.2)) = true then
        (natK id0 fun id0 => putO l (some d) (.ps id0 1)).map fun l => (l, newK h (.row e k len ((parts.toList.map fun x => evP F x.2).flatMap PV.cells)))
      else none
    | _, _ => none
  | .makeSlice t x y =>
    match o.dst, selem P t, evP F x, evP F y with
    | some d, some (e, 1, b, z), .u (.int _ (.ofNat m)), .u (.int _ (.ofNat m')) =>
      if m = m' ∧ z.oneCell' = true ∧ m ≤ 16777216 ∧ b * m ≤ 16777216 then
        (natK id0 fun id0 => putO l (some d) (.ps id0 1)).map fun l => (l, newK h (.row e 1 m (List.replicate m (.u z))))
      else none
    | _, _, _, _ => none
  | .call { callee := .builtin .append, args, argTypes } =>
    match o.dst, args.toList, argTypes.toList with
    | some d, [s, x], [t, t'] =>
      match selem P t with
      | some (e, k, b, z) =>
        match evP F s, srcP H k (evP F x) with
        | .ps id ver, some (m2, cs2) =>
          match liveRow H id ver with
          | some (e', k', m, cs) => if t = t' ∧ e' = e ∧ k' = k ∧ cs2.all (leafOk H) = true ∧ m + m2 ≤ 1000000 ∧ (m + m2) * b ≤ 1000000000 then
              (putO l (some d) (.ps id (ver + 1))).bind fun l => (rowK h id (ver + 1) (.row e k (m + m2) (cs ++ cs2))).map fun h => (l, h)
            else none
          | none => none
        | .u (.slice none 0 0), some (m2, cs2) => if t = t' ∧ cs2.all (leafOk H) = true ∧ m2 ≤ 1000000 ∧ m2 * b ≤ 1000000000 then
              (natK id0 fun id0 => putO l (some d) (.ps id0 1)).map fun l => (l, newK h (.row e k m2 cs2))
            else none
        | _, _ => none
      | none => none
    | _, _, _ => none
  | .call c =>
    match c.callee with
    | .value _ =>
      match target F c with
      | some (f, as) =>
        if goBody P f = true then
          if noPBs as = true then
            match call f as with
            | some (.ro p) => if noPB p = true then (putO l o.dst p).map fun l => (l, h) else none
            | some (.own t k m us) =>
              match o.dst with
              | some d => (natK id0 fun id0 => putO l (some d) (.ps id0 1)).map fun l => (l, newK h (.row t k m (us.map .u)))
              | none => none
            | none => none
          else
            match sub f as h with
            | some (p, h) => (putO l o.dst p).map fun l => (l, h)
            | none => none
        else none
      | none => none
    | _ => quiet
  | _ => quiet

section
variable {P : Program} {W : Env} {n : Nat}

theorem maxLen_big {m : Nat} (h : m ≤ 16777216) : m ≤ maxLen := by simp only [maxLen]; omega

theorem mapM_view {H : PHeap} {as qs : List PV} (h : as.mapM (viewC H vdep) = some qs) : ViewL H as qs := by
  obtain ⟨a, b⟩ := mapM_len h
  exact ⟨a, fun i p q h1 h2 => (viewC_sound _ _ _ (b i p q h1 h2)).1⟩

/-- a call that shares the heap, as the run does it -/
def SubOk (P : Program) (sub : FuncId → List PV → List PBlk → Option (PV × List PBlk)) : Prop :=
  ∀ f as h p h', sub f as h = some (p, h') → ∃ fn c, P.funcs[f]? = some fn ∧ fn.body = some c ∧ as.length ≤ fn.ntmps ∧
    ∀ W : Env, PC P W fn.ntmps c (frame0 as) (gH h) fun e F' H' => (e = .normal ∨ e = .ret) ∧ resP P fn F' H' = some p ∧ H' = gH h'

theorem stepE_sound {call : FuncId → List PV → Option Res} (hcall : ∀ f as r, call f as = some r → CRes P f as r) {sub : FuncId → List PV → List PBlk → Option (PV × List PBlk)} (hsub : SubOk P sub) {o : Oper} {l l' : List PV} {h h' : List PBlk} (hl : l.length = n) (e : stepE P call sub o l h = some (l', h')) :
    PE P W n o (frame0 l) (gH h) (fun p H' => (frame0 l).put o.dst p = frame0 l' ∧ H' = gH h') ∧ l'.length = n := by
  have quiet : ∀ (e : ((pstep P (gH h) (frame0 l) o).bind fun p => (putO l o.dst p).map fun l => (l, h)) = some (l', h')), PE P W n o (frame0 l) (gH h) (fun p H' => (frame0 l).put o.dst p = frame0 l' ∧ H' = gH h') ∧ l'.length = n := by
    intro e
    obtain ⟨p, hp, e⟩ := Option.bind_eq_some_iff.1 e
    obtain ⟨l2, hl2, e⟩ := Option.map_eq_some_iff.1 e
    cases e
    obtain ⟨a, b, c⟩ := putO_spec hl2
    exact ⟨PE.quiet (fun t ht => by rw [← hl]; exact c t ht) (pstep_sound hp) ⟨a.symm, rfl⟩, by omega⟩
  unfold stepE at e
  simp only at e
  split at e
  · -- store
    rename_i t x y ho
    split at e
    · rename_i id off ver ag k hx ht
      split at e
      · rename_i cs bd hc hb
        split at e
        · rename_i hcond
          obtain ⟨h1, h2, h3⟩ := hcond
          obtain ⟨l2, hl2, e⟩ := Option.bind_eq_some_iff.1 e
          obtain ⟨h2', hh2, e⟩ := Option.map_eq_some_iff.1 e
          cases e
          obtain ⟨a, b, c⟩ := putO_spec hl2
          obtain ⟨a', b'⟩ := rowK_spec hh2
          exact ⟨PE.store ho (fun t ht => by rw [← hl]; exact c t ht) hx hc ht h1 h2 h3 hb ⟨a.symm, a'.symm⟩, by omega⟩
        · cases e
      · cases e
    · cases e
  · -- alloc
    rename_i t ho
    split at e
    · rename_i d us hd hz
      split at e
      · rename_i h1
        obtain ⟨l2, hl2, e⟩ := Option.map_eq_some_iff.1 e
        cases e
        rw [natK_eq] at hl2
        obtain ⟨a, b, c⟩ := putO_spec hl2
        exact ⟨PE.alloc (id := h.length) ho hd (by rw [← hl]; exact c d rfl) hz h1 ⟨by rw [hd, gH_new]; exact a.symm, (newK_spec h _).symm⟩, by omega⟩
      · cases e
    · cases e
  · -- box
    rename_i t x ho
    split at e
    · rename_i d hd
      split at e
      · rename_i h1
        obtain ⟨l2, hl2, e⟩ := Option.map_eq_some_iff.1 e
        cases e
        rw [natK_eq] at hl2
        obtain ⟨a, b, c⟩ := putO_spec hl2
        exact ⟨PE.box (id := h.length) ho hd (by rw [← hl]; exact c d rfl) h1 ⟨by rw [hd, gH_new]; exact a.symm, (newK_spec h _).symm⟩, by omega⟩
      · cases e
    · cases e
  · -- buildSlice
    rename_i t len parts ho
    split at e
    · rename_i d e0 k b z hd ht
      split at e
      · rename_i hcond
        obtain ⟨h1, h2, h3, h4⟩ := hcond
        obtain ⟨l2, hl2, e⟩ := Option.map_eq_some_iff.1 e
        cases e
        rw [natK_eq] at hl2
        obtain ⟨a, b, c⟩ := putO_spec hl2
        exact ⟨PE.buildSlice (id := h.length) ho hd (by rw [← hl]; exact c d rfl) ht h1 h2 (maxLen_big h3) h4 ⟨by rw [hd, gH_new]; exact a.symm, (newK_spec h _).symm⟩, by omega⟩
      · cases e
    · cases e
  · -- makeSlice
    rename_i t x y ho
    split at e
    · rename_i d e0 b z kx m ky m' hd ht hx hy
      split at e
      · rename_i hcond
        obtain ⟨rfl, h1, h2, h3⟩ := hcond
        obtain ⟨l2, hl2, e⟩ := Option.map_eq_some_iff.1 e
        cases e
        rw [natK_eq] at hl2
        obtain ⟨a, b, c⟩ := putO_spec hl2
        exact ⟨PE.makeSlice (id := h.length) ho hd (by rw [← hl]; exact c d rfl) ht h1 hx hy (maxLen_big h2) (by omega) ⟨by rw [hd, gH_new]; exact a.symm, (newK_spec h _).symm⟩, by omega⟩
      · cases e
    · cases e
  · -- append
    rename_i args argTypes ho
    split at e
    · rename_i d s x t t' hd hargs htys
      have e1 : args = #[s, x] := by apply Array.ext'; simpa using hargs
      have e2 : argTypes = #[t, t'] := by apply Array.ext'; simpa using htys
      subst e1 e2
      split at e
      · rename_i e0 k b z ht
        split at e
        · rename_i id ver m2 cs2 hs hx
          split at e
          · rename_i e' k' m cs hlr
            split at e
            · rename_i hcond
              obtain ⟨rfl, rfl, rfl, h1, h2, h3⟩ := hcond
              obtain ⟨l2, hl2, e⟩ := Option.bind_eq_some_iff.1 e
              obtain ⟨h2', hh2, e⟩ := Option.map_eq_some_iff.1 e
              cases e
              obtain ⟨a, b, c⟩ := putO_spec hl2
              obtain ⟨a', b'⟩ := rowK_spec hh2
              exact ⟨PE.append ho hd (by rw [← hl]; exact c d rfl) ht hs hlr hx (List.all_eq_true.1 h1) (maxLen_big (by omega)) (by omega) ⟨by rw [hd]; exact a.symm, a'.symm⟩, by omega⟩
            · cases e
          · cases e
        · rename_i m2 cs2 hs hx
          split at e
          · rename_i hcond
            obtain ⟨rfl, h1, h2, h3⟩ := hcond
            obtain ⟨l2, hl2, e⟩ := Option.map_eq_some_iff.1 e
            cases e
            rw [natK_eq] at hl2
            obtain ⟨a, b, c⟩ := putO_spec hl2
            exact ⟨PE.appendNil (id := h.length) ho hd (by rw [← hl]; exact c d rfl) ht hs hx (List.all_eq_true.1 h1) (maxLen_big (by omega)) (by omega) ⟨by rw [hd, gH_new]; exact a.symm, (newK_spec h _).symm⟩, by omega⟩
          · cases e
        · cases e
      · cases e
    · cases e
  · -- call
    rename_i c _ ho
    split at e
    · split at e
      · rename_i f as ht
        split at e
        · rename_i hf
          split at e
          · rename_i hn
            have hv : ViewL PHeap.empty as as := ⟨rfl, fun i p q h1 h2 => by rw [h1] at h2; cases h2; exact View.noP (noPBs_sound hn p (List.mem_of_getElem? h1))⟩
            have hv2 : ViewL (gH h) as as := ⟨rfl, fun i p q h1 h2 => by rw [h1] at h2; cases h2; exact View.noP (noPBs_sound hn p (List.mem_of_getElem? h1))⟩
            split at e
            · rename_i p hp
              split at e
              · obtain ⟨l2, hl2, e⟩ := Option.map_eq_some_iff.1 e
                cases e
                obtain ⟨a, b, c'⟩ := putO_spec hl2
                exact ⟨PE.callB (fun t ht => by rw [← hl]; exact c' t ht) ho ht hf hv (noPBs_sound hn) (hcall _ _ _ hp) (fun q hq => by rw [hq]; exact ⟨a.symm, rfl⟩), by omega⟩
              · cases e
            · rename_i t k m us hp
              split at e
              · rename_i d hd
                obtain ⟨l2, hl2, e⟩ := Option.map_eq_some_iff.1 e
                cases e
                rw [natK_eq] at hl2
                obtain ⟨a, b, c'⟩ := putO_spec hl2
                exact ⟨PE.callOwn (id := h.length) hd (by rw [← hl]; exact c' d rfl) ho ht hf hv2 (hcall _ _ _ hp) (fun m' us' hm _ => by obtain ⟨rfl, rfl⟩ := hm; exact ⟨by rw [hd, gH_new]; exact a.symm, (newK_spec h _).symm⟩), by omega⟩
              · cases e
            · cases e
          · split at e
            · rename_i p h2 hs
              obtain ⟨l2, hl2, e⟩ := Option.map_eq_some_iff.1 e
              cases e
              obtain ⟨a, b, c'⟩ := putO_spec hl2
              obtain ⟨fn, cb, hfn, hcb, hlen, hpc⟩ := hsub _ _ _ _ _ hs
              exact ⟨PE.inline (fun t ht => by rw [← hl]; exact c' t ht) ho ht hf hfn hcb hlen fun W' => (hpc W').mono fun e F' H' ⟨h1, h2, h3⟩ => ⟨h1, p, h2, by exact ⟨a.symm, h3⟩⟩, by omega⟩
            · cases e
        · cases e
      · cases e
    · exact quiet e
  · exact quiet e

def opsE (P : Program) (call : FuncId → List PV → Option Res) (sub : FuncId → List PV → List PBlk → Option (PV × List PBlk)) (ops : Array Oper) : List Oper → List PV → List PBlk → Option (List PV × List PBlk)
  | [], l, h => some (l, h)
  | o :: rest, l, h =>
    match wantedP ops o (frame0 l) with
    | some true => match stepE P call sub o l h with
      | some (l, h) => opsE P call sub ops rest l h
      | none => none
    | some false => match putO l o.dst (.u undef) with
      | some l => opsE P call sub ops rest l h
      | none => none
    | none => none

theorem opsE_sound {call : FuncId → List PV → Option Res} (hcall : ∀ f as r, call f as = some r → CRes P f as r) {sub : FuncId → List PV → List PBlk → Option (PV × List PBlk)} (hsub : SubOk P sub) {ops : Array Oper} : ∀ {rest : List Oper} {l l' : List PV} {h h' : List PBlk}, l.length = n → opsE P call sub ops rest l h = some (l', h') →
    PL P W n ops rest (frame0 l) (gH h) (fun F' H' => F' = frame0 l' ∧ H' = gH h') ∧ l'.length = n
  | [], l, l', h, h', hl, e => by cases e; exact ⟨PL.nil ⟨rfl, rfl⟩, hl⟩
  | o :: rest, l, l', h, h', hl, e => by
    rw [opsE] at e
    split at e
    · rename_i hw
      split at e
      · rename_i l2 h2 hs
        obtain ⟨a, b⟩ := stepE_sound (W := W) hcall hsub hl hs
        obtain ⟨a2, b2⟩ := opsE_sound hcall hsub b e
        exact ⟨PL.cons hw fun V ac w hr => wp_post (a V ac w hr) fun a' w' ⟨p, H', V', ⟨e1, e2⟩, hr'⟩ => ⟨p, H', V', show PL P W n ops rest ((frame0 l).put o.dst p) H' _ from by rw [e1, e2]; exact a2, hr'⟩, b2⟩
      · cases e
    · rename_i hw
      split at e
      · rename_i l2 hl2
        obtain ⟨a, b, c⟩ := putO_spec hl2
        obtain ⟨a2, b2⟩ := opsE_sound hcall hsub (show l2.length = n by omega) e
        exact ⟨PL.skip hw (fun t ht => by rw [← hl]; exact c t ht) (by rw [← a]; exact a2), b2⟩
      · cases e
    · cases e

/-- one operation that only reads, or makes what is only read -/
def stepQ (P : Program) (call : FuncId → List PV → Option Res) (o : Oper) (l : List PV) (h : List PBlk) : Option PV :=
  let F := frame0 l
  let H := gH h
  match o.op with
  | .buildSlice t len parts =>
    match selem P t with
    | some (e, k, b, z) => if z.cells.toList.all Value.oneCell' = true ∧ len * k ≤ 16777216 ∧ litOk H k len (parts.toList.map fun x => (x.1, evP F x.2)) = true then some (.sl k (parts.toList.map fun x => evP F x.2)) else none
    | none => none
  | .call c =>
    match c.callee with
    | .value _ =>
      match target F c with
      | some (f, as) =>
        if goBody P f = true then
          if noPBs as = true then
            match call f as with
            | some (.ro p) => some p
            | some (.own t 1 m us) => some (.sl 1 (us.map .u))
            | _ => none
          else
            match as.mapM (viewC H vdep) with
            | some qs => match call f qs with
              | some (.ro p) => if scB p = true then some p else none
              | _ => none
            | none => none
        else none
      | none => none
    | _ => pstep P H F o
  | _ => pstep P H F o

theorem stepQ_sound {call : FuncId → List PV → Option Res} (hcall : ∀ f as r, call f as = some r → CRes P f as r) {o : Oper} {l : List PV} {h : List PBlk} {p : PV} (e : stepQ P call o l h = some p) : PQ P W o (frame0 l) (gH h) p := by
  unfold stepQ at e
  simp only at e
  split at e
  · rename_i t len parts ho
    split at e
    · rename_i e0 k b z ht
      split at e
      · rename_i hcond
        cases e
        exact PQ.buildSlice ho ht hcond.1 hcond.2.1 hcond.2.2
      · cases e
    · cases e
  · rename_i c ho
    split at e
    · split at e
      · rename_i f as ht
        split at e
        · rename_i hf
          split at e
          · rename_i hn
            have hv : ViewL PHeap.empty as as := ⟨rfl, fun i p q h1 h2 => by rw [h1] at h2; cases h2; exact View.noP (noPBs_sound hn p (List.mem_of_getElem? h1))⟩
            split at e
            · rename_i p' hp
              cases e
              exact PQ.callB ho ht hf hv (noPBs_sound hn) (hcall _ _ _ hp)
            · rename_i t m us hp
              cases e
              have hc : PCallOwn P f as t 1 (fun a b => a = m ∧ b = us) := hcall _ _ _ hp
              exact PQ.callB ho ht hf hv (noPBs_sound hn) (hc.ro.weak fun q ⟨us', ⟨_, h2⟩, h3⟩ => by subst h2; exact h3)
            · cases e
          · split at e
            · rename_i qs hqs
              split at e
              · rename_i p' hp
                split at e
                · rename_i hsc
                  cases e
                  exact PQ.callA ho ht hf (mapM_view hqs) (hcall _ _ _ hp) (scB_sound hsc)
                · cases e
              · cases e
            · cases e
        · cases e
      · cases e
    · exact pstep_sound e
  · exact pstep_sound e

def opsQ (P : Program) (call : FuncId → List PV → Option Res) (ops : Array Oper) (h : List PBlk) : List Oper → List PV → Option (List PV)
  | [], l => some l
  | o :: rest, l =>
    match wantedP ops o (frame0 l) with
    | some true => match stepQ P call o l h with
      | some p => match putO l o.dst p with
        | some l => opsQ P call ops h rest l
        | none => none
      | none => none
    | some false => match putO l o.dst (.u undef) with
      | some l => opsQ P call ops h rest l
      | none => none
    | none => none

theorem opsQ_sound {call : FuncId → List PV → Option Res} (hcall : ∀ f as r, call f as = some r → CRes P f as r) {ops : Array Oper} {h : List PBlk} : ∀ {rest : List Oper} {l l' : List PV}, l.length = n → opsQ P call ops h rest l = some l' →
    ∀ {Q : PFrame → Prop}, Q (frame0 l') → wpQF P W n ops (gH h) Q rest (frame0 l) ∧ l'.length = n
  | [], l, l', hl, e, Q, hQ => by cases e; exact ⟨hQ, hl⟩
  | o :: rest, l, l', hl, e, Q, hQ => by
    rw [opsQ] at e
    split at e
    · rename_i hw
      split at e
      · rename_i p hp
        split at e
        · rename_i l2 hl2
          obtain ⟨a, b, c⟩ := putO_spec hl2
          obtain ⟨a2, b2⟩ := opsQ_sound hcall (show l2.length = n by omega) e hQ
          exact ⟨⟨fun t ht => by rw [← hl]; exact c t ht, .inl ⟨hw, p, stepQ_sound hcall hp, by rw [← a]; exact a2⟩⟩, b2⟩
        · cases e
      · cases e
    · rename_i hw
      split at e
      · rename_i l2 hl2
        obtain ⟨a, b, c⟩ := putO_spec hl2
        obtain ⟨a2, b2⟩ := opsQ_sound hcall (show l2.length = n by omega) e hQ
        exact ⟨⟨fun t ht => by rw [← hl]; exact c t ht, .inr ⟨hw, by rw [← a]; exact a2⟩⟩, b2⟩
      · cases e
    · cases e

/-- a region -/
def regE (P : Program) (call : FuncId → List PV → Option Res) (sub : FuncId → List PV → List PBlk → Option (PV × List PBlk)) (ops : Array Oper) (draw : Bool) (l : List PV) (h : List PBlk) : Option (List PV × List PBlk) :=
  if draw = false then opsE P call sub ops ops.toList l h
  else
    match (if Region.lexB .any ops = true then opsQ P call ops h ops.toList l else none) with
    | some l => some (l, h)
    | none =>
      match (List.range ops.size).find? fun m => Region.lexTailB .any ops m with
      | some m => if Region.lexTailB .any ops m = true then
          match opsQ P call ops h (ops.toList.take m) l with
          | some l => opsE P call sub ops (ops.toList.drop m) l h
          | none => none
        else none
      | none => none

theorem regE_sound {call : FuncId → List PV → Option Res} (hcall : ∀ f as r, call f as = some r → CRes P f as r) {sub : FuncId → List PV → List PBlk → Option (PV × List PBlk)} (hsub : SubOk P sub) (hm : P.follows .mixedOrders = true) {id : Nat} {ops : Array Oper} {draw : Bool} {l l' : List PV} {h h' : List PBlk} (hl : l.length = n) (e : regE P call sub ops draw l h = some (l', h')) {Q : Exit → PFrame → PHeap → Prop} (hQ : Q .normal (frame0 l') (gH h')) :
    PC P W n (.region id ops draw) (frame0 l) (gH h) Q ∧ l'.length = n := by
  unfold regE at e
  split at e
  · rename_i hd
    obtain ⟨a, b⟩ := opsE_sound (W := W) hcall hsub hl e
    subst hd
    refine ⟨?_, b⟩
    have := PC.region (P := P) (W := W) (n := n) (F := frame0 l) (H := gH h) (Q := Q) (id := id) (l := ops.toList) fun V ac w Q' hr hQ' => a V ac w Q' hr fun F' H' V' a' w' ⟨e1, e2⟩ hr' => hQ' F' H' V' a' w' (by rw [e1, e2]; exact hQ) hr'
    simpa using this
  · rename_i hd
    have hdt : draw = true := by simpa using hd
    subst hdt
    split at e
    · rename_i l2 hq
      cases e
      split at hq
      · rename_i hB
        obtain ⟨a, b⟩ := opsQ_sound (W := W) (n := n) hcall hl hq (Q := fun F' => Q .normal F' (gH h)) hQ
        refine ⟨?_, b⟩
        have := PC.regionQ (P := P) (W := W) (n := n) (F := frame0 l) (H := gH h) (Q := Q) (id := id) (l := ops.toList) hm (by simpa using hB) (by simpa using a)
        simpa using this
      · cases hq
    · split at e
      · rename_i m hf
        split at e
        · rename_i hB
          split at e
          · rename_i l2 hq
            have hl2 : l2.length = n := (opsQ_sound (W := W) (n := n) hcall hl hq (Q := fun _ => True) trivial).2
            obtain ⟨a2, b2⟩ := opsE_sound (W := W) hcall hsub hl2 e
            refine ⟨?_, b2⟩
            have a := (opsQ_sound (W := W) (n := n) hcall hl hq (Q := fun F' => PL P W n ops (ops.toList.drop m) F' (gH h) (Q .normal)) (fun V ac w Q' hr hQ' => a2 V ac w Q' hr fun F' H' V' a' w' ⟨e1, e2⟩ hr' => hQ' F' H' V' a' w' (by rw [e1, e2]; exact hQ) hr')).1
            have := PC.regionT (P := P) (W := W) (n := n) (F := frame0 l) (H := gH h) (Q := Q) (id := id) (l := ops.toList) m hm (by simpa using hB) (by simpa using a)
            simpa using this
          · cases e
        · cases e
      · cases e

/-- code -/
def codeE (P : Program) (call : FuncId → List PV → Option Res) (sub : FuncId → List PV → List PBlk → Option (PV × List PBlk)) : Nat → Code → List PV → List PBlk → Option (Exit × List PV × List PBlk)
  | 0, _, _, _ => none
  | fuel + 1, c, l, h =>
    match c with
    | .skip => some (.normal, l, h)
    | .ret => some (.ret, l, h)
    | .exit id => some (.exit id, l, h)
    | .region _ ops draw => (regE P call sub ops draw l h).map fun x => (.normal, x.1, x.2)
    | .seq a b =>
      match codeE P call sub fuel a l h with
      | some (.normal, l, h) => codeE P call sub fuel b l h
      | some (.ret, l, h) => some (.ret, l, h)
      | some (.exit id, l, h) => some (.exit id, l, h)
      | _ => none
    | .cond c a b =>
      match evP (frame0 l) c with
      | .u (.bool true) => codeE P call sub fuel a l h
      | .u (.bool false) => codeE P call sub fuel b l h
      | _ => none
    | .block id c =>
      match codeE P call sub fuel c l h with
      | some (.normal, l, h) => some (.normal, l, h)
      | some (.ret, l, h) => some (.ret, l, h)
      | some (.exit id', l, h) => if id' = id then some (.normal, l, h) else some (.exit id', l, h)
      | _ => none
    | .loop c =>
      match codeE P call sub fuel c l h with
      | some (.normal, l, h) => codeE P call sub fuel (.loop c) l h
      | some (.ret, l, h) => some (.ret, l, h)
      | some (.exit id, l, h) => some (.exit id, l, h)
      | _ => none
    | _ => none
end
end Go.Proofs.Ytficeeaaaijgcaa.L
