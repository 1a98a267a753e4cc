/-
  Texts of this proof, put together: Lp, Lq, Lr, Ls, Lt, Lv.
-/

import Derived.Test.YthcckhpogmlgjaaQ1SpotBehind

/-
  The run of code and of functions, and its proof.
-/
namespace Go.Proofs.Ythcckhpogmlgjaa.L
open Go Go.RowKit
set_option linter.unusedVariables false
set_option linter.unusedSimpArgs false
section
variable {P : Program} {W : Env} {n : Nat}

theorem codeE_sound {call : FuncId → List PV → Option Res} (hcall : ∀ f as r, call f as = some r → CRes P f as r) {sub : FuncId → List PV → List PBlk → Option (PV × List PBlk)} (hsub : SubOk P sub) (hm : P.follows .mixedOrders = true) : ∀ (N fuel : Nat), fuel ≤ N → ∀ (c : Code) (l l' : List PV) (h h' : List PBlk) (ex : Exit), l.length = n → codeE P call sub fuel c l h = some (ex, l', h') →
    l'.length = n ∧ ∀ {Q : Exit → PFrame → PHeap → Prop}, Q ex (frame0 l') (gH h') → PC P W n c (frame0 l) (gH h) Q
  | N, 0, _, c, l, l', h, h', ex, hl, e => by simp [codeE] at e
  | 0, fuel + 1, hN, c, l, l', h, h', ex, hl, e => by omega
  | N + 1, fuel + 1, hN, c, l, l', h, h', ex, hl, e => by
    have ih := fun c l l' h h' ex => codeE_sound hcall hsub hm N fuel (by omega) c l l' h h' ex
    cases c with
    | skip => simp only [codeE] at e; cases e; exact ⟨hl, fun hQ => PC.skip hQ⟩
    | ret => simp only [codeE] at e; cases e; exact ⟨hl, fun hQ => PC.ret hQ⟩
    | exit id => simp only [codeE] at e; cases e; exact ⟨hl, fun hQ => PC.exit hQ⟩
    | region id ops draw =>
      simp only [codeE] at e
      obtain ⟨⟨l2, h2⟩, hr, e⟩ := Option.map_eq_some_iff.1 e
      cases e
      have := fun Q hQ => regE_sound (W := W) (id := id) hcall hsub hm hl hr (Q := Q) hQ
      exact ⟨(this (fun _ _ _ => True) trivial).2, fun {Q} hQ => (this Q hQ).1⟩
    | seq a b =>
      simp only [codeE] at e
      split at e
      · rename_i l2 h2 ha
        obtain ⟨a1, a3⟩ := ih a l l2 h h2 .normal hl ha
        obtain ⟨b1, b3⟩ := ih b l2 l' h2 h' ex a1 e
        exact ⟨b1, fun {Q} hQ => PC.seq fun K hK => a3 (Q := thenP K Q) (hK _ _ (b3 hQ))⟩
      · rename_i l2 h2 ha
        cases e
        obtain ⟨a1, a3⟩ := ih a l l' h h' .ret hl ha
        exact ⟨a1, fun {Q} hQ => PC.seq fun K hK => a3 (Q := thenP K Q) hQ⟩
      · rename_i id l2 h2 ha
        cases e
        obtain ⟨a1, a3⟩ := ih a l l' h h' (.exit id) hl ha
        exact ⟨a1, fun {Q} hQ => PC.seq fun K hK => a3 (Q := thenP K Q) hQ⟩
      · cases e
    | cond c a b =>
      simp only [codeE] at e
      split at e
      · rename_i hc
        obtain ⟨a1, a3⟩ := ih a l l' h h' ex hl e
        exact ⟨a1, fun hQ => PC.condT hc (a3 hQ)⟩
      · rename_i hc
        obtain ⟨a1, a3⟩ := ih b l l' h h' ex hl e
        exact ⟨a1, fun hQ => PC.condF hc (a3 hQ)⟩
      · cases e
    | block id c =>
      simp only [codeE] at e
      split at e
      · rename_i l2 h2 ha
        cases e
        obtain ⟨a1, a3⟩ := ih c l l' h h' .normal hl ha
        exact ⟨a1, fun {Q} hQ => PC.block (a3 (Q := inBlockP id Q) hQ)⟩
      · rename_i l2 h2 ha
        cases e
        obtain ⟨a1, a3⟩ := ih c l l' h h' .ret hl ha
        exact ⟨a1, fun {Q} hQ => PC.block (a3 (Q := inBlockP id Q) hQ)⟩
      · rename_i id' l2 h2 ha
        split at e
        · rename_i hid
          cases e
          obtain ⟨a1, a3⟩ := ih c l l' h h' (.exit id') hl ha
          exact ⟨a1, fun {Q} hQ => PC.block (a3 (Q := inBlockP id Q) (by simp only [inBlockP]; rw [if_pos hid]; exact hQ))⟩
        · rename_i hid
          cases e
          obtain ⟨a1, a3⟩ := ih c l l' h h' (.exit id') hl ha
          exact ⟨a1, fun {Q} hQ => PC.block (a3 (Q := inBlockP id Q) (by simp only [inBlockP]; rw [if_neg hid]; exact hQ))⟩
      · cases e
    | loop c =>
      have hlen : ∀ (f : Nat), f ≤ N + 1 → ∀ (l : List PV) (h : List PBlk), l.length = n → codeE P call sub f (.loop c) l h = some (ex, l', h') → l'.length = n := by
        intro f
        induction f with
        | zero => intro _ l h _ e; simp [codeE] at e
        | succ f ihf =>
          intro hf l h hl e
          simp only [codeE] at e
          split at e
          · rename_i l2 h2 ha
            obtain ⟨a1, _⟩ := codeE_sound hcall hsub hm N f (by omega) c l l2 h h2 .normal hl ha
            exact ihf (by omega) l2 h2 a1 e
          · rename_i l2 h2 ha
            cases e
            obtain ⟨a1, _⟩ := codeE_sound hcall hsub hm N f (by omega) c l l' h h' .ret hl ha
            exact a1
          · rename_i id l2 h2 ha
            cases e
            obtain ⟨a1, _⟩ := codeE_sound hcall hsub hm N f (by omega) c l l' h h' (.exit id) hl ha
            exact a1
          · cases e
      have g1 := hlen (fuel + 1) hN l h hl e
      refine ⟨g1, fun {Q} hQ => ?_⟩
      refine PC.loop (fun m F H => m ≤ N + 1 ∧ ∃ l h, F = frame0 l ∧ H = gH h ∧ l.length = n ∧ codeE P call sub m (.loop c) l h = some (ex, l', h')) (m := fuel + 1) ⟨hN, l, h, rfl, rfl, hl, e⟩ fun m F H hI => ?_
      obtain ⟨hm', l, h, rfl, rfl, hl, e⟩ := hI
      cases m with
      | zero => simp [codeE] at e
      | succ f =>
        simp only [codeE] at e
        split at e
        · rename_i l2 h2 ha
          obtain ⟨a1, a3⟩ := codeE_sound hcall hsub hm N f (by omega) c l l2 h h2 .normal hl ha
          exact a3 ⟨f, by omega, by omega, l2, h2, rfl, rfl, a1, e⟩
        · rename_i l2 h2 ha
          cases e
          obtain ⟨a1, a3⟩ := codeE_sound hcall hsub hm N f (by omega) c l l' h h' .ret hl ha
          exact a3 hQ
        · rename_i id l2 h2 ha
          cases e
          obtain ⟨a1, a3⟩ := codeE_sound hcall hsub hm N f (by omega) c l l' h h' (.exit id) hl ha
          exact a3 hQ
        · cases e
    | _ => simp [codeE] at e

def resR (P : Program) (fn : Func) (l : List PV) (h : List PBlk) : Option Res :=
  match resP P fn (frame0 l) (gH h) with
  | some (.ps id ver) =>
    match liveRow (gH h) id ver with
    | some (t, k, m, cs) =>
      match cs.mapM leafV with
      | some us => some (.own t k m us)
      | none => (viewC (gH h) vdep (.ps id ver)).map .ro
    | none => none
  | some q => (viewC (gH h) vdep q).map .ro
  | none => none

/-- a function, carried out: by itself, or on its caller's heap -/
def runE (P : Program) (more : FuncId → List PV → Option Res) : Nat → (FuncId → List PV → Option Res) × (FuncId → List PV → List PBlk → Option (PV × List PBlk))
  | 0 => (fun _ _ => none, fun _ _ _ => none)
  | fuel + 1 =>
    (fun f as =>
      match more f as with
      | some r => some r
      | none =>
        match P.funcs[f]? with
        | some fn =>
          match fn.body with
          | some c =>
            if as.length ≤ fn.ntmps then
              match codeE P (runE P more fuel).1 (runE P more fuel).2 fuel c (as ++ List.replicate (fn.ntmps - as.length) (.u undef)) [] with
              | some (.normal, l, h) => resR P fn l h
              | some (.ret, l, h) => resR P fn l h
              | _ => none
            else none
          | none => none
        | none => none,
     fun f as h =>
        match P.funcs[f]? with
        | some fn =>
          match fn.body with
          | some c =>
            if as.length ≤ fn.ntmps then
              match codeE P (runE P more fuel).1 (runE P more fuel).2 fuel c (as ++ List.replicate (fn.ntmps - as.length) (.u undef)) h with
              | some (.normal, l, h) => (resP P fn (frame0 l) (gH h)).bind fun p => normK p fun p => some (p, h)
              | some (.ret, l, h) => (resP P fn (frame0 l) (gH h)).bind fun p => normK p fun p => some (p, h)
              | _ => none
            else none
          | none => none
        | none => none)
def funE (P : Program) (more : FuncId → List PV → Option Res) (fuel : Nat) (f : FuncId) (as : List PV) : Option Res := (runE P more fuel).1 f as

theorem frame0_pad (as : List PV) (m : Nat) : frame0 (as ++ List.replicate m (.u undef)) = frame0 as := by
  funext t
  simp only [frame0, List.getElem?_append, List.getElem?_replicate]
  by_cases h : t < as.length
  · simp [h]
  · rw [if_neg h, List.getElem?_eq_none (by omega : as.length ≤ t)]
    split <;> rfl
theorem gH_nil : gH [] = PHeap.empty := by funext t; simp [gH, PHeap.empty]

theorem runE_sound {more : FuncId → List PV → Option Res} (hmore : ∀ f as r, more f as = some r → CRes P f as r) (hm : P.follows .mixedOrders = true) : ∀ (fuel : Nat), (∀ (f : FuncId) (as : List PV) (r : Res), (runE P more fuel).1 f as = some r → CRes P f as r) ∧ SubOk P (runE P more fuel).2
  | 0 => ⟨fun f as r e => by simp [runE] at e, fun f as h p h' e => by simp [runE] at e⟩
  | fuel + 1 => by
    obtain ⟨ih1, ih2⟩ := runE_sound hmore hm fuel
    refine ⟨fun f as r e => ?_, fun f as h p h' e => ?_⟩
    · simp only [runE] at e
      split at e
      · rename_i r' hr
        cases e
        exact hmore f as r hr
      · split at e
        · rename_i fn hf
          split at e
          · rename_i c hb
            split at e
            · rename_i hlen
              have main : ∀ ex l h, (ex = .normal ∨ ex = .ret) → codeE P (runE P more fuel).1 (runE P more fuel).2 fuel c (as ++ List.replicate (fn.ntmps - as.length) (.u undef)) [] = some (ex, l, h) → resR P fn l h = some r → CRes P f as r := by
                intro ex l h hex hc hres
                have hpc := fun (W : Env) => codeE_sound (W := W) (n := fn.ntmps) ih1 ih2 hm fuel fuel (Nat.le_refl _) c _ l _ h ex (by simp; omega) hc
                unfold resR at hres
                have ro : ∀ q p, resP P fn (frame0 l) (gH h) = some q → viewC (gH h) vdep q = some p → PCall P f as (· = p) := fun q p hq hv => by
                  obtain ⟨v1, v2⟩ := viewC_sound _ _ _ hv
                  refine PCall.intro hf hb hlen fun W => ?_
                  have := (hpc W).2 (Q := fun e F H => (e = .normal ∨ e = .ret) ∧ ∃ q p', resP P fn F H = some q ∧ View H q p' ∧ NoP p' ∧ p' = p) ⟨hex, q, p, hq, v1, v2, rfl⟩
                  rwa [frame0_pad, gH_nil] at this
                split at hres
                · rename_i id ver hq
                  split at hres
                  · rename_i t k m cs hl
                    split at hres
                    · rename_i us hus
                      cases hres
                      refine PCallOwn.intro hf hb hlen fun W => ?_
                      have := (hpc W).2 (Q := fun e F H => (e = .normal ∨ e = .ret) ∧ ∃ q, resP P fn F H = some q ∧ OwnR H q t k (fun a b => a = m ∧ b = us)) ⟨hex, _, hq, .inl ⟨id, ver, m, us, rfl, by rw [hl, mapM_leafV hus], rfl, rfl⟩⟩
                      rwa [frame0_pad, gH_nil] at this
                    · obtain ⟨p, hp, rfl⟩ := Option.map_eq_some_iff.1 hres
                      exact ro _ p hq hp
                  · cases hres
                · rename_i q _ hq
                  obtain ⟨p, hp, rfl⟩ := Option.map_eq_some_iff.1 hres
                  exact ro _ p hq hp
                · cases hres
              split at e
              · rename_i l h hc; exact main _ l h (.inl rfl) hc e
              · rename_i l h hc; exact main _ l h (.inr rfl) hc e
              · cases e
            · cases e
          · cases e
        · cases e
    · simp only [runE] at e
      split at e
      · rename_i fn hf
        split at e
        · rename_i c hb
          split at e
          · rename_i hlen
            refine ⟨fn, c, hf, hb, hlen, fun W => ?_⟩
            have main : ∀ ex l h2, (ex = .normal ∨ ex = .ret) → codeE P (runE P more fuel).1 (runE P more fuel).2 fuel c (as ++ List.replicate (fn.ntmps - as.length) (.u undef)) h = some (ex, l, h2) → ((resP P fn (frame0 l) (gH h2)).bind fun p => normK p fun p => some (p, h2)) = some (p, h') → PC P W fn.ntmps c (frame0 as) (gH h) fun e F' H' => (e = .normal ∨ e = .ret) ∧ resP P fn F' H' = some p ∧ H' = gH h' := by
              intro ex l h2 hex hc hres
              obtain ⟨q, hq, hres⟩ := Option.bind_eq_some_iff.1 hres
              rw [normK_eq] at hres
              cases hres
              have := (codeE_sound (W := W) (n := fn.ntmps) ih1 ih2 hm fuel fuel (Nat.le_refl _) c _ l _ h' ex (by simp; omega) hc).2 (Q := fun e F' H' => (e = .normal ∨ e = .ret) ∧ resP P fn F' H' = some p ∧ H' = gH h') ⟨hex, hq, rfl⟩
              rwa [frame0_pad] at this
            split at e
            · rename_i l h2 hc; exact main _ l h2 (.inl rfl) hc e
            · rename_i l h2 hc; exact main _ l h2 (.inr rfl) hc e
            · cases e
          · cases e
        · cases e
      · cases e

theorem funE_sound {more : FuncId → List PV → Option Res} (hmore : ∀ f as r, more f as = some r → CRes P f as r) (hm : P.follows .mixedOrders = true) {fuel : Nat} {f : FuncId} {as : List PV} {r : Res} (e : funE P more fuel f as = some r) : CRes P f as r :=
  (runE_sound hmore hm fuel).1 f as r e
end
end Go.Proofs.Ythcckhpogmlgjaa.L

/-
  More of the logic: contracts of functions that share their caller's heap; a slice cut short; a region with moves ahead and the rest in whatever order.
-/
namespace Go.Proofs.Ythcckhpogmlgjaa.L
open Go Go.RowKit
set_option linter.unusedVariables false
set_option linter.unusedSimpArgs false
section
variable {P : Program} {W : Env} {n : Nat} {H : PHeap} {F : PFrame}

/-- a contract on the caller's own heap -/
def PIn (P : Program) (f : FuncId) (as : List PV) (H : PHeap) (R : PV → PHeap → Prop) : Prop :=
  ∃ fn c, P.funcs[f]? = some fn ∧ fn.body = some c ∧ as.length ≤ fn.ntmps ∧ goBody P f = true ∧
    ∀ W : Env, PC P W fn.ntmps c (frame0 as) H fun e F' H' => (e = .normal ∨ e = .ret) ∧ ∃ q, resP P fn F' H' = some q ∧ R q H'
theorem PIn.intro {f : FuncId} {fn : Func} {c : Code} {m : Nat} {as : List PV} {R : PV → PHeap → Prop} (hf : P.funcs[f]? = some fn) (hb : fn.body = some c) (hn : fn.ntmps = m) (hl : as.length ≤ m) (hg : goBody P f = true)
    (h : ∀ W : Env, PC P W m c (frame0 as) H fun e F' H' => (e = .normal ∨ e = .ret) ∧ ∃ q, resP P fn F' H' = some q ∧ R q H') : PIn P f as H R := by
  subst hn
  exact ⟨fn, c, hf, hb, hl, hg, h⟩
theorem PIn.mono {f : FuncId} {as : List PV} {R R' : PV → PHeap → Prop} (h : PIn P f as H R) (hr : ∀ q H', R q H' → R' q H') : PIn P f as H R' := by
  obtain ⟨fn, c, h1, h2, h3, h4, h5⟩ := h
  exact ⟨fn, c, h1, h2, h3, h4, fun W => (h5 W).mono fun e F' H' ⟨he, q, hq, hR⟩ => ⟨he, q, hq, hr q H' hR⟩⟩
theorem PE.inl {o : Oper} {c : Call} {as : List PV} {f : FuncId} {R : PV → PHeap → Prop} {k : PV → PHeap → Prop} (hc : PIn P f as H R) (hd : dstOk n o) (ho : o.op = .call c) (ht : target F c = some (f, as)) (hk : ∀ q H', R q H' → k q H') : PE P W n o F H k := by
  obtain ⟨fn, cb, h1, h2, h3, h4, h5⟩ := hc
  exact PE.inline hd ho ht h4 h1 h2 h3 fun W' => (h5 W').mono fun e F' H' ⟨he, q, hq, hR⟩ => ⟨he, q, hq, hk q H' hR⟩
theorem PL.inl {ops : Array Oper} {o : Oper} {l : List Oper} {K : PFrame → PHeap → Prop} {c : Call} {as : List PV} {f : FuncId} {R : PV → PHeap → Prop} (hg : o.guard = none) (ho : o.op = .call c) (hc : PIn P f as H R) (hd : dstOk n o) (ht : target F c = some (f, as))
    (h : ∀ q H', R q H' → PL P W n ops l (F.put o.dst q) H' K) : PL P W n ops (o :: l) F H K := PL.pe hg (PE.inl hc hd ho ht h)

/-- 's[:m]', s of the call's own -/
theorem PE.trunc {o : Oper} {t e : TypeId} {x y : Operand} {d id ver k m j : Nat} {kd : IntKind} {cs : List PV} {K : PV → PHeap → Prop} (ho : o.op = .slice t x none (some y) none) (hd : o.dst = some d) (hdn : d < n) (ht : esz P t = some k) (hx : evP F x = .ps id ver) (hl : liveRow H id ver = some (e, k, m, cs)) (hy : evP F y = .u (.int kd (j : Int))) (hj : j ≤ m)
    (hk : K (.ps id (ver + 1)) (H.set id ⟨ver + 1, some (.row e k j (cs.take (j * k)))⟩)) : PE P W n o F H K := fun V a w hr => by
  obtain ⟨e', ti, hu, hti, rfl⟩ := esz_spec ht
  obtain ⟨hb, hve⟩ := liveRow_spec hl
  have hxv : a.eval x = V id := by
    have := Rp.eval (P := P) (F := F) (a := a) (Z := W.Z) (H := H) (V := V) (w := w) x fun t _ => hr.slot t
    rw [hx] at this
    generalize a.eval x = q at this
    cases this with
    | ps _ _ _ hvv hh => exact hh (by rw [hb]; rfl) hve
  have hyv : a.eval y = .int kd j := by
    have := Rp.eval (P := P) (F := F) (a := a) (Z := W.Z) (H := H) (V := V) (w := w) y fun t _ => hr.slot t
    rw [hy] at this; generalize a.eval y = q at this; cases this; rfl
  obtain ⟨vals, hown, hR, h1⟩ := hr.heap.row id e _ m cs hb
  have key : ∃ v', (execOp a.eval o).run P w = .ok (.value v') w ∧ w.ownsRow W.w.heap.size e ti.size v' j (vals.take (j * ti.size)) ∧ blockOf v' = blockOf (V id) := by
    have hlen : (vals.take (j * ti.size)).length = j * ti.size := by
      rw [List.length_take, hown.1]
      exact Nat.min_eq_left (Nat.mul_le_mul_right _ hj)
    rcases hown.2 with ⟨e1, rfl⟩ | ⟨g, cap, cur, e1, hg, hh, hcap, hmax, hsz, htake⟩
    · have hj0 : j = 0 := by omega
      subst hj0
      refine ⟨.slice none 0 0, ?_, ⟨hlen, .inl ⟨rfl, rfl⟩⟩, by rw [e1]⟩
      have hbd := run_sliceBounds (P := P) (w := w) (isS := true) (len := 0) (cap := 0) (l := 0) (h := 0) (lo := none) (hi := some (.int kd (0 : Nat))) (.inl ⟨rfl, rfl⟩) (.inr ⟨kd, _, rfl, by simp, by simp⟩) (Nat.le_refl _) (Nat.le_refl _)
      simp only [execOp, ho]
      simp [hxv, hyv, e1, Instr.sliceAt, Instr.slice, run_underlying hu, hbd, sizeOf, typeInfo, hti] at hbd ⊢
    · refine ⟨.slice (some ⟨g, 0, none⟩) j cap, ?_, ⟨hlen, .inr ⟨g, cap, cur, rfl, hg, hh, by omega, hmax, hsz, ?_⟩⟩, by rw [e1]; rfl⟩
      · have hbd := run_sliceBounds (P := P) (w := w) (isS := true) (len := m) (cap := cap) (l := 0) (h := j) (lo := none) (hi := some (.int kd (j : Nat))) (.inl ⟨rfl, rfl⟩) (.inr ⟨kd, _, rfl, by simp, by simp⟩) (Nat.zero_le _) (by omega)
        simp only [execOp, ho]
        simp [hxv, hyv, e1, Instr.sliceAt, Instr.slice, run_underlying hu, hbd, sizeOf, typeInfo, hti]
        by_cases hc : cap = 0
        · simp [hc]
        · simp [hc, addr_add]
      · rw [← htake, List.take_take, Nat.min_eq_left (Nat.mul_le_mul_right _ hj)]
  obtain ⟨v', hrun, hown', hblk⟩ := key
  have hturn : Turn W H V w id ⟨ver + 1, some (.row e ti.size j (cs.take (j * ti.size)))⟩ v' w := by
    refine ⟨hr.heap.below, Nat.le_refl _, fun _ _ _ => rfl, fun g hg => .inr ⟨by rw [hb]; rfl, by rw [← hblk]; exact hg⟩, .inl (by show (H id).ver < ver + 1; omega)⟩
  refine wp_value hrun ⟨_, _, setV V id v', hk, ?_⟩
  rw [hd]
  refine hr.turn hturn (fun bd hbd => ?_) (some d) (fun t ht => by cases ht; exact hdn) ?_
  · cases hbd
    refine ⟨_, hown', ⟨by simp [hR.1], fun i p v h3 h4 => ?_⟩, fun u hu' => h1 u (List.mem_of_mem_take hu')⟩
    rw [List.getElem?_take] at h3 h4
    split at h3
    · rename_i hi
      rw [if_pos hi] at h4
      exact hturn.rp (hR.2 i p v h3 h4)
    · cases h3
  · refine .ps _ _ _ ?_ fun _ _ => ?_
    · simp [PHeap.set]
    · simp [setV]

/-! whatever order -/
def PA (P : Program) (W : Env) (n : Nat) (ops : Array Oper) (K : PFrame → PHeap → Prop) : Nat → Array Bool → PFrame → PHeap → Prop
  | 0, listed, F, H => Region.ready .any ops listed = [] ∧ K F H
  | fuel + 1, listed, F, H =>
    (Region.ready .any ops listed = [] → K F H) ∧
    ∀ i ∈ Region.ready .any ops listed, ∃ o, ops[i]? = some o ∧ wantedP ops o F = some true ∧ PE P W n o F H fun p H' => PA P W n ops K fuel (listed.setIfInBounds i true) (F.put o.dst p) H'

theorem PA.sound {ops : Array Oper} {K : PFrame → PHeap → Prop} {Q' : Exit → Act → World → Prop} (hQ : ∀ F H V a w, K F H → Rel P W n F H V a w → Q' .normal a w) : ∀ (fuel : Nat) (listed : Array Bool) (F : PFrame) (H : PHeap) (V : Nat → Value) (a : Act) (w : World), Rel P W n F H V a w → PA P W n ops K fuel listed F H → wpAny P .any ops Q' fuel listed a w
  | 0, _, _, _, _, _, _, hr, h => ⟨h.1, hQ _ _ _ _ _ h.2 hr⟩
  | fuel + 1, listed, F, H, V, a, w, hr, h => ⟨fun h0 => hQ _ _ _ _ _ (h.1 h0) hr, fun i hi => by
    obtain ⟨o, ho, hw, hpe⟩ := h.2 i hi
    unfold wpOp
    simp only [ho]
    rw [wantedP_sound hw hr.slot]
    simp only [if_true]
    exact .inl (wp_post (hpe V a w hr) fun a' w' ⟨p, H', V', hk, hr'⟩ => PA.sound hQ fuel _ _ _ _ _ _ hr' hk)⟩

theorem PC.regionA {id : Nat} {l : List Oper} {Q : Exit → PFrame → PHeap → Prop} (hm : P.follows .mixedOrders = true) (h : PA P W n l.toArray (Q .normal) l.length (Array.replicate l.length false) F H) : PC P W n (.region id l.toArray true) F H Q := fun V a w Q' hr hQ => by
  refine wp_region_any hm ?_
  have := PA.sound (Q' := Q') (fun F H V a w hk hr => hQ _ _ _ _ _ _ hk hr) l.length (Array.replicate l.length false) F H V a _ hr.drawn h
  simpa using this
end
end Go.Proofs.Ythcckhpogmlgjaa.L

/-
  Regions whose first operations only move values: these may be taken first; then a tail in one order, or whatever order.
-/
namespace Go.Proofs.Ythcckhpogmlgjaa.L
open Go Go.RowKit
set_option linter.unusedVariables false
set_option linter.unusedSimpArgs false
section
variable {P : Program} {W : Env} {n : Nat} {H : PHeap} {ops : Array Oper}

def isMove (o : Oper) : Bool := o.guard.isNone && (match o.op with | .move _ => true | .assign _ => true | _ => false)
def moveOf (o : Oper) (F : PFrame) : PFrame := match o.op with
  | .move x | .assign x => F.put o.dst (evP F x)
  | _ => F
def movesF (l : List Oper) (F : PFrame) : PFrame := l.foldl (fun F o => moveOf o F) F
def markL : List Oper → Nat → Array Bool → Array Bool
  | [], _, a => a
  | _ :: l, k, a => markL l (k + 1) (a.setIfInBounds k true)
/-- the first operations, one behind the other, are moves that may come up then -/
def movesB (ops : Array Oper) : List Oper → Nat → Array Bool → Bool
  | [], _, _ => true
  | o :: l, k, listed => isMove o && (Region.ready .any ops listed).contains k && Region.free .any ops listed k && movesB ops l (k + 1) (listed.setIfInBounds k true)

theorem moves_first {Q : Exit → Act → World → Prop} (hQ : ∀ c a w, ¬ Q (.panic c) a w) (hsel : Region.noSelect ops = true) {V : Nat → Value} {w : World} : ∀ (l : List Oper) (k fuel : Nat) (listed : Array Bool) (F : PFrame) (a : Act), (∀ j, j < l.length → l[j]? = ops[k + j]?) → (∀ o ∈ l, dstOk n o) → movesB ops l k listed = true → Rel P W n F H V a w →
    (∀ a', Rel P W n (movesF l F) H V a' w → wpAny P .any ops Q fuel (markL l k listed) a' w) → wpAny P .any ops Q (l.length + fuel) listed a w
  | [], k, fuel, listed, F, a, _, _, _, hr, h => by have h2 := h a hr; simpa [markL, movesF] using h2
  | o :: l, k, fuel, listed, F, a, hl, hd, hB, hr, h => by
    have h0 : ops[k]? = some o := by simpa using (hl 0 (by simp)).symm
    simp only [movesB, Bool.and_eq_true] at hB
    obtain ⟨⟨⟨hm, hrd⟩, hf⟩, hB'⟩ := hB
    simp only [isMove, Bool.and_eq_true] at hm
    have hmv : ∃ x, (o.op = .move x ∨ o.op = .assign x) ∧ moveOf o F = F.put o.dst (evP F x) := by
      have h2 := hm.2
      split at h2
      · rename_i x hx; exact ⟨x, .inl hx, by unfold moveOf; rw [hx]⟩
      · rename_i x hx; exact ⟨x, .inr hx, by unfold moveOf; rw [hx]⟩
      · cases h2
    obtain ⟨x, hx, hmo⟩ := hmv
    have hy : Yields P ops o (a.eval x) a := by
      refine .inl ⟨by unfold Region.wanted; cases hg : o.guard with | none => rfl | some g => rw [hg] at hm; simp at hm, fun w => ?_⟩
      unfold execOp
      rcases hx with hx | hx <;> rw [hx] <;> rfl
    rw [show (o :: l).length + fuel = (l.length + fuel) + 1 by simp; omega]
    refine wpAny_first h0 (Region.noSelect_spec hsel) (fun c a w hq => (hQ _ _ _ hq).elim) _ listed a w (Region.free_spec h0 hf) (by simpa using hrd) hy ?_
    refine moves_first hQ hsel l (k + 1) fuel _ (moveOf o F) _ (fun j hj => by have := hl (j + 1) (by simp; omega); simpa [Nat.add_assoc, Nat.add_comm 1 j] using this) (fun o' ho' => hd o' (by simp [ho'])) hB' ?_ h
    rw [hmo]
    exact hr.put (Below.refl _ _) o.dst (hd o (by simp)) (Rp.eval (P := P) x fun t _ => hr.slot t)

/-- what Q asks but no panic -/
def noPanic (Q : Exit → Act → World → Prop) : Exit → Act → World → Prop
  | .panic _, _, _ => False
  | e, a, w => Q e a w

theorem wpAny_mono {Q Q' : Exit → Act → World → Prop} (hq : ∀ e a w, Q e a w → Q' e a w) : ∀ (fuel : Nat) (listed : Array Bool) (a : Act) (w : World), wpAny P .any ops Q fuel listed a w → wpAny P .any ops Q' fuel listed a w
  | 0, _, _, _, h => ⟨h.1, hq _ _ _ h.2⟩
  | fuel + 1, listed, a, w, h => ⟨fun h0 => hq _ _ _ (h.1 h0), fun i hi => by
    have h1 := h.2 i hi
    unfold wpOp at *
    split
    · rename_i ho
      simp only [ho] at h1
      exact wpAny_mono hq fuel _ _ _ h1
    · rename_i o ho
      simp only [ho] at h1
      split
      · rename_i hw
        simp only [hw, if_true] at h1
        rcases h1 with h1 | ⟨h2, h3⟩
        · left
          unfold Oper.wp at *
          generalize (execOp a.eval o).run P w = r at *
          cases r with
          | ok nx w' =>
            cases nx <;> simp only [Oper.upon] at h1 ⊢
            case value u => exact wpAny_mono hq fuel _ _ _ h1
            case skip => exact wpAny_mono hq fuel _ _ _ h1
            case defer d => exact wpAny_mono hq fuel _ _ _ h1
            case enter f args =>
              refine h1.mono fun e w'' he => ?_
              cases e with
              | returned v => exact wpAny_mono hq fuel _ _ _ he
              | panicked c => exact hq _ _ _ he
              | outgrown => obtain ⟨a', w', hh⟩ := he; exact ⟨a', w', hq _ _ _ hh⟩
            case row row args => exact h1.mono fun v w'' he => wpAny_mono hq fuel _ _ _ he
          | halt x w' =>
            cases x <;> simp only [Oper.upon] at h1 ⊢
            exact hq _ _ _ h1
        · exact .inr ⟨h2, by obtain ⟨a', w', hh⟩ := h3; exact ⟨a', w', hq _ _ _ hh⟩⟩
      · rename_i hw
        simp only [hw] at h1
        exact wpAny_mono hq fuel _ _ _ h1⟩

/-- moves, then whatever order -/
theorem PC.regionMA {F : PFrame} {id : Nat} {l : List Oper} {Q : Exit → PFrame → PHeap → Prop} (p : Nat) (hm : P.follows .mixedOrders = true) (hp : p ≤ l.length) (hsel : Region.noSelect l.toArray = true) (hB : movesB l.toArray (l.take p) 0 (Array.replicate l.length false) = true) (hd : ∀ o ∈ l.take p, dstOk n o)
    (h : PA P W n l.toArray (Q .normal) (l.length - p) (markL (l.take p) 0 (Array.replicate l.length false)) (movesF (l.take p) F) H) : PC P W n (.region id l.toArray true) F H Q := fun V a w Q' hr hQ => by
  refine wp_region_any hm ?_
  refine wpAny_mono (Q := noPanic Q') (fun e a w h => by cases e <;> first | exact h | exact h.elim) _ _ _ _ ?_
  have := moves_first (P := P) (W := W) (n := n) (H := H) (V := V) (ops := l.toArray) (Q := noPanic Q') (fun c a w h => h) hsel (l.take p) 0 (l.length - p) (Array.replicate l.length false) F a (fun j hj => by
    have : j < p := by simp at hj; omega
    simp [this]) hd hB hr.drawn fun a' hr' => PA.sound (Q' := noPanic Q') (fun F H V a w hk hr => hQ _ _ _ _ _ _ hk hr) _ _ _ _ _ _ _ hr' h
  simpa [show min p l.length = p by omega, show p + (l.length - p) = l.length by omega] using this

/-! moves, then what only reads, then a tail -/
def sinkP (ops : Array Oper) (p m : Nat) : Bool := (List.range m).all fun i => decide (i < p) || (List.range (m + 1)).any fun j => decide (i < j) && Region.waitsFor .any ops j i

theorem tail_waitsP {p m : Nat} {listed : Array Bool} (hs : sinkP ops p m = true) (hc : Region.chainB .any ops m = true) (hn : m < ops.size) (inv : HeadInv .any ops m listed) :
    ∀ (d i : Nat), m - i = d → p ≤ i → i < m → listed.getD i true = false → ∀ t, m ≤ t → t ∉ Region.ready .any ops listed := by
  intro d
  induction d using Nat.strongRecOn with
  | _ d ih =>
    intro i hd hpi hi hun t ht hr
    obtain ⟨_, ot, hot, hall⟩ := mem_ready.1 hr
    have htlt : t < ops.size := (Array.getElem?_eq_some_iff.1 hot).1
    by_cases htn : t = m
    · subst htn
      have h1 := List.all_eq_true.1 hs i (List.mem_range.2 hi)
      simp only [Bool.or_eq_true, decide_eq_true_eq] at h1
      rcases h1 with h1 | h1
      · omega
      obtain ⟨j, hj, hj2⟩ := List.any_eq_true.1 h1
      simp only [Bool.and_eq_true, decide_eq_true_eq] at hj2
      obtain ⟨oj, hoj, e, he, hb, hon⟩ := Region.waitsFor_spec hj2.2
      have hjle : j ≤ t := by have := List.mem_range.1 hj; omega
      by_cases hjt : j = t
      · subst hjt
        have : oj = ot := Option.some.inj (hoj.symm.trans hot)
        subst this
        have h2 := hall e he hb
        rw [hon, getD_both hun] at h2
        cases h2
      · cases hl : listed.getD j false with
        | true =>
          have h2 := inv.closed j oj hoj hl e he hb
          rw [hon, getD_both hun] at h2
          cases h2
        | false =>
          have hjs : j < listed.size := by rw [inv.size]; omega
          exact ih (t - j) (by omega) j rfl (by omega) (by omega) (getD_in hjs hl) t (Nat.le_refl _) hr
    · have h1 := List.all_eq_true.1 hc t (List.mem_range.2 htlt)
      simp only [Bool.or_eq_true, decide_eq_true_eq] at h1
      rcases h1 with h1 | h1
      · omega
      · obtain ⟨o', ho', e, he, hb, hon⟩ := Region.waitsFor_spec h1
        have : o' = ot := Option.some.inj (ho'.symm.trans hot)
        subst this
        have h2 := hall e he hb
        rw [hon, getD_both (inv.tail (t - 1) (by omega) (by omega))] at h2
        cases h2

theorem wpAnyLP_first {p m i : Nat} {oi : Oper} {q : PV} {L : Array Bool → PFrame → Prop} (hi : ops[i]? = some oi)
    (hs : sinkP ops p m = true) (hc : Region.chainB .any ops m = true) (hn : m < ops.size) (hpi : p ≤ i) (hin : i < m)
    (hdone : ∀ listed F, L listed F → ∀ j ∈ Region.ready .any ops listed, m ≤ j) :
    ∀ (f : Nat) (listed : Array Bool) (F : PFrame), HeadInv .any ops m listed →
      (∀ j oj, ops[j]? = some oj → j ≠ i → listed.getD j true = false → (∀ e ∈ oj.after, Region.binds .any e = true → e.on ≠ i) → oi.apart ops oj = true) →
      i ∈ Region.ready .any ops listed → YieldsF P W n ops H oi q F →
      wpAnyLF P W n .any ops H m L f (listed.setIfInBounds i true) (F.put oi.dst q) → wpAnyLF P W n .any ops H m L (f + 1) listed F := by
  intro f
  induction f with
  | zero =>
    intro listed F inv _ hr hy Hh
    have hun := (mem_ready.1 hr).1
    refine ⟨fun h => (by rw [h] at hr; cases hr), fun j hj => ?_⟩
    have hjn : j < m := by
      rcases Nat.lt_or_ge j m with h | h
      · exact h
      · exact absurd hj (tail_waitsP hs hc hn inv _ i rfl hpi hin hun j h)
    refine ⟨hjn, ?_⟩
    by_cases hji : j = i
    · subst hji; exact hy.qOp hi Hh
    · have := hdone _ _ Hh j (ready_mono hj hji)
      omega
  | succ f ih =>
    intro listed F inv hfree hr hy Hh
    have hun := (mem_ready.1 hr).1
    refine ⟨fun h => (by rw [h] at hr; cases hr), fun j hj => ?_⟩
    have hjn : j < m := by
      rcases Nat.lt_or_ge j m with h | h
      · exact h
      · exact absurd hj (tail_waitsP hs hc hn inv _ i rfl hpi hin hun j h)
    refine ⟨hjn, ?_⟩
    by_cases hji : j = i
    · subst hji; exact hy.qOp hi Hh
    · have h1 := (Hh.2 j (ready_mono hj hji)).2
      obtain ⟨hjun, oj, hoj, hall⟩ := mem_ready.1 hj
      have hnot : ∀ e ∈ oj.after, Region.binds .any e = true → e.on ≠ i := fun e he hb heq => by
        have h1 := hall e he hb
        rw [heq, getD_both hun] at h1
        cases h1
      have h2 := qOpF_put hoj (hfree j oj hoj hji hjun hnot) hy h1
      have hfree' : ∀ k ok, ops[k]? = some ok → k ≠ i → (listed.setIfInBounds j true).getD k true = false →
          (∀ e ∈ ok.after, Region.binds .any e = true → e.on ≠ i) → oi.apart ops ok = true := fun k ok hk hki hun hno => by
        refine hfree k ok hk hki ?_ hno
        by_cases hjk : j = k
        · subst hjk; exact hjun
        · rw [getD_set_ne true hjk] at hun; exact hun
      refine qOpF_mono (fun F' h3 => ih (listed.setIfInBounds j true) F' (inv.set hj hjn) hfree' (ready_mono hr (Ne.symm hji)) h3.1 ?_) h2
      rw [Array.setIfInBounds_comm _ _ hji]
      exact h3.2

theorem wpAnyLP_lex {p m g : Nat} {Lq : PFrame → Prop} (hs : sinkP ops p m = true) (hc : Region.chainB .any ops m = true) (hn : m < ops.size) :
    ∀ (l : List Oper) (k : Nat) (listed : Array Bool) (F : PFrame), p ≤ k → (∀ j, j < l.length → l[j]? = ops[k + j]?) → k + l.length = m → HeadInv .any ops m listed →
      Region.lexHead .any ops g l.length k listed = true → wpQF P W n ops H Lq l F →
      wpAnyLF P W n .any ops H m (fun listed F => Region.seqB .any ops g m listed = true ∧ Lq F) l.length listed F
  | [], k, listed, F, _, _, hk, _, hB, h => by
    simp only [List.length_nil, Nat.add_zero] at hk
    subst hk
    exact ⟨by simpa [Region.lexHead] using hB, h⟩
  | o :: l, k, listed, F, hpk, hl, hk, inv, hB, h => by
    have h0 : ops[k]? = some o := by simpa using (hl 0 (by simp)).symm
    simp only [List.length_cons, Region.lexHead, Bool.and_eq_true] at hB
    obtain ⟨⟨hr, hf⟩, hB'⟩ := hB
    have hr' : k ∈ Region.ready .any ops listed := by simpa using hr
    have hkn : k < m := by simp only [List.length_cons] at hk; omega
    have hst : qOpF P W n ops H k (wpQF P W n ops H Lq l) F := by unfold qOpF; simp only [h0]; exact h
    obtain ⟨v, hy, hK⟩ := yieldsF_of_qOp h0 hst
    exact wpAnyLP_first h0 hs hc hn hpk hkn (fun listed F hL => seqB_ready hL.1) l.length listed F inv (Region.free_spec h0 hf) hr' hy
      (wpAnyLP_lex hs hc hn l (k + 1) _ _ (by omega) (fun j hj => by have := hl (j + 1) (by simp; omega); simpa [Nat.add_assoc, Nat.add_comm 1 j] using this) (by simp only [List.length_cons] at hk; omega) (inv.set hr' hkn) hB' hK)

theorem markL_inv {m : Nat} : ∀ (l : List Oper) (k : Nat) (listed : Array Bool), HeadInv .any ops m listed → movesB ops l k listed = true → k + l.length ≤ m → HeadInv .any ops m (markL l k listed)
  | [], _, _, inv, _, _ => inv
  | o :: l, k, listed, inv, hB, hk => by
    simp only [movesB, Bool.and_eq_true] at hB
    obtain ⟨⟨⟨_, hrd⟩, _⟩, hB'⟩ := hB
    simp only [List.length_cons] at hk
    exact markL_inv l (k + 1) _ (inv.set (by simpa using hrd) (by omega)) hB' (by omega)

/-- moves; what only reads; a tail in its one order -/
theorem PC.regionMT {F : PFrame} {id : Nat} {l : List Oper} {Q : Exit → PFrame → PHeap → Prop} (p m : Nat) (hm : P.follows .mixedOrders = true)
    (hB : (Region.noSelect l.toArray && decide (p ≤ m) && decide (m < l.length) && movesB l.toArray (l.take p) 0 (Array.replicate l.length false) && sinkP l.toArray p m && Region.chainB .any l.toArray m && Region.lexHead .any l.toArray (l.length - m) (m - p) p (markL (l.take p) 0 (Array.replicate l.length false))) = true)
    (hd : ∀ o ∈ l.take p, dstOk n o)
    (h : wpQF P W n l.toArray H (fun F' => PL P W n l.toArray (l.drop m) F' H (Q .normal)) ((l.take m).drop p) (movesF (l.take p) F)) : PC P W n (.region id l.toArray true) F H Q := fun V a w Q' hr hQ => by
  simp only [Bool.and_eq_true, decide_eq_true_eq] at hB
  obtain ⟨⟨⟨⟨⟨⟨hsel, hpm⟩, hml⟩, hmv⟩, hs⟩, hc⟩, hlex⟩ := hB
  refine wp_region_any hm ?_
  refine wpAny_mono (Q := noPanic Q') (fun e a w h => by cases e <;> first | exact h | exact h.elim) _ _ _ _ ?_
  have hlen2 : ((l.take m).drop p).length = m - p := by simp; omega
  have inv0 : HeadInv .any l.toArray m (Array.replicate l.length false) :=
    ⟨by simp, fun j oj _ hl => (by rw [getD_replicate_false] at hl; cases hl), fun t _ ht => getD_in (by simpa using ht) (getD_replicate_false _ _)⟩
  have inv1 := markL_inv (l.take p) 0 _ inv0 hmv (by simp; omega)
  have Hh := wpAnyLP_lex (P := P) (W := W) (n := n) (H := H) (ops := l.toArray) (g := l.length - m) hs hc (by simpa using hml) ((l.take m).drop p) p _ (movesF (l.take p) F) (Nat.le_refl _) (fun j hj => by
    rw [hlen2] at hj
    simp [show p + j < m by omega]) (by rw [hlen2]; omega) inv1 (by rw [hlen2]; exact hlex) h
  have := moves_first (P := P) (W := W) (n := n) (H := H) (V := V) (ops := l.toArray) (Q := noPanic Q') (fun c a w h => h) hsel (l.take p) 0 (l.length - p) (Array.replicate l.length false) F a (fun j hj => by
    have : j < p := by simp at hj; omega
    simp [this]) hd hmv hr.drawn fun a' hr' => by
      have h1 := wpAny_of_headF (md := .any) (Q' := noPanic Q') (g := l.length - m) (V := V) (fun listed F' a2 w2 hr2 hL => by
        have h2 := wpAny_of_seq (P := P) (md := .any) (Q' := noPanic Q') (l.drop m) m listed a2 w2 (fun j => by simp [List.getElem?_drop]) (by rw [show (l.drop m).length = l.length - m by simp]; exact hL.1) (hL.2 V a2 w2 (noPanic Q') hr2 fun F'' H'' V'' a'' w'' hk hr'' => hQ _ _ _ _ _ _ hk hr'')
        rwa [show (l.drop m).length = l.length - m by simp] at h2) _ _ _ _ _ hr' Hh
      rw [hlen2] at h1
      rwa [show m - p + (l.length - m) = l.length - p by omega] at h1
  simpa [show min p l.length = p by omega, show p + (l.length - p) = l.length by omega] using this
end
end Go.Proofs.Ythcckhpogmlgjaa.L

/-
  The logic of pure values: rows that may be nil; steps that name the new heap by what it holds.
-/
namespace Go.Proofs.Ythcckhpogmlgjaa.L
open Go Go.RowKit
set_option linter.unusedVariables false
set_option linter.unusedSimpArgs false

section
variable {H : PHeap}
@[go_sem] theorem okC_u (v : Value) : okC H (.u v) = v.oneCell' := rfl
@[go_sem] theorem okC_sl (k : Nat) (xs : List PV) : okC H (.sl k xs) = true := rfl
@[go_sem] theorem okC_rp (xs : List PV) : okC H (.rp xs) = true := rfl
@[go_sem] theorem okC_agg (xs : List PV) : okC H (.agg xs) = xs.all (leafOk H) := rfl
@[go_sem] theorem leafOk_u (v : Value) : leafOk H (.u v) = v.oneCell' := rfl
@[go_sem] theorem leafOk_sl (k : Nat) (xs : List PV) : leafOk H (.sl k xs) = true := rfl
@[go_sem] theorem leafOk_rp (xs : List PV) : leafOk H (.rp xs) = true := rfl
@[go_sem] theorem oneCell'_int (k : IntKind) (z : Int) : (Value.int k z).oneCell' = true := rfl
@[go_sem] theorem oneCell'_bool (b : Bool) : (Value.bool b).oneCell' = true := rfl
@[go_sem] theorem oneCell'_str (s : ByteArray) : (Value.string s).oneCell' = true := rfl
@[go_sem] theorem oneCell'_slice (a : Option Addr) (m c : Nat) : (Value.slice a m c).oneCell' = true := rfl
@[go_sem] theorem oneCell'_pointer (a : Option Addr) : (Value.pointer a).oneCell' = true := rfl
@[go_sem] theorem nilOfP_pp (id off ver : Nat) : nilOfP H (.pp id off ver) = (liveCells H id ver).map fun _ => false := rfl
@[go_sem] theorem ofV_bool (b : Bool) : ofV (.bool b) = .u (.bool b) := rfl
@[go_sem] theorem ofV_int (k : IntKind) (z : Int) : ofV (.int k z) = .u (.int k z) := rfl
@[go_sem] theorem ofV_str (s : ByteArray) : ofV (.string s) = .u (.string s) := rfl
def fillB (H : PHeap) (o : Option (List PV × List (Nat × Nat))) (parts : List (Nat × PV)) : Option PV :=
  match o with
  | none => none
  | some (zs, places) => if zs.all (leafOk H) then (fillP H places zs parts).map .agg else none
@[go_sem] theorem buildP_t {P : Program} (t : TypeId) (parts : List (Nat × PV)) : buildP P H t parts = fillB H (bldT P t) parts := rfl
@[go_sem] theorem fillB_some (zs : List PV) (places : List (Nat × Nat)) (parts : List (Nat × PV)) : fillB H (some (zs, places)) parts = if zs.all (leafOk H) then (fillP H places zs parts).map .agg else none := rfl
@[go_sem] theorem fillP_nil (places : List (Nat × Nat)) (cs : List PV) : fillP H places cs [] = some cs := by unfold fillP; rfl
@[go_sem] theorem fillP_cons (places : List (Nat × Nat)) (cs : List PV) (i : Nat) (p : PV) (rest : List (Nat × PV)) : fillP H places cs ((i, p) :: rest) = (places[i]?).elim none fun q => if p.cells.length = q.2 ∧ q.1 + q.2 ≤ cs.length ∧ okC H p = true then fillP H places (cs.take q.1 ++ p.cells ++ cs.drop (q.1 + p.cells.length)) rest else none := by
  rw [fillP]
  cases places[i]? <;> rfl
end

theorem PC.seqM {P : Program} {W : Env} {n : Nat} {F : PFrame} {H : PHeap} {Q : Exit → PFrame → PHeap → Prop} {x y : Code} (M : PFrame → PHeap → Prop) (h1 : PC P W n x F H (thenP M Q)) (h2 : ∀ F H, M F H → PC P W n y F H Q) : PC P W n (.seq x y) F H Q :=
  PC.seq fun K hK => h1.mono fun e F H h => by
    cases e <;> first | exact hK _ _ (h2 _ _ h) | exact h

/-- a row of the call's own, or nil when there is nothing in it -/
def rowV (m id ver : Nat) : PV := if m = 0 then .u (.slice none 0 0) else .ps id ver
def RowAt (H : PHeap) (e : TypeId) (k m id ver : Nat) (cs : List PV) : Prop := cs.length = m * k ∧ (m ≠ 0 → H id = ⟨ver, some (.row e k m cs)⟩)
theorem rowV_cells (m id ver : Nat) : (rowV m id ver).cells = [rowV m id ver] := by unfold rowV; split <;> rfl
theorem rowV_pos {m : Nat} (h : m ≠ 0) (id ver : Nat) : rowV m id ver = .ps id ver := if_neg h
theorem RowAt.leaf {H : PHeap} {e : TypeId} {k m id ver : Nat} {cs : List PV} (h : RowAt H e k m id ver cs) : leafOk H (rowV m id ver) = true := by
  unfold rowV
  split
  · rfl
  · rename_i hm
    simp [leafOk, liveRow, h.2 hm]
theorem RowAt.len {P : Program} {t : TypeId} {H : PHeap} {e : TypeId} {k m id ver : Nat} {cs : List PV} (ht : isSlice P t = true) (h : RowAt H e k m id ver cs) : lenP P H t (rowV m id ver) = some (I m) := by
  unfold rowV
  split
  · rename_i hm; subst hm; simp [lenP, ht, I]
  · rename_i hm
    simp [lenP, liveRow, h.2 hm, ht, I]
theorem RowAt.mono {H H' : PHeap} {e : TypeId} {k m id ver : Nat} {cs : List PV} (h : RowAt H e k m id ver cs) (he : H' id = H id) : RowAt H' e k m id ver cs := ⟨h.1, fun hm => by rw [he]; exact h.2 hm⟩

theorem PE.appendAt {P : Program} {W : Env} {n : Nat} {F : PFrame} {H : PHeap} {o : Oper} {s x : Operand} {t e : TypeId} {k b d id ver m m2 : Nat} {z : Value} {cs cs2 : List PV} {K : PV → PHeap → Prop} (ho : o.op = .call { callee := .builtin .append, args := #[s, x], argTypes := #[t, t] }) (hd : o.dst = some d) (hdn : d < n) (ht : selem P t = some (e, k, b, z))
    (hs : evP F s = rowV m id ver) (hr : RowAt H e k m id ver cs) (hx : srcP H k (evP F x) = some (m2, cs2)) (hleaf : ∀ p ∈ cs2, leafOk H p = true) (h63 : m + m2 ≤ maxLen) (hbytes : (m + m2) * b ≤ 140737488355328)
    (hk : ∀ ver', K (.ps id ver') (H.set id ⟨ver', some (.row e k (m + m2) (cs ++ cs2))⟩)) : PE P W n o F H K := by
  by_cases hm : m = 0
  · subst hm
    have hc : cs = [] := List.eq_nil_of_length_eq_zero (by simpa using hr.1)
    subst hc
    refine PE.appendNil (id := id) ho hd hdn ht (by rw [hs]; rfl) hx hleaf (by omega) (by simpa using hbytes) ?_
    have := hk ((H id).ver + 1)
    rwa [Nat.zero_add, List.nil_append] at this
  · exact PE.append ho hd hdn ht (by rw [hs, rowV_pos hm]) (by simp [liveRow, hr.2 hm]) hx hleaf h63 hbytes (hk _)

/-! steps that name the new heap by what it holds -/
section
variable {P : Program} {W : Env} {n : Nat} {F : PFrame} {H : PHeap} {o : Oper} {l : List Oper} {ops : Array Oper} {K : PFrame → PHeap → Prop}
theorem absH {K : PHeap → Prop} {id : Nat} {b : PBlk} (h : ∀ H', H' id = b → (∀ j, j ≠ id → H' j = H j) → K H') : K (H.set id b) := h _ (by simp [PHeap.set]) (fun j hj => by simp [PHeap.set, hj])

theorem PL.allocA {t : TypeId} {d : Nat} {us : List Value} {cs : List PV} (id : Nat) (hg : o.guard = none) (ho : o.op = .alloc t) (hd : o.dst = some d) (hdn : d < n) (hz : zeroC P t = some us) (h1 : us.all Value.oneCell' = true) (hc : us.map PV.u = cs)
    (h : ∀ ver H', H' id = ⟨ver, some (.box t cs)⟩ → (∀ j, j ≠ id → H' j = H j) → PL P W n ops l (F.put (some d) (.pp id 0 ver)) H' K) : PL P W n ops (o :: l) F H K := by
  subst hc
  refine PL.pe hg (PE.alloc (id := id) ho hd hdn hz h1 ?_)
  rw [hd]
  exact absH (h _)

theorem PL.boxA {t : TypeId} {x : Operand} {d : Nat} {v : PV} {cs : List PV} (id : Nat) (hg : o.guard = none) (ho : o.op = .box t x) (hd : o.dst = some d) (hdn : d < n) (hv : evP F x = v) (hok : okC H v = true) (hc : v.cells = cs)
    (h : ∀ ver H', H' id = ⟨ver, some (.box t cs)⟩ → (∀ j, j ≠ id → H' j = H j) → PL P W n ops l (F.put (some d) (.pp id 0 ver)) H' K) : PL P W n ops (o :: l) F H K := by
  subst hv; subst hc
  refine PL.pe hg (PE.box (id := id) ho hd hdn hok ?_)
  rw [hd]
  exact absH (h _)

theorem PL.storeA {t T : TypeId} {x y : Operand} {id off ver k : Nat} {ag : Bool} {cs cs' ps : List PV} {v : PV} (hg : o.guard = none) (ho : o.op = .store t x y) (hd : dstOk n o) (hx : evP F x = .pp id off ver) (hH : H id = ⟨ver, some (.box T cs)⟩) (ht : asz P t = some (ag, k)) (hv : evP F y = v) (hok : okC H v = true) (hvc : v.cells = ps) (hlen : ps.length = k) (hfit : off + k ≤ cs.length) (hcs : setMany cs off ps = cs')
    (h : ∀ H', H' id = ⟨ver, some (.box T cs')⟩ → (∀ j, j ≠ id → H' j = H j) → PL P W n ops l (F.put o.dst (.u undef)) H' K) : PL P W n ops (o :: l) F H K := by
  subst hv; subst hvc; subst hcs
  exact PL.pe hg (PE.store ho hd hx (cs := cs) (by simp [liveCells, hH]) ht hok hlen hfit (bd := .box T cs) (by rw [hH]) (absH h))

theorem PL.appendA {s x : Operand} {t e : TypeId} {k b d id ver m m2 : Nat} {z : Value} {cs cs2 : List PV} {px : PV} (hg : o.guard = none) (ho : o.op = .call { callee := .builtin .append, args := #[s, x], argTypes := #[t, t] }) (hd : o.dst = some d) (hdn : d < n) (ht : selem P t = some (e, k, b, z))
    (hs : evP F s = rowV m id ver) (hr : RowAt H e k m id ver cs) (hp : evP F x = px) (hx : srcP H k px = some (m2, cs2)) (hleaf : ∀ p ∈ cs2, leafOk H p = true) (h63 : m + m2 ≤ maxLen) (hbytes : (m + m2) * b ≤ 140737488355328)
    (h : ∀ ver' H', H' id = ⟨ver', some (.row e k (m + m2) (cs ++ cs2))⟩ → (∀ j, j ≠ id → H' j = H j) → PL P W n ops l (F.put (some d) (.ps id ver')) H' K) : PL P W n ops (o :: l) F H K := by
  subst hp
  refine PL.pe hg (PE.appendAt ho hd hdn ht hs hr hx hleaf h63 hbytes fun ver' => ?_)
  rw [hd]
  exact absH (h _)

theorem PL.buildSliceA {t e : TypeId} {k b len d : Nat} {z : Value} {parts : Array (Nat × Operand)} {ips : List (Nat × PV)} {cs : List PV} (id : Nat) (hg : o.guard = none) (ho : o.op = .buildSlice t len parts) (hd : o.dst = some d) (hdn : d < n) (ht : selem P t = some (e, k, b, z)) (hz : z.cells.toList.all Value.oneCell' = true) (hbig : len * k ≤ 16777216) (hmax : len ≤ maxLen)
    (hp : (parts.toList.map fun x => (x.1, evP F x.2)) = ips) (hlit : litOk H k len ips = true) (hc : (ips.map (·.2)).flatMap PV.cells = cs)
    (h : ∀ ver H', H' id = ⟨ver, some (.row e k len cs)⟩ → (∀ j, j ≠ id → H' j = H j) → PL P W n ops l (F.put (some d) (.ps id ver)) H' K) : PL P W n ops (o :: l) F H K := by
  subst hp; subst hc
  refine PL.pe hg (PE.buildSlice (id := id) ho hd hdn ht hz hbig hmax hlit ?_)
  rw [hd]
  have h' := h
  simp only [List.map_map, Function.comp_def] at h'
  exact absH (h' _)

theorem QF.buildSliceA {Q : PFrame → Prop} {t e : TypeId} {k b len d : Nat} {z : Value} {parts : Array (Nat × Operand)} {ips : List (Nat × PV)} {ps : List PV} (hg : o.guard = none) (ho : o.op = .buildSlice t len parts) (hd : o.dst = some d) (hdn : d < n) (ht : selem P t = some (e, k, b, z)) (hz : z.cells.toList.all Value.oneCell' = true) (hbig : len * k ≤ 16777216)
    (hp : (parts.toList.map fun x => (x.1, evP F x.2)) = ips) (hlit : litOk H k len ips = true) (hc : ips.map (·.2) = ps)
    (h : wpQF P W n ops H Q l (F.put (some d) (.sl k ps))) : wpQF P W n ops H Q (o :: l) F := by
  subst hp; subst hc
  refine QF.call hg (by intro d' hd'; rw [hd] at hd'; cases hd'; exact hdn) (PQ.buildSlice ho ht hz hbig hlit) ?_
  rw [hd]
  simpa only [List.map_map, Function.comp_def] using h
/-- a literal that is only read afterwards, in a region of one order -/
theorem PL.buildSliceR {t e : TypeId} {k b len d : Nat} {z : Value} {parts : Array (Nat × Operand)} {ips : List (Nat × PV)} {ps : List PV} (hg : o.guard = none) (ho : o.op = .buildSlice t len parts) (hd : o.dst = some d) (hdn : d < n) (ht : selem P t = some (e, k, b, z)) (hz : z.cells.toList.all Value.oneCell' = true) (hbig : len * k ≤ 16777216)
    (hp : (parts.toList.map fun x => (x.1, evP F x.2)) = ips) (hlit : litOk H k len ips = true) (hc : ips.map (·.2) = ps)
    (h : PL P W n ops l (F.put (some d) (.sl k ps)) H K) : PL P W n ops (o :: l) F H K := by
  subst hp; subst hc
  refine PL.pe hg (PE.quiet (by intro d' hd'; rw [hd] at hd'; cases hd'; exact hdn) (PQ.buildSlice ho ht hz hbig hlit) ?_)
  rw [hd]
  simpa only [List.map_map, Function.comp_def] using h
end
theorem leafB (H : PHeap) (b : Bool) : leafOk H (B b) = true := rfl
theorem leafI (H : PHeap) (z : Int) : leafOk H (I z) = true := rfl
theorem leafSl (H : PHeap) (k : Nat) (xs : List PV) : leafOk H (.sl k xs) = true := rfl
theorem leafNil (H : PHeap) : leafOk H (.u (.slice none 0 0)) = true := rfl
end Go.Proofs.Ythcckhpogmlgjaa.L

/-
  An own row that is only read from now on; rows that may be nil; makes and stores that name the new heap.
-/
namespace Go.Proofs.Ythcckhpogmlgjaa.L
open Go Go.RowKit
set_option linter.unusedVariables false
set_option linter.unusedSimpArgs false

section
variable {P : Program} {W : Env} {n : Nat} {F : PFrame} {H : PHeap} {V : Nat → Value} {w : World}

theorem pz_drop {Z : ZM} {id v b : Nat} (h : PZ Z (H.set id ⟨v, none⟩) V b) : PZ Z H V b := by
  rcases h with h | ⟨i, h1, h2⟩
  · exact .inl h
  · by_cases e : i = id
    · subst e; simp [PHeap.set] at h1
    · exact .inr ⟨i, by simpa [PHeap.set, e] using h1, h2⟩
theorem Rp.drop {Z : ZM} {id v : Nat} (hv : (H id).ver ≤ v) {p : PV} {u : Value} (h : Rp Z H V w p u) : Rp Z (H.set id ⟨v, none⟩) V w p u :=
  h.mono (fun b hb hlt => ⟨fun hz => hb (pz_drop hz), hlt, rfl⟩) (Nat.le_refl _) (fun i => by
    by_cases e : i = id
    · subst e; simpa [PHeap.set] using hv
    · simp [PHeap.set, e]) (fun i ver _ h1 h2 => by
    by_cases e : i = id
    · subst e; simp [PHeap.set] at h1
    · simp [PHeap.set, e] at h1 h2
      exact ⟨h1, h2, rfl⟩)
theorem HRel.drop {id v : Nat} (hv : (H id).ver ≤ v) (hr : HRel P W H V w) : HRel P W (H.set id ⟨v, none⟩) V w := by
  have ne : ∀ {i : Nat} {bd : PBody}, ((H.set id ⟨v, none⟩) i).body = some bd → (H i).body = some bd ∧ i ≠ id := fun {i bd} h => by
    by_cases e : i = id
    · subst e; simp [PHeap.set] at h
    · exact ⟨by simpa [PHeap.set, e] using h, e⟩
  refine ⟨hr.below, fun i t k m cs h => ?_, fun i t cs h => ?_, fun i => (hr.ghost i).drop hv, fun i j g h1 h2 => ?_⟩
  · obtain ⟨vals, ho, hR, h1⟩ := hr.row i t k m cs (ne h).1
    exact ⟨vals, ho, hR.mono fun p u hp => hp.drop hv, h1⟩
  · obtain ⟨g, arr, e, hg, hh, hR, h1⟩ := hr.box i t cs (ne h).1
    exact ⟨g, arr, e, hg, hh, hR.mono fun p u hp => hp.drop hv, h1⟩
  · have f1 : ∀ {i : Nat}, ((H.set id ⟨v, none⟩) i).body.isSome = true → (H i).body.isSome = true := fun {i} h => by
      cases hb : ((H.set id ⟨v, none⟩) i).body with
      | none => rw [hb] at h; cases h
      | some bd => rw [(ne hb).1]; rfl
    exact hr.apart i j g (f1 h1) (f1 h2)

/-- an own row, seen as one that is only read -/
theorem HRel.seen {id ver t k m : Nat} {cs : List PV} (hr : HRel P W H V w) (hH : H id = ⟨ver, some (.row t k m cs)⟩) (xs : List PV) (hx : xs.flatMap PV.cells = cs) (hu : ∀ y ∈ xs, y.cells.length = k) (hm : xs.length = m) :
    Rp W.Z (H.set id ⟨ver + 1, none⟩) V w (.sl k xs) (V id) := by
  have hvle : (H id).ver ≤ ver + 1 := by rw [hH]; exact Nat.le_succ _
  have hb : (H id).body = some (.row t k m cs) := by rw [hH]
  obtain ⟨vals, ho, hR, _⟩ := hr.row id t k m cs hb
  have hlen := ho.1
  rcases ho.2 with ⟨e, hn0⟩ | ⟨g, cap, cur, e, hg, hh2, hcap, _, _, htake⟩
  · have : xs = [] := List.eq_nil_of_length_eq_zero (by omega)
    rw [e, this]
    exact .nil _ _ _
  · have hblk : blockOf (V id) = some g := by rw [e]; rfl
    have hz : ¬ PZ W.Z (H.set id ⟨ver + 1, none⟩) V g := fun hz => by
      rcases hz with hz | ⟨i, h1, h2⟩
      · exact Env.not_own hr (by rw [hb]; rfl) hblk hz
      · by_cases ei : i = id
        · subst ei; simp [PHeap.set] at h1
        · exact ei (hr.apart i id g (by simpa [PHeap.set, ei] using h1) (by rw [hb]; rfl) h2 hblk)
    have hcell : ∀ (i : Nat) (q : PV), (xs.flatMap PV.cells)[i]? = some q → ∃ u, vals[i]? = some u ∧ w.cell? ⟨g, 0 + i, none⟩ = some u ∧ Rp W.Z (H.set id ⟨ver + 1, none⟩) V w q u := fun i q hq => by
      rw [hx] at hq
      have hlt := (List.getElem?_eq_some_iff.1 hq).1
      have hi1 : i < vals.length := by rw [← hR.1]; exact hlt
      refine ⟨vals[i], List.getElem?_eq_getElem hi1, ?_, (hR.2 i _ _ hq (List.getElem?_eq_getElem hi1)).drop hvle⟩
      have := ho.cells (g := g) (by rw [e]; rfl) i _ (List.getElem?_eq_getElem hi1)
      rwa [addr_add] at this
    have := Rp.sl (Z := W.Z) (H := H.set id ⟨ver + 1, none⟩) (V := V) (w := w) k xs g 0 cap (fun i => (vals[i]?).getD undef) hu (by omega) hz (Array.getElem?_eq_some_iff.1 hh2).1 (fun i q hq => by
      obtain ⟨u, h1, h2, _⟩ := hcell i q hq
      rw [h1]; exact h2) (fun i q hq => by
      obtain ⟨u, h1, _, h3⟩ := hcell i q hq
      simp only [h1, Option.getD_some]; exact h3)
    rw [hm] at this
    rw [e]
    exact this

theorem Rel.freeze {a : Act} {s id ver t k m : Nat} {cs : List PV} (hr : Rel P W n F H V a w) (hs : F s = .ps id ver) (hH : H id = ⟨ver, some (.row t k m cs)⟩) (xs : List PV) (hx : xs.flatMap PV.cells = cs) (hu : ∀ y ∈ xs, y.cells.length = k) (hm : xs.length = m) :
    Rel P W n (F.put (some s) (.sl k xs)) (H.set id ⟨ver + 1, none⟩) V a w := by
  have hvle : (H id).ver ≤ ver + 1 := by rw [hH]; exact Nat.le_succ _
  refine ⟨hr.heap.drop hvle, hr.size, hr.defers, fun t => ?_⟩
  by_cases e : s = t
  · subst e
    have hsv : a.tmps.getD s undef = V id := by
      have := hr.slot s
      rw [hs] at this
      generalize a.tmps.getD s undef = q at this
      cases this with
      | ps _ _ _ hvv hh => exact hh (by rw [hH]; rfl) (by rw [hH])
    rw [hsv]
    simp only [PFrame.put, if_true]
    exact hr.heap.seen hH xs hx hu hm
  · have e2 : ¬ (some s = some t) := by simpa using e
    simp only [PFrame.put, if_neg e2]
    exact (hr.slot t).drop hvle

theorem PL.freeze {ops : Array Oper} {l : List Oper} {K : PFrame → PHeap → Prop} {id ver t k m : Nat} {cs : List PV} (s : Nat) (xs : List PV) (hs : F s = .ps id ver) (hH : H id = ⟨ver, some (.row t k m cs)⟩) (hx : xs.flatMap PV.cells = cs) (hu : ∀ y ∈ xs, y.cells.length = k) (hm : xs.length = m)
    (h : ∀ H', (∀ j, j ≠ id → H' j = H j) → PL P W n ops l (F.put (some s) (.sl k xs)) H' K) : PL P W n ops l F H K := fun V a w Q hr hQ =>
  h (H.set id ⟨ver + 1, none⟩) (fun j hj => by simp [PHeap.set, hj]) V a w Q (hr.freeze hs hH xs hx hu hm) hQ
theorem PC.freeze {c : Code} {Q : Exit → PFrame → PHeap → Prop} {id ver t k m : Nat} {cs : List PV} (s : Nat) (xs : List PV) (hs : F s = .ps id ver) (hH : H id = ⟨ver, some (.row t k m cs)⟩) (hx : xs.flatMap PV.cells = cs) (hu : ∀ y ∈ xs, y.cells.length = k) (hm : xs.length = m)
    (h : ∀ H', (∀ j, j ≠ id → H' j = H j) → PC P W n c (F.put (some s) (.sl k xs)) H' Q) : PC P W n c F H Q := fun V a w Q' hr hQ =>
  h (H.set id ⟨ver + 1, none⟩) (fun j hj => by simp [PHeap.set, hj]) V a w Q' (hr.freeze hs hH xs hx hu hm) hQ

variable {o : Oper} {l : List Oper} {ops : Array Oper} {K : PFrame → PHeap → Prop}
theorem PL.makeSliceA {t e : TypeId} {b d m : Nat} {z : Value} {x y : Operand} {kx ky : IntKind} (id : Nat) (hg : o.guard = none) (ho : o.op = .makeSlice t x y) (hd : o.dst = some d) (hdn : d < n) (ht : selem P t = some (e, 1, b, z)) (h1z : z.oneCell' = true)
    (hx : evP F x = .u (.int kx (m : Int))) (hy : evP F y = .u (.int ky (m : Int))) (hmax : m ≤ maxLen) (hbytes : b * m ≤ 281474976710656)
    (h : ∀ ver H', H' id = ⟨ver, some (.row e 1 m (List.replicate m (.u z)))⟩ → (∀ j, j ≠ id → H' j = H j) → PL P W n ops l (F.put (some d) (.ps id ver)) H' K) : PL P W n ops (o :: l) F H K := by
  refine PL.pe hg (PE.makeSlice (id := id) ho hd hdn ht h1z hx hy hmax hbytes ?_)
  rw [hd]
  exact absH (h _)
theorem PL.storeR {t e : TypeId} {x y : Operand} {id off ver k m r : Nat} {ag : Bool} {cs cs' ps : List PV} {v : PV} (hg : o.guard = none) (ho : o.op = .store t x y) (hd : dstOk n o) (hx : evP F x = .pp id off ver) (hH : H id = ⟨ver, some (.row e r m cs)⟩) (ht : asz P t = some (ag, k)) (hv : evP F y = v) (hok : okC H v = true) (hvc : v.cells = ps) (hlen : ps.length = k) (hfit : off + k ≤ cs.length) (hcs : setMany cs off ps = cs')
    (h : ∀ H', H' id = ⟨ver, some (.row e r m cs')⟩ → (∀ j, j ≠ id → H' j = H j) → PL P W n ops l (F.put o.dst (.u undef)) H' K) : PL P W n ops (o :: l) F H K := by
  subst hv; subst hvc; subst hcs
  exact PL.pe hg (PE.store ho hd hx (cs := cs) (by simp [liveCells, hH]) ht hok hlen hfit (bd := .row e r m cs) (by rw [hH]) (absH h))

/-- a row of the call's own that may be nil -/
def OwnS (H : PHeap) (e k id : Nat) (q : PV) (m : Nat) (cs : List PV) : Prop := cs.length = m * k ∧ ((q = .u (.slice none 0 0) ∧ m = 0) ∨ ∃ ver, q = .ps id ver ∧ H id = ⟨ver, some (.row e k m cs)⟩)
theorem OwnS.nil (H : PHeap) (e k id : Nat) : OwnS H e k id (.u (.slice none 0 0)) 0 [] := ⟨by simp, .inl ⟨rfl, rfl⟩⟩
theorem OwnS.row {e k id ver m : Nat} {cs : List PV} (h : H id = ⟨ver, some (.row e k m cs)⟩) (hl : cs.length = m * k) : OwnS H e k id (.ps id ver) m cs := ⟨hl, .inr ⟨ver, rfl, h⟩⟩
theorem OwnS.mono {H' : PHeap} {e k id m : Nat} {q : PV} {cs : List PV} (h : OwnS H e k id q m cs) (he : H' id = H id) : OwnS H' e k id q m cs := ⟨h.1, h.2.imp (fun h => h) fun ⟨v, h1, h2⟩ => ⟨v, h1, he.trans h2⟩⟩
theorem OwnS.pos {e k id m : Nat} {q : PV} {cs : List PV} (h : OwnS H e k id q m cs) (hm : m ≠ 0) : ∃ ver, q = .ps id ver ∧ H id = ⟨ver, some (.row e k m cs)⟩ := by
  rcases h.2 with ⟨_, h0⟩ | h
  · exact absurd h0 hm
  · exact h
theorem OwnS.len {t : TypeId} {e k id m : Nat} {q : PV} {cs : List PV} (ht : isSlice P t = true) (h : OwnS H e k id q m cs) : lenP P H t q = some (I m) := by
  rcases h.2 with ⟨rfl, rfl⟩ | ⟨v, rfl, h2⟩
  · simp [lenP, ht, I]
  · simp [lenP, liveRow, h2, ht, I]
theorem OwnS.leaf {e k id m : Nat} {q : PV} {cs : List PV} (h : OwnS H e k id q m cs) : leafOk H q = true := by
  rcases h.2 with ⟨rfl, _⟩ | ⟨v, rfl, h2⟩
  · rfl
  · simp [leafOk, liveRow, h2]
theorem OwnS.view {e k id m : Nat} {q : PV} {cs : List PV} (h : OwnS H e k id q m cs) (xs : List PV) (hn : xs.length = m) (hu : ∀ y ∈ xs, y.cells.length = k) (hv : ∀ (i : Nat) (p r : PV), cs[i]? = some p → (xs.flatMap PV.cells)[i]? = some r → View H p r) : View H q (.sl k xs) := by
  rcases h.2 with ⟨rfl, h0⟩ | ⟨v, rfl, h2⟩
  · have : xs = [] := List.eq_nil_of_length_eq_zero (by omega)
    subst this
    exact View.nil _ _ _
  · exact View.row (t := e) (k := k) (n := m) (cs := cs) (by simp [liveRow, h2]) xs hn hu hv
/-- a row whose cells are told without the call's heap -/
theorem OwnS.viewN {e k id m : Nat} {q : PV} {cs : List PV} (h : OwnS H e k id q m cs) (xs : List PV) (hn : xs.length = m) (hu : ∀ y ∈ xs, y.cells.length = k) (hx : xs.flatMap PV.cells = cs) (hv : ∀ c ∈ cs, NoP c) : View H q (.sl k xs) :=
  h.view xs hn hu fun i p r h1 h2 => by
    rw [hx, h1] at h2
    cases h2
    exact View.noP (hv p (List.mem_of_getElem? h1))
theorem PL.appendO {s x : Operand} {t e : TypeId} {k b d id m m2 : Nat} {z : Value} {cs cs2 : List PV} {q px : PV} (hg : o.guard = none) (ho : o.op = .call { callee := .builtin .append, args := #[s, x], argTypes := #[t, t] }) (hd : o.dst = some d) (hdn : d < n) (ht : selem P t = some (e, k, b, z))
    (hs : evP F s = q) (hr : OwnS H e k id q m cs) (hp : evP F x = px) (hx : srcP H k px = some (m2, cs2)) (hc2 : cs2.length = m2 * k) (hleaf : ∀ p ∈ cs2, leafOk H p = true) (h63 : m + m2 ≤ maxLen) (hbytes : (m + m2) * b ≤ 140737488355328)
    (h : ∀ q' H', OwnS H' e k id q' (m + m2) (cs ++ cs2) → (∀ j, j ≠ id → H' j = H j) → PL P W n ops l (F.put (some d) q') H' K) : PL P W n ops (o :: l) F H K := by
  rcases hr.2 with ⟨rfl, rfl⟩ | ⟨ver, rfl, hH⟩
  · have hc : cs = [] := List.eq_nil_of_length_eq_zero (by simpa using hr.1)
    subst hc
    exact PL.appendA (id := id) (ver := 0) (m := 0) hg ho hd hdn ht hs ⟨by simp, fun h => absurd rfl h⟩ hp hx hleaf h63 hbytes fun ver' H' b1 o1 => h _ H' (.row b1 (by simp [hc2])) o1
  · subst hp
    refine PL.pe hg (PE.append (cs := cs) ho hd hdn ht hs (by simp [liveRow, hH]) hx hleaf h63 hbytes ?_)
    rw [hd]
    exact absH fun H' b1 o1 => h _ H' (.row b1 (by rw [List.length_append, hr.1, hc2, Nat.add_mul])) o1
end
/-! numbers: kinds turned, quotients, rests, shifts -/
def ikind (P : Program) (t : TypeId) : Option IntKind := match P.underlying t with | some (.int k) => some k | _ => none
section
variable {P : Program} {t : TypeId} {x y : Operand} {k : IntKind} {a b : Int}
theorem ikind_spec {t : TypeId} (h : ikind P t = some k) : P.underlying t = some (.int k) := by
  unfold ikind at h
  split at h
  · cases h; assumption
  · cases h
@[go_sem] theorem convP_int {s d : TypeId} {k k' : IntKind} {n : Int} (hs : (ikind P s).isSome = true) (hd : ikind P d = some k) : convP P s d (.u (.int k' n)) = some (.u (.int k (k.wrap n))) := by
  obtain ⟨ks, hks⟩ := Option.isSome_iff_exists.1 hs
  have : (convert s d (.int k' n)).val P = some (.int k (k.wrap n)) := by
    have e1 : (underlying s).val P = some (.int ks) := by simp [underlying, program, val_bind, Sem.val, ikind_spec hks]; rfl
    have e2 : (underlying d).val P = some (.int k) := by simp [underlying, program, val_bind, Sem.val, ikind_spec hd]; rfl
    simp only [convert, val_bind, e1, e2, Option.bind_some, Conv.intToInt, val_pure]
  simp [convP, PV.val2, this, ofV]
@[go_sem] theorem wrap_i64_of {n : Int} (h1 : -9223372036854775808 ≤ n) (h2 : n ≤ 9223372036854775807) : IntKind.i64.wrap n = n := i64_wrap h1 h2
@[go_sem] theorem wrap_u64_of {n : Int} (h1 : 0 ≤ n) (h2 : n < 18446744073709551616) : IntKind.u64.wrap n = n := by simp [IntKind.wrap, IntKind.bits, IntKind.signed]; omega
@[go_sem] theorem wrap_u8_of {n : Int} (h1 : 0 ≤ n) (h2 : n < 256) : IntKind.u8.wrap n = n := by simp [IntKind.wrap, IntKind.bits, IntKind.signed]; omega
@[go_sem] theorem binP_quo (h0 : 0 ≤ a) (hb : 0 < b) : binP P .quo t x y (.u (.int k a)) (.u (.int k b)) = some (.u (.int k (k.wrap (a / b)))) := by
  have : a.tdiv b = a / b := Int.tdiv_eq_ediv_of_nonneg h0
  simp [binP, PV.val2, eqGuard, binOp, val_bind, val_pure, Op.intDiv, ofV, this, show ¬ b = 0 by omega]
@[go_sem] theorem binP_rem (h0 : 0 ≤ a) (hb : 0 < b) : binP P .rem t x y (.u (.int k a)) (.u (.int k b)) = some (.u (.int k (a % b))) := by
  have : a.tmod b = a % b := Int.tmod_eq_emod_of_nonneg h0
  simp [binP, PV.val2, eqGuard, binOp, val_bind, val_pure, Op.intDiv, ofV, this, show ¬ b = 0 by omega]
@[go_sem] theorem binP_shr {k' : IntKind} (h0 : 0 ≤ b) : binP P .shr t x y (.u (.int k a)) (.u (.int k' b)) = some (.u (.int k (a / 2 ^ min b.toNat k.bits))) := by
  have : a.fdiv (2 ^ min b.toNat k.bits) = a / 2 ^ min b.toNat k.bits := Int.fdiv_eq_ediv_of_nonneg _ (Int.le_of_lt (Int.pow_pos (by decide)))
  simp [binP, PV.val2, eqGuard, binOp, val_bind, val_pure, Op.shift, ofV, this, show ¬ b < 0 by omega]
end
/-! what holds behind the second, or third, of parts in a row -/
section
variable {P : Program} {W : Env} {n : Nat} {F : PFrame} {H : PHeap} {Q : Exit → PFrame → PHeap → Prop} {a b c d : Code}
theorem PC.cut2 (M : PFrame → PHeap → Prop) (h1 : PC P W n a F H (thenP (fun F H => PC P W n b F H (thenP M Q)) Q)) (h2 : ∀ F H, M F H → PC P W n c F H Q) : PC P W n (.seq a (.seq b c)) F H Q :=
  PC.seq fun K hK => h1.mono fun e F H h => by
    cases e with
    | normal => exact hK F H (PC.seqM M h h2)
    | _ => exact h
theorem PC.cut3 (M : PFrame → PHeap → Prop) (h1 : PC P W n a F H (thenP (fun F H => PC P W n b F H (thenP (fun F H => PC P W n c F H (thenP M Q)) Q)) Q)) (h2 : ∀ F H, M F H → PC P W n d F H Q) : PC P W n (.seq a (.seq b (.seq c d))) F H Q :=
  PC.seq fun K hK => h1.mono fun e F H h => by
    cases e with
    | normal => exact hK F H (PC.cut2 M h h2)
    | _ => exact h
end
end Go.Proofs.Ythcckhpogmlgjaa.L

/-
  Fresh rows that a call hands out: told as such, forgotten to rows that are only read, taken over by the caller.
-/
namespace Go.Proofs.Ythcckhpogmlgjaa.L
open Go Go.RowKit
set_option linter.unusedVariables false
set_option linter.unusedSimpArgs false
section
variable {P : Program} {W : Env} {n : Nat} {H : PHeap} {F : PFrame} {ops : Array Oper} {o : Oper} {l : List Oper} {K : PFrame → PHeap → Prop}

@[go_sem] theorem cells_fr (t k : Nat) (xs : List PV) : (PV.fr t k xs).cells = [.fr t k xs] := rfl
@[go_sem] theorem okC_fr (t k : Nat) (xs : List PV) : okC H (.fr t k xs) = true := rfl
@[go_sem] theorem leafOk_fr (t k : Nat) (xs : List PV) : leafOk H (.fr t k xs) = true := rfl
theorem Rp.forget {Z : ZM} {V : Nat → Value} {w : World} {t : TypeId} {k : Nat} {xs : List PV} {v : Value} (h : Rp Z H V w (.fr t k xs) v) : Rp Z H V w (.sl k xs) v := by
  cases h with
  | fr t k xs v vals hu ho hz h1 h2 =>
    have hlen := ho.1
    rcases ho.2 with ⟨e, hn0⟩ | ⟨g, cap, cur, e, hg, hh2, hcap, _, _, htake⟩
    · have : xs = [] := List.eq_nil_of_length_eq_zero hn0
      rw [e, this]
      exact .nil _ _ _
    · have hfl : (xs.flatMap PV.cells).length = vals.length := by rw [flat_length xs hu, hlen]
      have hcell : ∀ (i : Nat) (q : PV), (xs.flatMap PV.cells)[i]? = some q → ∃ u, vals[i]? = some u ∧ w.cell? ⟨g, 0 + i, none⟩ = some u ∧ Rp Z H V w q u := fun i q hq => by
        have hlt := (List.getElem?_eq_some_iff.1 hq).1
        have hi1 : i < vals.length := by omega
        refine ⟨vals[i], List.getElem?_eq_getElem hi1, ?_, h2 i _ _ hq (List.getElem?_eq_getElem hi1)⟩
        have := ho.cells (g := g) (by rw [e]; rfl) i _ (List.getElem?_eq_getElem hi1)
        rwa [addr_add] at this
      have := Rp.sl (Z := Z) (H := H) (V := V) (w := w) k xs g 0 cap (fun i => (vals[i]?).getD undef) hu hcap (hz g (by rw [e]; rfl)) (Array.getElem?_eq_some_iff.1 hh2).1 (fun i q hq => by
        obtain ⟨u, h1, h2, _⟩ := hcell i q hq
        rw [h1]; exact h2) (fun i q hq => by
        obtain ⟨u, h1, _, h3⟩ := hcell i q hq
        simp only [h1, Option.getD_some]; exact h3)
      rw [e]
      exact this
theorem View.fr {t : TypeId} {k : Nat} {xs : List PV} (h : NoP (.fr t k xs)) : View H (.fr t k xs) (.sl k xs) := fun P W V w hr v hv => (View.noP h P W V w hr v hv).forget
theorem Rp.nilFr {Z : ZM} {V : Nat → Value} {w : World} {t : TypeId} {k : Nat} : Rp Z H V w (.fr t k []) (.slice none 0 0) :=
  .fr t k [] _ [] (fun y hy => by cases hy) (World.ownsRow_nil _ _ _ _) (fun b hb => by cases hb) (fun u hu => by cases hu) (fun i p u h => by simp at h)
theorem View.nilFr {t : TypeId} {k : Nat} : View H (.u (.slice none 0 0)) (.fr t k []) := fun P W V w hr v hv => by cases hv; exact Rp.nilFr
/-- a contract, its result only read -/
theorem PCall.forget {f : FuncId} {as : List PV} {t : TypeId} {k : Nat} {xs : List PV} (h : PCall P f as (· = .fr t k xs)) : PCall P f as (· = .sl k xs) := fun Z w vs hz hm hR =>
  (h Z w vs hz hm hR).mono fun e w' ⟨v, p, h1, h2, h3, h4, h5⟩ => by
    subst h2
    refine ⟨v, _, h1, rfl, ?_, h4.forget, h5⟩
    cases h3 with
    | fr _ _ _ h => exact .sl _ _ h
/-- a new row of its caller's own, told as fresh -/
theorem PCallOwn.fr {f : FuncId} {as : List PV} {t : TypeId} {m : Nat} {us : List Value} (h : PCallOwn P f as t 1 (fun a b => a = m ∧ b = us)) (hm : us.length = m) : PCall P f as (· = .fr t 1 (us.map .u)) := fun Z w vs hz hzm hR =>
  (h w vs ⟨hR.1, fun i p v h1 h2 => (hR.2 i p v h1 h2).mono (fun b hb hlt => ⟨fun hq => (pz_empty.1 hq).elim, hlt, rfl⟩) (Nat.zero_le _) (fun _ => Nat.le_refl _) (fun id ver _ h1 h2 => ⟨h1, h2, rfl⟩)⟩).mono fun e w' ⟨v, m', us', h1, h2, ho, h4, hb⟩ => by
    obtain ⟨rfl, rfl⟩ := h2
    refine ⟨v, _, h1, rfl, .fr _ _ _ fun c hc => by obtain ⟨z, _, rfl⟩ := List.mem_map.1 hc; exact .u _, ?_, hb⟩
    have hfl : (us'.map PV.u).flatMap PV.cells = us'.map .u := flat_u us'
    refine .fr t 1 _ v us' (fun y hy => by obtain ⟨z, _, rfl⟩ := List.mem_map.1 hy; rfl) ⟨by simp, ?_⟩ (fun b hb2 hz2 => ?_) h4 (fun i p u h5 h6 => ?_)
    · rcases ho.2 with ⟨e, h0⟩ | ⟨g, cap, cur, e, hg, r⟩
      · exact .inl ⟨e, by simpa [hm] using h0⟩
      · exact .inr ⟨g, cap, cur, by simpa [hm] using e, by omega, by simpa [hm] using r⟩
    · have := (ownsRow_lt ho hb2).1
      rcases pz_empty.1 hz2 with hz3
      have := hz b hz3
      omega
    · rw [hfl, List.getElem?_map, h6] at h5
      cases h5
      exact .u _
/-- a slot's fresh row, only read from here on -/
theorem Rel.forget {V : Nat → Value} {a : Act} {w : World} {s : Nat} {t : TypeId} {k : Nat} {xs : List PV} (hr : Rel P W n F H V a w) (hs : F s = .fr t k xs) : Rel P W n (F.put (some s) (.sl k xs)) H V a w :=
  ⟨hr.heap, hr.size, hr.defers, fun i => by
    by_cases e : s = i
    · subst e
      have := hr.slot s
      rw [hs] at this
      simp only [PFrame.put, if_true]
      exact this.forget
    · have e2 : ¬ (some s = some i) := by simpa using e
      simp only [PFrame.put, if_neg e2]
      exact hr.slot i⟩
theorem PC.forget {c : Code} {Q : Exit → PFrame → PHeap → Prop} {t : TypeId} {k : Nat} {xs : List PV} (s : Nat) (hs : F s = .fr t k xs) (h : PC P W n c (F.put (some s) (.sl k xs)) H Q) : PC P W n c F H Q := fun V a w Q' hr hQ => h V a w Q' (hr.forget hs) hQ
/-- a literal, fresh -/
theorem PQ.buildSliceF {t e : TypeId} {k b len : Nat} {z : Value} {parts : Array (Nat × Operand)} (ho : o.op = .buildSlice t len parts) (ht : selem P t = some (e, k, b, z)) (hz : z.cells.toList.all Value.oneCell' = true) (hbig : len * k ≤ 16777216) (hmax : len ≤ maxLen)
    (hlit : litOk H k len (parts.toList.map fun x => (x.1, evP F x.2)) = true) : PQ P W o F H (.fr e k (parts.toList.map fun x => evP F x.2)) := fun V a w hr hx => by
  have hp := RpParts.eval (W := W) (H := H) (V := V) (w := w) (F := F) (a := a) parts fun x hx' => Rp.eval (P := P) x.2 fun t ht => hx t (by
    rw [ho]
    simp only [Op.operands, List.mem_toArray, List.mem_map]
    exact ⟨x, hx', ht⟩)
  obtain ⟨arr, hrun, hR, h1, hsz, hlen⟩ := run_buildSlice hr ht hbig hp hlit hz
  have hex : (execOp a.eval o).run P w = .ok (.value (.slice (some ⟨w.heap.size, 0, none⟩) len len)) (w.alloc (.cells arr e)) := by
    simp [execOp, ho, hrun]
  have hb : Below w.heap.size w (w.alloc (.cells arr e)) := (Below.refl _ _).alloc (Nat.le_refl _) _
  refine wp_value hex ⟨_, rfl, ?_, hb⟩
  have hps : (parts.toList.map fun x => (x.1, evP F x.2)).map (·.2) = parts.toList.map fun x => evP F x.2 := by simp [List.map_map, Function.comp_def]
  rw [hps] at hR
  have hl2 : (parts.toList.map fun x => evP F x.2).length = len := by simpa using hlen
  simp only [litOk, Bool.and_eq_true, decide_eq_true_eq, List.all_eq_true] at hlit
  refine .fr e k _ _ arr.toList (fun y hy => ?_) ⟨by rw [hl2]; simpa using hsz, .inr ⟨w.heap.size, len, arr, by rw [hl2], Env.m_le hr, heap_alloc_new w _, by omega, hmax, hsz, ?_⟩⟩ (fun b hb2 hz => ?_) h1 (fun i p u h3 h4 => (hR.2 i p u h3 h4).grow hb)
  · obtain ⟨q, hq, rfl⟩ := List.mem_map.1 hy
    exact (hlit.2 (q.1, evP F q.2) (List.mem_map.2 ⟨q, hq, rfl⟩)).1
  · rw [hl2, ← hsz]
    exact List.take_of_length_le (by simp)
  · cases hb2
    rcases hz with hz | ⟨id, h3, h4⟩
    · exact Nat.lt_irrefl _ (Env.z_lt hr _ hz)
    · exact Nat.lt_irrefl _ (hr.own_lt h3 h4).2
/-- told without the call's own heap, and without fresh rows -/
inductive NoF : PV → Prop
  | u (v : Value) : NoF (.u v)
  | agg (cs : List PV) (h : ∀ c ∈ cs, NoF c) : NoF (.agg cs)
  | tup (cs : List PV) (h : ∀ c ∈ cs, NoF c) : NoF (.tup cs)
  | sl (k : Nat) (xs : List PV) (h : ∀ c ∈ xs, NoF c) : NoF (.sl k xs)
  | rp (cs : List PV) (h : ∀ c ∈ cs, NoF c) : NoF (.rp cs)
theorem NoF.cell {p c : PV} (h : NoF p) (hc : c ∈ p.cells) : NoF c := by
  cases h with
  | agg cs h => exact h c hc
  | u v => simp [PV.cells] at hc; subst hc; exact .u v
  | tup cs h => simp [PV.cells] at hc; subst hc; exact .tup cs h
  | sl k xs h => simp [PV.cells] at hc; subst hc; exact .sl k xs h
  | rp cs h => simp [PV.cells] at hc; subst hc; exact .rp cs h
theorem Rp.noF {Z Z' : ZM} {H H' : PHeap} {V V' : Nat → Value} {w : World} {p : PV} {v : Value} (h : Rp Z H V w p v) (hp : NoF p) (hz : ∀ b, b < w.heap.size → ¬ PZ Z H V b → ¬ PZ Z' H' V' b) : Rp Z' H' V' w p v := by
  induction h with
  | u v => exact .u v
  | unk v => cases hp
  | agg cs vs hl h ih =>
    cases hp with
    | agg _ hc => exact .agg cs vs hl fun i p v h1 h2 => ih i p v h1 h2 (hc p (List.mem_of_getElem? h1))
  | tup cs vs hl h ih =>
    cases hp with
    | tup _ hc => exact .tup cs vs hl fun i p v h1 h2 => ih i p v h1 h2 (hc p (List.mem_of_getElem? h1))
  | nil k a c => exact .nil k a c
  | sl k xs b o c g hu hlen hzz hb h1 h2 ih =>
    cases hp with
    | sl _ _ hc => exact .sl k xs b o c g hu hlen (hz b hb hzz) hb h1 fun i p hi => ih i p hi (by
        obtain ⟨y, hy, hpy⟩ := List.mem_flatMap.1 (List.mem_of_getElem? hi)
        exact (hc y hy).cell hpy)
  | fr t k xs v vals hu ho hzz h1 h2 ih => cases hp
  | rp cs b o g hzz hb h1 h2 ih =>
    cases hp with
    | rp _ hc => exact .rp cs b o g (hz b hb hzz) hb h1 fun i p hi => ih i p hi (hc p (List.mem_of_getElem? hi))
  | ps id ver v hv h => cases hp
  | qs id off k ver v hv h => cases hp
  | pp id off ver v hv h => cases hp
  | fn f a b va vb hla hlb ha hb iha ihb => cases hp

/-- a call whose fresh row becomes one of the caller's own -/
theorem PE.callF {o : Oper} {c : Call} {as : List PV} {f : FuncId} {t : TypeId} {kk d id : Nat} {xs : List PV} {k : PV → PHeap → Prop} (hd : o.dst = some d) (hdn : d < n) (ho : o.op = .call c) (ht : target F c = some (f, as)) (hf : goBody P f = true) (hn : ∀ p ∈ as, NoF p) (hc : PCall P f as (· = .fr t kk xs)) (hs : ∀ p ∈ xs.flatMap PV.cells, Sc p)
    (hk : k (.ps id ((H id).ver + 1)) (H.set id ⟨(H id).ver + 1, some (.row t kk xs.length (xs.flatMap PV.cells))⟩)) : PE P W n o F H k := fun V a w hr => by
  obtain ⟨vs, he, hR⟩ := run_target (P := P) (W := W) (H := H) (V := V) (a := a) (w := w) ho ht hf fun x hx' => Rp.eval (P := P) x fun t ht => hr.slot t
  have hsz := hr.heap.below.size
  have hlt : ∀ b, PZ W.Z H V b → b < w.heap.size := fun b hb => by
    rcases hb with hb | ⟨id, h1, h2⟩
    · exact Env.z_lt hr.heap b hb
    · exact (hr.heap.own_lt h1 h2).2
  have hR2 : RpL ⟨PZ W.Z H V, w.heap.size⟩ PHeap.empty V0 w as vs := ⟨hR.1, fun i p v h1 h2 => (hR.2 i p v h1 h2).noF (hn p (List.mem_of_getElem? h1)) fun b _ hz hz' => hz (pz_empty.1 hz')⟩
  refine wp_call he ((hc ⟨PZ W.Z H V, w.heap.size⟩ w vs hlt (Nat.le_refl _) hR2).mono fun e w' ⟨v, p, h1, h2, hnp, h3, hb⟩ => ⟨v, h1, ?_⟩)
  subst h2
  cases h3 with
  | fr _ _ _ _ vals hu ho2 hz h4 h5 =>
    refine ⟨_, _, setV V id v, hk, ?_⟩
    have hnew : ∀ g, blockOf v = some g → w.heap.size ≤ g := fun g hg => (ownsRow_lt ho2 hg).1
    have hown : w'.ownsRow W.w.heap.size t kk v xs.length vals := ⟨ho2.1, by
      rcases ho2.2 with h6 | ⟨g, cap, cur, e, hg, r⟩
      · exact .inl h6
      · exact .inr ⟨g, cap, cur, e, Nat.le_trans hsz hg, r⟩⟩
    have hturn := Turn.new (b' := ⟨(H id).ver + 1, some (.row t kk xs.length (xs.flatMap PV.cells))⟩) (id := id) (v0 := v) hr.heap hb rfl hnew
    refine hr.turn hturn (fun bd hbd => ?_) o.dst (fun t ht => by rw [hd] at ht; cases ht; exact hdn) ?_
    · cases hbd
      refine ⟨vals, hown, ⟨?_, fun i p u hi hj => ?_⟩, h4⟩
      · rw [flat_length xs hu, ho2.1]
      · exact (h5 i p u hi hj).sc (hs p (List.mem_of_getElem? hi))
    · refine .ps _ _ _ ?_ fun _ _ => ?_
      · simp [PHeap.set]
      · simp [setV]
theorem PL.buildSliceF {t e : TypeId} {k b len d : Nat} {z : Value} {parts : Array (Nat × Operand)} {ips : List (Nat × PV)} {ps : List PV} (hg : o.guard = none) (ho : o.op = .buildSlice t len parts) (hd : o.dst = some d) (hdn : d < n) (ht : selem P t = some (e, k, b, z)) (hz : z.cells.toList.all Value.oneCell' = true) (hbig : len * k ≤ 16777216) (hmax : len ≤ maxLen) (hp : (parts.toList.map fun x => (x.1, evP F x.2)) = ips) (hlit : litOk H k len ips = true) (hc : ips.map (·.2) = ps)
    (h : PL P W n ops l (F.put (some d) (.fr e k ps)) H K) : PL P W n ops (o :: l) F H K := by
  subst hp
  refine PL.pe hg (PE.quiet (fun t ht => by rw [hd] at ht; cases ht; exact hdn) (PQ.buildSliceF ho ht hz hbig hmax hlit) ?_)
  rw [hd]
  have : (parts.toList.map fun x => evP F x.2) = ps := by rw [← hc, List.map_map]; rfl
  rw [this]; exact h
end
end Go.Proofs.Ythcckhpogmlgjaa.L
