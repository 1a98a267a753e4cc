/-
  The run of code and of functions, and its proof.
-/
import Derived.Test.YtficeeaaaijgcaaLo
namespace Go.Proofs.Ytficeeaaaijgcaa.L
open Go Go.RowKit
set_option linter.unusedVariables false
set_option linter.unusedSimpArgs false
section
variable {P : Program} {W : Env} {n : Nat}

theorem codeE_sound {call : FuncId → List PV → Option Res} (hcall : ∀ f as r, call f as = some r → CRes P f as r) {sub : FuncId → List PV → List PBlk → Option (PV × List PBlk)} (hsub : SubOk P sub) (hm : P.follows .mixedOrders = true) : ∀ (N fuel : Nat), fuel ≤ N → ∀ (c : Code) (l l' : List PV) (h h' : List PBlk) (ex : Exit), l.length = n → codeE P call sub fuel c l h = some (ex, l', h') →
    l'.length = n ∧ ∀ {Q : Exit → PFrame → PHeap → Prop}, Q ex (frame0 l') (gH h') → PC P W n c (frame0 l) (gH h) Q
  | N, 0, _, c, l, l', h, h', ex, hl, e => by simp [codeE] at e
  | 0, fuel + 1, hN, c, l, l', h, h', ex, hl, e => by omega
  | N + 1, fuel + 1, hN, c, l, l', h, h', ex, hl, e => by
    have ih := fun c l l' h h' ex => codeE_sound hcall hsub hm N fuel (by omega) c l l' h h' ex
    cases c with
    | skip => simp only [codeE] at e; cases e; exact ⟨hl, fun hQ => PC.skip hQ⟩
    | ret => simp only [codeE] at e; cases e; exact ⟨hl, fun hQ => PC.ret hQ⟩
    | exit id => simp only [codeE] at e; cases e; exact ⟨hl, fun hQ => PC.exit hQ⟩
    | region id ops draw =>
      simp only [codeE] at e
      obtain ⟨⟨l2, h2⟩, hr, e⟩ := Option.map_eq_some_iff.1 e
      cases e
      have := fun Q hQ => regE_sound (W := W) (id := id) hcall hsub hm hl hr (Q := Q) hQ
      exact ⟨(this (fun _ _ _ => True) trivial).2, fun {Q} hQ => (this Q hQ).1⟩
    | seq a b =>
      simp only [codeE] at e
      split at e
      · rename_i l2 h2 ha
        obtain ⟨a1, a3⟩ := ih a l l2 h h2 .normal hl ha
        obtain ⟨b1, b3⟩ := ih b l2 l' h2 h' ex a1 e
        exact ⟨b1, fun {Q} hQ => PC.seq fun K hK => a3 (Q := thenP K Q) (hK _ _ (b3 hQ))⟩
      · rename_i l2 h2 ha
        cases e
        obtain ⟨a1, a3⟩ := ih a l l' h h' .ret hl ha
        exact ⟨a1, fun {Q} hQ => PC.seq fun K hK => a3 (Q := thenP K Q) hQ⟩
      · rename_i id l2 h2 ha
        cases e
        obtain ⟨a1, a3⟩ := ih a l l' h h' (.exit id) hl ha
        exact ⟨a1, fun {Q} hQ => PC.seq fun K hK => a3 (Q := thenP K Q) hQ⟩
      · cases e
    | cond c a b =>
      simp only [codeE] at e
      split at e
      · rename_i hc
        obtain ⟨a1, a3⟩ := ih a l l' h h' ex hl e
        exact ⟨a1, fun hQ => PC.condT hc (a3 hQ)⟩
      · rename_i hc
        obtain ⟨a1, a3⟩ := ih b l l' h h' ex hl e
        exact ⟨a1, fun hQ => PC.condF hc (a3 hQ)⟩
      · cases e
    | block id c =>
      simp only [codeE] at e
      split at e
      · rename_i l2 h2 ha
        cases e
        obtain ⟨a1, a3⟩ := ih c l l' h h' .normal hl ha
        exact ⟨a1, fun {Q} hQ => PC.block (a3 (Q := inBlockP id Q) hQ)⟩
      · rename_i l2 h2 ha
        cases e
        obtain ⟨a1, a3⟩ := ih c l l' h h' .ret hl ha
        exact ⟨a1, fun {Q} hQ => PC.block (a3 (Q := inBlockP id Q) hQ)⟩
      · rename_i id' l2 h2 ha
        split at e
        · rename_i hid
          cases e
          obtain ⟨a1, a3⟩ := ih c l l' h h' (.exit id') hl ha
          exact ⟨a1, fun {Q} hQ => PC.block (a3 (Q := inBlockP id Q) (by simp only [inBlockP]; rw [if_pos hid]; exact hQ))⟩
        · rename_i hid
          cases e
          obtain ⟨a1, a3⟩ := ih c l l' h h' (.exit id') hl ha
          exact ⟨a1, fun {Q} hQ => PC.block (a3 (Q := inBlockP id Q) (by simp only [inBlockP]; rw [if_neg hid]; exact hQ))⟩
      · cases e
    | loop c =>
      have hlen : ∀ (f : Nat), f ≤ N + 1 → ∀ (l : List PV) (h : List PBlk), l.length = n → codeE P call sub f (.loop c) l h = some (ex, l', h') → l'.length = n := by
        intro f
        induction f with
        | zero => intro _ l h _ e; simp [codeE] at e
        | succ f ihf =>
          intro hf l h hl e
          simp only [codeE] at e
          split at e
          · rename_i l2 h2 ha
            obtain ⟨a1, _⟩ := codeE_sound hcall hsub hm N f (by omega) c l l2 h h2 .normal hl ha
            exact ihf (by omega) l2 h2 a1 e
          · rename_i l2 h2 ha
            cases e
            obtain ⟨a1, _⟩ := codeE_sound hcall hsub hm N f (by omega) c l l' h h' .ret hl ha
            exact a1
          · rename_i id l2 h2 ha
            cases e
            obtain ⟨a1, _⟩ := codeE_sound hcall hsub hm N f (by omega) c l l' h h' (.exit id) hl ha
            exact a1
          · cases e
      have g1 := hlen (fuel + 1) hN l h hl e
      refine ⟨g1, fun {Q} hQ => ?_⟩
      refine PC.loop (fun m F H => m ≤ N + 1 ∧ ∃ l h, F = frame0 l ∧ H = gH h ∧ l.length = n ∧ codeE P call sub m (.loop c) l h = some (ex, l', h')) (m := fuel + 1) ⟨hN, l, h, rfl, rfl, hl, e⟩ fun m F H hI => ?_
      obtain ⟨hm', l, h, rfl, rfl, hl, e⟩ := hI
      cases m with
      | zero => simp [codeE] at e
      | succ f =>
        simp only [codeE] at e
        split at e
        · rename_i l2 h2 ha
          obtain ⟨a1, a3⟩ := codeE_sound hcall hsub hm N f (by omega) c l l2 h h2 .normal hl ha
          exact a3 ⟨f, by omega, by omega, l2, h2, rfl, rfl, a1, e⟩
        · rename_i l2 h2 ha
          cases e
          obtain ⟨a1, a3⟩ := codeE_sound hcall hsub hm N f (by omega) c l l' h h' .ret hl ha
          exact a3 hQ
        · rename_i id l2 h2 ha
          cases e
          obtain ⟨a1, a3⟩ := codeE_sound hcall hsub hm N f (by omega) c l l' h h' (.exit id) hl ha
          exact a3 hQ
        · cases e
    | _ => simp [codeE] at e

def resR (P : Program) (fn : Func) (l : List PV) (h : List PBlk) : Option Res :=
  match resP P fn (frame0 l) (gH h) with
  | some (.ps id ver) =>
    match liveRow (gH h) id ver with
    | some (t, k, m, cs) =>
      match cs.mapM leafV with
      | some us => some (.own t k m us)
      | none => (viewC (gH h) vdep (.ps id ver)).map .ro
    | none => none
  | some q => (viewC (gH h) vdep q).map .ro
  | none => none

/-- a function, carried out: by itself, or on its caller's heap -/
def runE (P : Program) (more : FuncId → List PV → Option Res) : Nat → (FuncId → List PV → Option Res) × (FuncId → List PV → List PBlk → Option (PV × List PBlk))
  | 0 => (fun _ _ => none, fun _ _ _ => none)
  | fuel + 1 =>
    (fun f as =>
      match more f as with
      | some r => some r
      | none =>
        match P.funcs[f]? with
        | some fn =>
          match fn.body with
          | some c =>
            if as.length ≤ fn.ntmps then
              match codeE P (runE P more fuel).1 (runE P more fuel).2 fuel c (as ++ List.replicate (fn.ntmps - as.length) (.u undef)) [] with
              | some (.normal, l, h) => resR P fn l h
              | some (.ret, l, h) => resR P fn l h
              | _ => none
            else none
          | none => none
        | none => none,
     fun f as h =>
        match P.funcs[f]? with
        | some fn =>
          match fn.body with
          | some c =>
            if as.length ≤ fn.ntmps then
              match codeE P (runE P more fuel).1 (runE P more fuel).2 fuel c (as ++ List.replicate (fn.ntmps - as.length) (.u undef)) h with
              | some (.normal, l, h) => (resP P fn (frame0 l) (gH h)).bind fun p => normK p fun p => some (p, h)
              | some (.ret, l, h) => (resP P fn (frame0 l) (gH h)).bind fun p => normK p fun p => some (p, h)
              | _ => none
            else none
          | none => none
        | none => none)
def funE (P : Program) (more : FuncId → List PV → Option Res) (fuel : Nat) (f : FuncId) (as : List PV) : Option Res := (runE P more fuel).1 f as

theorem frame0_pad (as : List PV) (m : Nat) : frame0 (as ++ List.replicate m (.u undef)) = frame0 as := by
  funext t
  simp only [frame0, List.getElem?_append, List.getElem?_replicate]
  by_cases h : t < as.length
  · simp [h]
  · rw [if_neg h, List.getElem?_eq_none (by omega : as.length ≤ t)]
    split <;> rfl
theorem gH_nil : gH [] = PHeap.empty := by funext t; simp [gH, PHeap.empty]

theorem runE_sound {more : FuncId → List PV → Option Res} (hmore : ∀ f as r, more f as = some r → CRes P f as r) (hm : P.follows .mixedOrders = true) : ∀ (fuel : Nat), (∀ (f : FuncId) (as : List PV) (r : Res), (runE P more fuel).1 f as = some r → CRes P f as r) ∧ SubOk P (runE P more fuel).2
  | 0 => ⟨fun f as r e => by simp [runE] at e, fun f as h p h' e => by simp [runE] at e⟩
  | fuel + 1 => by
    obtain ⟨ih1, ih2⟩ := runE_sound hmore hm fuel
    refine ⟨fun f as r e => ?_, fun f as h p h' e => ?_⟩
    · simp only [runE] at e
      split at e
      · rename_i r' hr
        cases e
        exact hmore f as r hr
      · split at e
        · rename_i fn hf
          split at e
          · rename_i c hb
            split at e
            · rename_i hlen
              have main : ∀ ex l h, (ex = .normal ∨ ex = .ret) → codeE P (runE P more fuel).1 (runE P more fuel).2 fuel c (as ++ List.replicate (fn.ntmps - as.length) (.u undef)) [] = some (ex, l, h) → resR P fn l h = some r → CRes P f as r := by
                intro ex l h hex hc hres
                have hpc := fun (W : Env) => codeE_sound (W := W) (n := fn.ntmps) ih1 ih2 hm fuel fuel (Nat.le_refl _) c _ l _ h ex (by simp; omega) hc
                unfold resR at hres
                have ro : ∀ q p, resP P fn (frame0 l) (gH h) = some q → viewC (gH h) vdep q = some p → PCall P f as (· = p) := fun q p hq hv => by
                  obtain ⟨v1, v2⟩ := viewC_sound _ _ _ hv
                  refine PCall.intro hf hb hlen fun W => ?_
                  have := (hpc W).2 (Q := fun e F H => (e = .normal ∨ e = .ret) ∧ ∃ q p', resP P fn F H = some q ∧ View H q p' ∧ NoP p' ∧ p' = p) ⟨hex, q, p, hq, v1, v2, rfl⟩
                  rwa [frame0_pad, gH_nil] at this
                split at hres
                · rename_i id ver hq
                  split at hres
                  · rename_i t k m cs hl
                    split at hres
                    · rename_i us hus
                      cases hres
                      refine PCallOwn.intro hf hb hlen fun W => ?_
                      have := (hpc W).2 (Q := fun e F H => (e = .normal ∨ e = .ret) ∧ ∃ q, resP P fn F H = some q ∧ OwnR H q t k (fun a b => a = m ∧ b = us)) ⟨hex, _, hq, .inl ⟨id, ver, m, us, rfl, by rw [hl, mapM_leafV hus], rfl, rfl⟩⟩
                      rwa [frame0_pad, gH_nil] at this
                    · obtain ⟨p, hp, rfl⟩ := Option.map_eq_some_iff.1 hres
                      exact ro _ p hq hp
                  · cases hres
                · rename_i q _ hq
                  obtain ⟨p, hp, rfl⟩ := Option.map_eq_some_iff.1 hres
                  exact ro _ p hq hp
                · cases hres
              split at e
              · rename_i l h hc; exact main _ l h (.inl rfl) hc e
              · rename_i l h hc; exact main _ l h (.inr rfl) hc e
              · cases e
            · cases e
          · cases e
        · cases e
    · simp only [runE] at e
      split at e
      · rename_i fn hf
        split at e
        · rename_i c hb
          split at e
          · rename_i hlen
            refine ⟨fn, c, hf, hb, hlen, fun W => ?_⟩
            have main : ∀ ex l h2, (ex = .normal ∨ ex = .ret) → codeE P (runE P more fuel).1 (runE P more fuel).2 fuel c (as ++ List.replicate (fn.ntmps - as.length) (.u undef)) h = some (ex, l, h2) → ((resP P fn (frame0 l) (gH h2)).bind fun p => normK p fun p => some (p, h2)) = some (p, h') → PC P W fn.ntmps c (frame0 as) (gH h) fun e F' H' => (e = .normal ∨ e = .ret) ∧ resP P fn F' H' = some p ∧ H' = gH h' := by
              intro ex l h2 hex hc hres
              obtain ⟨q, hq, hres⟩ := Option.bind_eq_some_iff.1 hres
              rw [normK_eq] at hres
              cases hres
              have := (codeE_sound (W := W) (n := fn.ntmps) ih1 ih2 hm fuel fuel (Nat.le_refl _) c _ l _ h' ex (by simp; omega) hc).2 (Q := fun e F' H' => (e = .normal ∨ e = .ret) ∧ resP P fn F' H' = some p ∧ H' = gH h') ⟨hex, hq, rfl⟩
              rwa [frame0_pad] at this
            split at e
            · rename_i l h2 hc; exact main _ l h2 (.inl rfl) hc e
            · rename_i l h2 hc; exact main _ l h2 (.inr rfl) hc e
            · cases e
          · cases e
        · cases e
      · cases e

theorem funE_sound {more : FuncId → List PV → Option Res} (hmore : ∀ f as r, more f as = some r → CRes P f as r) (hm : P.follows .mixedOrders = true) {fuel : Nat} {f : FuncId} {as : List PV} {r : Res} (e : funE P more fuel f as = some r) : CRes P f as r :=
  (runE_sound hmore hm fuel).1 f as r e
end
end Go.Proofs.Ytficeeaaaijgcaa.L
