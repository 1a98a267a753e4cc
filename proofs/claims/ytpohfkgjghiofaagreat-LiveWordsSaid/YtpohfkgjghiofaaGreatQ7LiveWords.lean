/-
  Texts of this proof, put together: Pt, Kn, Pn, Pu, Row, Op, O15, Po.
-/
import Derived.ProofKit
import Derived.OpenShut
import Derived.Deep.Slices
import Derived.Test.YtpohfkgjghiofaaGreatQ6LiveWords

namespace Go.Proofs.YtpohfkgjghiofaaGreat
open Go Go.RowKit L
set_option linter.unusedVariables false
set_option linter.unusedSimpArgs false
theorem zpk (s : ByteArray) : (s.toList == (⟨#[]⟩ : ByteArray).toList) = decide (tl s = []) := by
  rw [zdc, zdc, tl_nil, Bool.eq_iff_iff, beq_iff_eq, decide_eq_true_eq]
theorem znd (a b : ByteArray) : zb7 a b = bl (tl a) (tl b) := by unfold zb7; rw [zdc, zdc]
theorem zl7 (d : je) (hd : DOk d) (hm : MOk d) (hn : d.jd.length ≤ 300) (t : Int) {k : Nat} {word : List ByteArray} {has : List Bool} (R : REInv d t k word has) :
    Tot (G.loop (σ := (ByteArray × Bool × Int)) (α := (ByteArray × Bool)) (fun (x49, x50, x51) => G.cond (decide (x51 < (d.jd.length : Int))) (G.bind (α := (ByteArray × Bool)) (G.bind (G.lift (idx has x51)) fun x65 => G.bind (G.cond x65 (G.lift (idx word x51)) (G.pure (⟨#[]⟩))) fun x66 => G.bind (G.cond (x65 && (decide ((x66.size : Int) = (k : Int)))) (G.lift (idx d.jj x51)) (G.pure 0)) fun x67 => G.bind (G.cond (((x65 && (decide ((x66.size : Int) = (k : Int)))) && (decide (x67 = t))) && (!(!x50))) (G.lift (idx word x51)) (G.pure (⟨#[]⟩))) fun x68 => G.cond (((x65 && (decide ((x66.size : Int) = (k : Int)))) && (decide (x67 = t))) && ((!x50) || (zb7 x68 x49))) (G.bind (G.lift (idx word x51)) fun x70 => G.pure (x70, true)) (G.pure (x49, x50))) fun (x62, x63) => G.pure (.inl (x62, x63, (w64 (x51 + 1))))) (G.pure (.inr (x49, x50)))) ((⟨#[]⟩ : ByteArray), false, 0))
      (fun r => (r.2 = true ∧ ∃ i, zdl d t k word has i ∧ r.1 = at' word (i : Int) ∧ ∀ j, zdl d t k word has j → sle (tl r.1) (tl (at' word (j : Int)))) ∨ (r.2 = false ∧ ∀ i, ¬ zdl d t k word has i)) := by
  have hwl := R.wl
  have hhl := R.hl
  have hlab := hm.lab
  refine Tot.forC (fun s => s.2.2) d.jd.length (fun i (s : ByteArray × Bool × Int) => s.2.2 = (i : Int) ∧ ((s.2.1 = true ∧ ∃ i', zdl d t k word has i' ∧ s.1 = at' word (i' : Int) ∧ ∀ j, j < i → zdl d t k word has j → sle (tl s.1) (tl (at' word (j : Int)))) ∨ (s.2.1 = false ∧ ∀ j, j < i → ¬ zdl d t k word has j))) (fun k s h => h.1) ?_ ?_ ⟨rfl, .inr ⟨rfl, fun j hj => by omega⟩⟩
  · rintro i ⟨best, is, _⟩ hi ⟨rfl, H⟩
    simp only at H
    have stay : ¬ zdl d t k word has i → ((is = true ∧ ∃ i', zdl d t k word has i' ∧ best = at' word (i' : Int) ∧ ∀ j, j < i + 1 → zdl d t k word has j → sle (tl best) (tl (at' word (j : Int)))) ∨ (is = false ∧ ∀ j, j < i + 1 → ¬ zdl d t k word has j)) := fun hc => by
      rcases H with ⟨h1, i', h2, h3, h4⟩ | ⟨h1, h2⟩
      · refine .inl ⟨h1, i', h2, h3, fun j hj hcj => ?_⟩
        by_cases hji : j = i
        · subst hji; exact absurd hcj hc
        · exact h4 j (by omega) hcj
      · refine .inr ⟨h1, fun j hj hcj => ?_⟩
        by_cases hji : j = i
        · subst hji; exact hc hcj
        · exact h2 j (by omega) hcj
    repeat (first | with_reducible (refine Tot.bp ?_) | with_reducible (refine Tot.bb ?_) | (refine Tot.ct ?_ ?_; focus (first | with_reducible rfl | (simp (disch := omega) only [jr, js, bl_]; done))) | (refine Tot.cf ?_ ?_; focus (first | with_reducible rfl | (simp (disch := omega) only [jr, js, bl_]; done))) | with_reducible (refine Tot.bc ?_) | ((first | refine Tot.rdx ?_ ?_ | refine Tot.apx ?_ ?_ | refine Tot.mkx ?_ ?_); focus (first | omega | (simp; done) | (simp; omega))))
    cases hon : at' has (i : Int)
    · have hc : ¬ zdl d t k word has i := fun h => by have := Qf.2 h.1; rw [hon] at this; cases this
      repeat (first | with_reducible (refine Tot.bp ?_) | with_reducible (refine Tot.bb ?_) | (refine Tot.ct ?_ ?_; focus (first | with_reducible rfl | (simp (disch := omega) only [jr, js, bl_]; done))) | (refine Tot.cf ?_ ?_; focus (first | with_reducible rfl | (simp (disch := omega) only [jr, js, bl_]; done))) | with_reducible (refine Tot.bc ?_) | ((first | refine Tot.rdx ?_ ?_ | refine Tot.apx ?_ ?_ | refine Tot.mkx ?_ ?_); focus (first | omega | (simp; done) | (simp; omega))))
      exact Tot.pure ⟨qr (by omega), stay hc⟩
    · repeat (first | with_reducible (refine Tot.bp ?_) | with_reducible (refine Tot.bb ?_) | (refine Tot.ct ?_ ?_; focus (first | with_reducible rfl | (simp (disch := omega) only [jr, js, bl_]; done))) | (refine Tot.cf ?_ ?_; focus (first | with_reducible rfl | (simp (disch := omega) only [jr, js, bl_]; done))) | with_reducible (refine Tot.bc ?_) | ((first | refine Tot.rdx ?_ ?_ | refine Tot.apx ?_ ?_ | refine Tot.mkx ?_ ?_); focus (first | omega | (simp; done) | (simp; omega))))
      by_cases hs : ((at' word (i : Int)).size : Int) = (k : Int)
      · repeat (first | with_reducible (refine Tot.bp ?_) | with_reducible (refine Tot.bb ?_) | (refine Tot.ct ?_ ?_; focus (first | with_reducible rfl | (simp (disch := omega) only [jr, js, bl_]; done))) | (refine Tot.cf ?_ ?_; focus (first | with_reducible rfl | (simp (disch := omega) only [jr, js, bl_]; done))) | with_reducible (refine Tot.bc ?_) | ((first | refine Tot.rdx ?_ ?_ | refine Tot.apx ?_ ?_ | refine Tot.mkx ?_ ?_); focus (first | omega | (simp; done) | (simp; omega))))
        by_cases hl : at' d.jj (i : Int) = t
        · have hc : zdl d t k word has i := ⟨Qf.1 hon, by omega, hl⟩
          cases is
          · repeat (first | with_reducible (refine Tot.bp ?_) | with_reducible (refine Tot.bb ?_) | (refine Tot.ct ?_ ?_; focus (first | with_reducible rfl | (simp (disch := omega) only [jr, js, bl_]; done))) | (refine Tot.cf ?_ ?_; focus (first | with_reducible rfl | (simp (disch := omega) only [jr, js, bl_]; done))) | with_reducible (refine Tot.bc ?_) | ((first | refine Tot.rdx ?_ ?_ | refine Tot.apx ?_ ?_ | refine Tot.mkx ?_ ?_); focus (first | omega | (simp; done) | (simp; omega))))
            rcases H with ⟨h1, _⟩ | ⟨_, h2⟩
            · cases h1
            refine Tot.pure ⟨qr (by omega), .inl ⟨rfl, i, hc, rfl, fun j hj hcj => ?_⟩⟩
            by_cases hji : j = i
            · subst hji; exact Yv _
            · exact absurd hcj (h2 j (by omega))
          · rcases H with ⟨_, i', h2, h3, h4⟩ | ⟨h1, _⟩
            rotate_left
            · cases h1
            repeat (first | with_reducible (refine Tot.bp ?_) | with_reducible (refine Tot.bb ?_) | (refine Tot.ct ?_ ?_; focus (first | with_reducible rfl | (simp (disch := omega) only [jr, js, bl_]; done))) | (refine Tot.cf ?_ ?_; focus (first | with_reducible rfl | (simp (disch := omega) only [jr, js, bl_]; done))) | with_reducible (refine Tot.bc ?_) | ((first | refine Tot.rdx ?_ ?_ | refine Tot.apx ?_ ?_ | refine Tot.mkx ?_ ?_); focus (first | omega | (simp; done) | (simp; omega))))
            rw [znd]
            have hlen : (tl (at' word (i : Int))).length = (tl best).length := by rw [h3, Y0, Y0, h2.2.1]; omega
            cases hb : bl (tl (at' word (i : Int))) (tl best)
            · repeat (first | with_reducible (refine Tot.bp ?_) | with_reducible (refine Tot.bb ?_) | (refine Tot.ct ?_ ?_; focus (first | with_reducible rfl | (simp (disch := omega) only [jr, js, bl_]; done))) | (refine Tot.cf ?_ ?_; focus (first | with_reducible rfl | (simp (disch := omega) only [jr, js, bl_]; done))) | with_reducible (refine Tot.bc ?_) | ((first | refine Tot.rdx ?_ ?_ | refine Tot.apx ?_ ?_ | refine Tot.mkx ?_ ?_); focus (first | omega | (simp; done) | (simp; omega))))
              refine Tot.pure ⟨qr (by omega), .inl ⟨rfl, i', h2, h3, fun j hj hcj => ?_⟩⟩
              by_cases hji : j = i
              · subst hji; rw [Qw]; exact .inr ⟨hlen.symm, hb⟩
              · exact h4 j (by omega) hcj
            · repeat (first | with_reducible (refine Tot.bp ?_) | with_reducible (refine Tot.bb ?_) | (refine Tot.ct ?_ ?_; focus (first | with_reducible rfl | (simp (disch := omega) only [jr, js, bl_]; done))) | (refine Tot.cf ?_ ?_; focus (first | with_reducible rfl | (simp (disch := omega) only [jr, js, bl_]; done))) | with_reducible (refine Tot.bc ?_) | ((first | refine Tot.rdx ?_ ?_ | refine Tot.apx ?_ ?_ | refine Tot.mkx ?_ ?_); focus (first | omega | (simp; done) | (simp; omega))))
              refine Tot.pure ⟨qr (by omega), .inl ⟨rfl, i, hc, rfl, fun j hj hcj => ?_⟩⟩
              by_cases hji : j = i
              · subst hji; exact Yv _
              · exact Yf (za5 (.inr ⟨hlen, hb⟩)) (h4 j (by omega) hcj)
        · have hc : ¬ zdl d t k word has i := fun h => hl h.2.2
          repeat (first | with_reducible (refine Tot.bp ?_) | with_reducible (refine Tot.bb ?_) | (refine Tot.ct ?_ ?_; focus (first | with_reducible rfl | (simp (disch := omega) only [jr, js, bl_]; done))) | (refine Tot.cf ?_ ?_; focus (first | with_reducible rfl | (simp (disch := omega) only [jr, js, bl_]; done))) | with_reducible (refine Tot.bc ?_) | ((first | refine Tot.rdx ?_ ?_ | refine Tot.apx ?_ ?_ | refine Tot.mkx ?_ ?_); focus (first | omega | (simp; done) | (simp; omega))))
          exact Tot.pure ⟨qr (by omega), stay hc⟩
      · have hc : ¬ zdl d t k word has i := fun h => hs (by rw [h.2.1])
        repeat (first | with_reducible (refine Tot.bp ?_) | with_reducible (refine Tot.bb ?_) | (refine Tot.ct ?_ ?_; focus (first | with_reducible rfl | (simp (disch := omega) only [jr, js, bl_]; done))) | (refine Tot.cf ?_ ?_; focus (first | with_reducible rfl | (simp (disch := omega) only [jr, js, bl_]; done))) | with_reducible (refine Tot.bc ?_) | ((first | refine Tot.rdx ?_ ?_ | refine Tot.apx ?_ ?_ | refine Tot.mkx ?_ ?_); focus (first | omega | (simp; done) | (simp; omega))))
        exact Tot.pure ⟨qr (by omega), stay hc⟩
  · rintro ⟨best, is, _⟩ ⟨rfl, H⟩
    simp only at H
    have hin : ∀ j, zdl d t k word has j → j < d.jd.length := fun j h => by rw [← hhl]; exact zhs h.1
    repeat (first | with_reducible (refine Tot.bp ?_) | with_reducible (refine Tot.bb ?_) | (refine Tot.ct ?_ ?_; focus (first | with_reducible rfl | (simp (disch := omega) only [jr, js, bl_]; done))) | (refine Tot.cf ?_ ?_; focus (first | with_reducible rfl | (simp (disch := omega) only [jr, js, bl_]; done))) | with_reducible (refine Tot.bc ?_) | ((first | refine Tot.rdx ?_ ?_ | refine Tot.apx ?_ ?_ | refine Tot.mkx ?_ ?_); focus (first | omega | (simp; done) | (simp; omega))))
    refine Tot.pure ?_
    rcases H with ⟨h1, i', h2, h3, h4⟩ | ⟨h1, h2⟩
    · exact .inl ⟨h1, i', h2, h3, fun j hj => h4 j (hin j hj) hj⟩
    · exact .inr ⟨h1, fun j hj => h2 j (hin j hj) hj⟩
theorem zox (d : je) (hd : DOk d) (hm : MOk d) (hn : d.jd.length ≤ 300) (t : Int) {k : Nat} (hk : k ≤ 300) {word : List ByteArray} {has : List Bool} (R : REInv d t k word has) :
    Tot (G.loop (σ := (Int × (List ByteArray))) (α := (List ByteArray)) (fun (x257, x258) => G.cond (decide (x257 < (d.jd.length : Int))) (G.bind (G.loop (σ := (Int × (List ByteArray))) (α := (List ByteArray)) (fun (x277, x278) => G.bind (G.lift (idx has x257)) fun x287 => G.bind (G.cond x287 (G.lift (idx word x257)) (G.pure (⟨#[]⟩))) fun x288 => G.cond ((x287 && (decide ((x288.size : Int) = (k : Int)))) && (decide (x277 < d.ji))) (G.bind (α := (List ByteArray)) (G.bind (G.lift (idx d.jd x257)) fun x295 => G.bind (G.lift (idx x295 x277)) fun x296 => G.bind (G.cond (!(decide (x296 < 0))) (G.lift (idx has x296)) (G.pure false)) fun x299 => G.bind (G.cond ((!(decide (x296 < 0))) && x299) (G.lift (idx word x296)) (G.pure (⟨#[]⟩))) fun x300 => G.cond ((decide (x296 < 0)) || (x299 && (decide ((x300.size : Int) ≤ (k : Int))))) (G.pure x278) (G.bind (G.lift (idx word x257)) fun x303 => G.bind (zt d.jp x277) fun x304 => G.bind (G.lift (zc1 x304 0 1)) fun x305 => G.bind (G.lift (zl3 x303 (strOfNums x305))) fun x306 => G.bind (G.lift (idx x278 x296)) fun x308 => G.bind (G.cond (!(x308.toList == (⟨#[]⟩ : ByteArray).toList)) (G.lift (idx x278 x296)) (G.pure (⟨#[]⟩))) fun x309 => G.cond ((x308.toList == (⟨#[]⟩ : ByteArray).toList) || (zb7 x306 x309)) (G.bind (G.lift (idx x278 x296)) fun x311 => G.pure (x278.set (x296 : Int).toNat x306)) (G.pure x278))) fun x292 => G.pure (.inl ((w64 (x277 + 1)), x292))) (G.pure (.inr x278))) (0, x258)) fun x314 => G.pure (.inl ((w64 (x257 + 1)), x314))) (G.pure (.inr x258))) (0, List.replicate (d.jd.length : Int).toNat (⟨#[]⟩ : ByteArray)))
      (fun nx => NInv d k word has nx fun i _ => i < d.jd.length) := by
  have hwl := R.wl
  have hhl := R.hl
  have hw := zaz hd hm
  have hlen : ∀ i, onB has i → (at' word (i : Int)).size ≤ k := fun i hi => by
    obtain ⟨u, hu, hk⟩ := (R.on i).1 hi
    have := (R.best i hi).2 u hu
    rw [Qw] at this
    have h2 := Y0 (at' word (i : Int))
    omega
  refine Tot.forC (fun s => s.1) d.jd.length (fun i (s : Int × List ByteArray) => s.1 = (i : Int) ∧ NInv d k word has s.2 fun i' _ => i' < i) (fun k s h => h.1) ?_ ?_ ⟨rfl, by simp, fun to ht => .inl ⟨?_, fun i c h => by omega⟩⟩
  rotate_right
  · simp only
    rw [zpn (by simpa using ht)]; rfl
  · rintro i ⟨_, nx⟩ hi ⟨rfl, H⟩
    simp only at H
    repeat (first | with_reducible (refine Tot.bp ?_) | with_reducible (refine Tot.bb ?_) | (refine Tot.ct ?_ ?_; focus (first | with_reducible rfl | (simp (disch := omega) only [jr, js, bl_]; done))) | (refine Tot.cf ?_ ?_; focus (first | with_reducible rfl | (simp (disch := omega) only [jr, js, bl_]; done))) | with_reducible (refine Tot.bc ?_) | ((first | refine Tot.rdx ?_ ?_ | refine Tot.apx ?_ ?_ | refine Tot.mkx ?_ ?_); focus (first | omega | (simp; done) | (simp; omega))))
    refine Tot.part (fun nx => NInv d k word has nx fun i' _ => i' < i + 1) ?_ fun nx h => Tot.pure ⟨qr (by omega), h⟩
    refine Tot.forC (fun s => s.1) d.ji.toNat (fun c (s : Int × List ByteArray) => s.1 = (c : Int) ∧ NInv d k word has s.2 fun i' c' => i' < i ∨ (i' = i ∧ c' < c)) (fun k s h => h.1) ?_ ?_ ⟨rfl, H.same (fun i' c' h => .inl h) (fun i' c' to h _ => by omega)⟩
    · rintro c ⟨_, nx⟩ hc ⟨rfl, I⟩
      simp only at I
      have hnl := I.1
      have nocand : (∀ to, ¬ ∃ c', Cd d k word has i c' to) → NInv d k word has nx fun i' _ => i' < i + 1 := fun hno => I.same (fun i' c' h => by omega) (fun i' c' to h hcd => by
        by_cases he : i' = i
        · subst he; exact absurd ⟨c', hcd⟩ (hno to)
        · exact .inl (by omega))
      repeat (first | with_reducible (refine Tot.bp ?_) | with_reducible (refine Tot.bb ?_) | (refine Tot.ct ?_ ?_; focus (first | with_reducible rfl | (simp (disch := omega) only [jr, js, bl_]; done))) | (refine Tot.cf ?_ ?_; focus (first | with_reducible rfl | (simp (disch := omega) only [jr, js, bl_]; done))) | with_reducible (refine Tot.bc ?_) | ((first | refine Tot.rdx ?_ ?_ | refine Tot.apx ?_ ?_ | refine Tot.mkx ?_ ?_); focus (first | omega | (simp; done) | (simp; omega))))
      cases hon : at' has (i : Int)
      · repeat (first | with_reducible (refine Tot.bp ?_) | with_reducible (refine Tot.bb ?_) | (refine Tot.ct ?_ ?_; focus (first | with_reducible rfl | (simp (disch := omega) only [jr, js, bl_]; done))) | (refine Tot.cf ?_ ?_; focus (first | with_reducible rfl | (simp (disch := omega) only [jr, js, bl_]; done))) | with_reducible (refine Tot.bc ?_) | ((first | refine Tot.rdx ?_ ?_ | refine Tot.apx ?_ ?_ | refine Tot.mkx ?_ ?_); focus (first | omega | (simp; done) | (simp; omega))))
        refine Tot.pure (nocand fun to ⟨c', h⟩ => ?_)
        have := Qf.2 h.1; rw [hon] at this; cases this
      · repeat (first | with_reducible (refine Tot.bp ?_) | with_reducible (refine Tot.bb ?_) | (refine Tot.ct ?_ ?_; focus (first | with_reducible rfl | (simp (disch := omega) only [jr, js, bl_]; done))) | (refine Tot.cf ?_ ?_; focus (first | with_reducible rfl | (simp (disch := omega) only [jr, js, bl_]; done))) | with_reducible (refine Tot.bc ?_) | ((first | refine Tot.rdx ?_ ?_ | refine Tot.apx ?_ ?_ | refine Tot.mkx ?_ ?_); focus (first | omega | (simp; done) | (simp; omega))))
        by_cases hs : ((at' word (i : Int)).size : Int) = (k : Int)
        rotate_left
        · repeat (first | with_reducible (refine Tot.bp ?_) | with_reducible (refine Tot.bb ?_) | (refine Tot.ct ?_ ?_; focus (first | with_reducible rfl | (simp (disch := omega) only [jr, js, bl_]; done))) | (refine Tot.cf ?_ ?_; focus (first | with_reducible rfl | (simp (disch := omega) only [jr, js, bl_]; done))) | with_reducible (refine Tot.bc ?_) | ((first | refine Tot.rdx ?_ ?_ | refine Tot.apx ?_ ?_ | refine Tot.mkx ?_ ?_); focus (first | omega | (simp; done) | (simp; omega))))
          refine Tot.pure (nocand fun to ⟨c', h⟩ => hs (by rw [h.2.1]))
        have hrow := hm.row i (by omega) (by omega)
        have hnx := hm.nx i c (by omega) (by omega) (by omega) (by omega)
        have skip : (∀ to, ¬ Cd d k word has i c to) → NInv d k word has nx fun i' c' => i' < i ∨ (i' = i ∧ c' < c + 1) := fun hno => I.same (fun i' c' h => by omega) (fun i' c' to h hcd => by
          by_cases he : i' = i ∧ c' = c
          · obtain ⟨rfl, rfl⟩ := he; exact absurd hcd (hno to)
          · omega)
        repeat (first | with_reducible (refine Tot.bp ?_) | with_reducible (refine Tot.bb ?_) | (refine Tot.ct ?_ ?_; focus (first | with_reducible rfl | (simp (disch := omega) only [jr, js, bl_]; done))) | (refine Tot.cf ?_ ?_; focus (first | with_reducible rfl | (simp (disch := omega) only [jr, js, bl_]; done))) | with_reducible (refine Tot.bc ?_) | ((first | refine Tot.rdx ?_ ?_ | refine Tot.apx ?_ ?_ | refine Tot.mkx ?_ ?_); focus (first | omega | (simp; done) | (simp; omega))))
        refine Tot.cond (fun hb => ?_) fun hb => ?_
        · simp only [Bool.not_eq_true', decide_eq_false_iff_not] at hb
          obtain ⟨to, hto⟩ := Int.eq_ofNat_of_zero_le (show 0 ≤ at' (at' d.jd (i : Int)) (c : Int) by omega)
          have hN : nxt d i (c : Int) = (to : Int) := hto
          rw [hto] at hnx hb ⊢
          repeat (first | with_reducible (refine Tot.bp ?_) | with_reducible (refine Tot.bb ?_) | (refine Tot.ct ?_ ?_; focus (first | with_reducible rfl | (simp (disch := omega) only [jr, js, bl_]; done))) | (refine Tot.cf ?_ ?_; focus (first | with_reducible rfl | (simp (disch := omega) only [jr, js, bl_]; done))) | with_reducible (refine Tot.bc ?_) | ((first | refine Tot.rdx ?_ ?_ | refine Tot.apx ?_ ?_ | refine Tot.mkx ?_ ?_); focus (first | omega | (simp; done) | (simp; omega))))
          cases ho2 : at' has (to : Int)
          · repeat (first | with_reducible (refine Tot.bp ?_) | with_reducible (refine Tot.bb ?_) | (refine Tot.ct ?_ ?_; focus (first | with_reducible rfl | (simp (disch := omega) only [jr, js, bl_]; done))) | (refine Tot.cf ?_ ?_; focus (first | with_reducible rfl | (simp (disch := omega) only [jr, js, bl_]; done))) | with_reducible (refine Tot.bc ?_) | ((first | refine Tot.rdx ?_ ?_ | refine Tot.apx ?_ ?_ | refine Tot.mkx ?_ ?_); focus (first | omega | (simp; done) | (simp; omega))))
            have hcd : Cd d k word has i c to := ⟨Qf.1 hon, by omega, by omega, hN, fun h => by have := Qf.2 h; rw [ho2] at this; cases this⟩
            refine Tot.bindE (znt d.jp hd.cls (c : Int)) ?_
            refine Tot.bb ?_
            refine Tot.someB (zmk (c := (c : Int)) hd hm (by omega) (by omega)) ?_
            have hz2 : (strOfNums [(Qk d (c : Int) : Int)]).size = 1 := rfl
            refine Tot.bb ?_
            refine Tot.someB (zm6 (by omega)) ?_
            have hv : tl (at' word (i : Int) ++ strOfNums [(Qk d (c : Int) : Int)]) = tl (at' word (i : Int)) ++ [ze d (c : Int)] := by
              rw [zpc, zm8]; simp [ze]
            generalize at' word (i : Int) ++ strOfNums [(Qk d (c : Int) : Int)] = v at hv ⊢
            have hp : ∀ i' c', (i' < i ∨ (i' = i ∧ c' < c + 1)) ↔ (i' < i ∨ (i' = i ∧ c' < c)) ∨ (i' = i ∧ c' = c) := fun i' c' => by omega
            repeat (first | with_reducible (refine Tot.bp ?_) | with_reducible (refine Tot.bb ?_) | (refine Tot.ct ?_ ?_; focus (first | with_reducible rfl | (simp (disch := omega) only [jr, js, bl_]; done))) | (refine Tot.cf ?_ ?_; focus (first | with_reducible rfl | (simp (disch := omega) only [jr, js, bl_]; done))) | with_reducible (refine Tot.bc ?_) | ((first | refine Tot.rdx ?_ ?_ | refine Tot.apx ?_ ?_ | refine Tot.mkx ?_ ?_); focus (first | omega | (simp; done) | (simp; omega))))
            simp only [zpk, znd]
            by_cases he : tl (at' nx (to : Int)) = []
            · simp only [he, decide_true]
              repeat (first | with_reducible (refine Tot.bp ?_) | with_reducible (refine Tot.bb ?_) | (refine Tot.ct ?_ ?_; focus (first | with_reducible rfl | (simp (disch := omega) only [jr, js, bl_]; done))) | (refine Tot.cf ?_ ?_; focus (first | with_reducible rfl | (simp (disch := omega) only [jr, js, bl_]; done))) | with_reducible (refine Tot.bc ?_) | ((first | refine Tot.rdx ?_ ?_ | refine Tot.apx ?_ ?_ | refine Tot.mkx ?_ ?_); focus (first | omega | (simp; done) | (simp; omega))))
              exact Tot.pure ⟨qr (by omega), I.put (to := to) (by omega) hcd hv hp (.inl he)⟩
            · simp only [he, decide_false]
              repeat (first | with_reducible (refine Tot.bp ?_) | with_reducible (refine Tot.bb ?_) | (refine Tot.ct ?_ ?_; focus (first | with_reducible rfl | (simp (disch := omega) only [jr, js, bl_]; done))) | (refine Tot.cf ?_ ?_; focus (first | with_reducible rfl | (simp (disch := omega) only [jr, js, bl_]; done))) | with_reducible (refine Tot.bc ?_) | ((first | refine Tot.rdx ?_ ?_ | refine Tot.apx ?_ ?_ | refine Tot.mkx ?_ ?_); focus (first | omega | (simp; done) | (simp; omega))))
              cases hbl : bl (tl v) (tl (at' nx (to : Int)))
              · repeat (first | with_reducible (refine Tot.bp ?_) | with_reducible (refine Tot.bb ?_) | (refine Tot.ct ?_ ?_; focus (first | with_reducible rfl | (simp (disch := omega) only [jr, js, bl_]; done))) | (refine Tot.cf ?_ ?_; focus (first | with_reducible rfl | (simp (disch := omega) only [jr, js, bl_]; done))) | with_reducible (refine Tot.bc ?_) | ((first | refine Tot.rdx ?_ ?_ | refine Tot.apx ?_ ?_ | refine Tot.mkx ?_ ?_); focus (first | omega | (simp; done) | (simp; omega))))
                exact Tot.pure ⟨qr (by omega), I.keep (to := to) (by omega) hcd hv hp ⟨he, hbl⟩⟩
              · repeat (first | with_reducible (refine Tot.bp ?_) | with_reducible (refine Tot.bb ?_) | (refine Tot.ct ?_ ?_; focus (first | with_reducible rfl | (simp (disch := omega) only [jr, js, bl_]; done))) | (refine Tot.cf ?_ ?_; focus (first | with_reducible rfl | (simp (disch := omega) only [jr, js, bl_]; done))) | with_reducible (refine Tot.bc ?_) | ((first | refine Tot.rdx ?_ ?_ | refine Tot.apx ?_ ?_ | refine Tot.mkx ?_ ?_); focus (first | omega | (simp; done) | (simp; omega))))
                exact Tot.pure ⟨qr (by omega), I.put (to := to) (by omega) hcd hv hp (.inr hbl)⟩
          · have hsz := hlen to (Qf.1 ho2)
            repeat (first | with_reducible (refine Tot.bp ?_) | with_reducible (refine Tot.bb ?_) | (refine Tot.ct ?_ ?_; focus (first | with_reducible rfl | (simp (disch := omega) only [jr, js, bl_]; done))) | (refine Tot.cf ?_ ?_; focus (first | with_reducible rfl | (simp (disch := omega) only [jr, js, bl_]; done))) | with_reducible (refine Tot.bc ?_) | ((first | refine Tot.rdx ?_ ?_ | refine Tot.apx ?_ ?_ | refine Tot.mkx ?_ ?_); focus (first | omega | (simp; done) | (simp; omega))))
            refine Tot.pure ⟨qr (by omega), skip fun to' h => ?_⟩
            have h1 := h.2.2.2.1
            rw [hN] at h1
            have : to' = to := by omega
            subst this
            exact h.2.2.2.2 (Qf.1 ho2)
        · simp only [Bool.not_eq_false', decide_eq_true_eq] at hb
          repeat (first | with_reducible (refine Tot.bp ?_) | with_reducible (refine Tot.bb ?_) | (refine Tot.ct ?_ ?_; focus (first | with_reducible rfl | (simp (disch := omega) only [jr, js, bl_]; done))) | (refine Tot.cf ?_ ?_; focus (first | with_reducible rfl | (simp (disch := omega) only [jr, js, bl_]; done))) | with_reducible (refine Tot.bc ?_) | ((first | refine Tot.rdx ?_ ?_ | refine Tot.apx ?_ ?_ | refine Tot.mkx ?_ ?_); focus (first | omega | (simp; done) | (simp; omega))))
          refine Tot.pure ⟨qr (by omega), skip fun to' h => ?_⟩
          have h1 := h.2.2.2.1
          unfold nxt at h1
          omega
    · rintro ⟨_, nx⟩ ⟨rfl, I⟩
      simp only at I
      have fin : NInv d k word has nx fun i' _ => i' < i + 1 := I.same (fun i' c' h => by omega) (fun i' c' to h hcd => by
        have := hcd.2.2.1
        omega)
      repeat (first | with_reducible (refine Tot.bp ?_) | with_reducible (refine Tot.bb ?_) | (refine Tot.ct ?_ ?_; focus (first | with_reducible rfl | (simp (disch := omega) only [jr, js, bl_]; done))) | (refine Tot.cf ?_ ?_; focus (first | with_reducible rfl | (simp (disch := omega) only [jr, js, bl_]; done))) | with_reducible (refine Tot.bc ?_) | ((first | refine Tot.rdx ?_ ?_ | refine Tot.apx ?_ ?_ | refine Tot.mkx ?_ ?_); focus (first | omega | (simp; done) | (simp; omega))))
      cases hon : at' has (i : Int)
      · repeat (first | with_reducible (refine Tot.bp ?_) | with_reducible (refine Tot.bb ?_) | (refine Tot.ct ?_ ?_; focus (first | with_reducible rfl | (simp (disch := omega) only [jr, js, bl_]; done))) | (refine Tot.cf ?_ ?_; focus (first | with_reducible rfl | (simp (disch := omega) only [jr, js, bl_]; done))) | with_reducible (refine Tot.bc ?_) | ((first | refine Tot.rdx ?_ ?_ | refine Tot.apx ?_ ?_ | refine Tot.mkx ?_ ?_); focus (first | omega | (simp; done) | (simp; omega))))
        exact Tot.pure fin
      · repeat (first | with_reducible (refine Tot.bp ?_) | with_reducible (refine Tot.bb ?_) | (refine Tot.ct ?_ ?_; focus (first | with_reducible rfl | (simp (disch := omega) only [jr, js, bl_]; done))) | (refine Tot.cf ?_ ?_; focus (first | with_reducible rfl | (simp (disch := omega) only [jr, js, bl_]; done))) | with_reducible (refine Tot.bc ?_) | ((first | refine Tot.rdx ?_ ?_ | refine Tot.apx ?_ ?_ | refine Tot.mkx ?_ ?_); focus (first | omega | (simp; done) | (simp; omega))))
        exact Tot.pure fin
  · rintro ⟨_, nx⟩ ⟨rfl, H⟩
    repeat (first | with_reducible (refine Tot.bp ?_) | with_reducible (refine Tot.bb ?_) | (refine Tot.ct ?_ ?_; focus (first | with_reducible rfl | (simp (disch := omega) only [jr, js, bl_]; done))) | (refine Tot.cf ?_ ?_; focus (first | with_reducible rfl | (simp (disch := omega) only [jr, js, bl_]; done))) | with_reducible (refine Tot.bc ?_) | ((first | refine Tot.rdx ?_ ?_ | refine Tot.apx ?_ ?_ | refine Tot.mkx ?_ ?_); focus (first | omega | (simp; done) | (simp; omega))))
    exact Tot.pure H
theorem zhi (d : je) (hd : DOk d) (hn : d.jd.length ≤ 290) (t : Int) : Tot (J3 d t) (fun r => if 0 ≤ t ∧ zk d = true then ExSpec d t r else r = (⟨#[]⟩, false)) := by
  unfold J3
  refine Tot.bindE (zch d hd) ?_
  cases hR : zk d
  · repeat (first | with_reducible (refine Tot.bp ?_) | with_reducible (refine Tot.bb ?_) | (refine Tot.ct ?_ ?_; focus (first | with_reducible rfl | (simp (disch := omega) only [jr, js, bl_]; done))) | (refine Tot.cf ?_ ?_; focus (first | with_reducible rfl | (simp (disch := omega) only [jr, js, bl_]; done))) | with_reducible (refine Tot.bc ?_) | ((first | refine Tot.rdx ?_ ?_ | refine Tot.apx ?_ ?_ | refine Tot.mkx ?_ ?_); focus (first | omega | (simp; done) | (simp; omega))))
    refine Tot.pure ?_
    simp
  by_cases ht : 0 ≤ t
  rotate_left
  · repeat (first | with_reducible (refine Tot.bp ?_) | with_reducible (refine Tot.bb ?_) | (refine Tot.ct ?_ ?_; focus (first | with_reducible rfl | (simp (disch := omega) only [jr, js, bl_]; done))) | (refine Tot.cf ?_ ?_; focus (first | with_reducible rfl | (simp (disch := omega) only [jr, js, bl_]; done))) | with_reducible (refine Tot.bc ?_) | ((first | refine Tot.rdx ?_ ?_ | refine Tot.apx ?_ ?_ | refine Tot.mkx ?_ ?_); focus (first | omega | (simp; done) | (simp; omega))))
    refine Tot.pure ?_
    rw [if_neg (fun h => ht h.1)]
  refine Tot.mono (Q := ExSpec d t) ?_ (fun r hr => by rw [if_pos ⟨ht, rfl⟩]; exact hr)
  have hm := (Qr d).1 hR
  have hn0 := hm.n0
  repeat (first | with_reducible (refine Tot.bp ?_) | with_reducible (refine Tot.bb ?_) | (refine Tot.ct ?_ ?_; focus (first | with_reducible rfl | (simp (disch := omega) only [jr, js, bl_]; done))) | (refine Tot.cf ?_ ?_; focus (first | with_reducible rfl | (simp (disch := omega) only [jr, js, bl_]; done))) | with_reducible (refine Tot.bc ?_) | ((first | refine Tot.rdx ?_ ?_ | refine Tot.apx ?_ ?_ | refine Tot.mkx ?_ ?_); focus (first | omega | (simp; done) | (simp; omega))))
  generalize hA : (List.replicate (d.jd.length : Int).toNat false).set (0 : Int).toNat true = A
  have hA1 : A.length = d.jd.length := by rw [← hA]; simp
  have hA2 : ∀ i, onB A i ↔ i = 0 := fun i => by
    rw [← hA, Jp (by omega) (by simp; omega)]
    simp [zg1]
  have hA3 : offs A + 1 = d.jd.length := by
    rw [← hA, za3 (by omega) (by simp; omega) (by rw [show ((0 : Int)) = ((0 : Nat) : Int) from rfl, Ju (by simp; omega)]; simp)]
    unfold offs; simp
  refine Tot.bind ?_
  refine Tot.forC (fun s => s.1) (d.jd.length + 1) (fun k (s : Int × List ByteArray × List Bool) => s.1 = (k : Int) ∧ REInv d t k s.2.1 s.2.2) (fun k s h => h.1) ?_ ?_ ⟨rfl, by simp, hA1, ?_, ?_, fun u _ _ => Nat.zero_le _, .inr (by simp only; omega)⟩
  · rintro k ⟨_, word, has⟩ hk ⟨rfl, R⟩
    simp only at R
    have hwl := R.wl
    have hhl := R.hl
    repeat (first | with_reducible (refine Tot.bp ?_) | with_reducible (refine Tot.bb ?_) | (refine Tot.ct ?_ ?_; focus (first | with_reducible rfl | (simp (disch := omega) only [jr, js, bl_]; done))) | (refine Tot.cf ?_ ?_; focus (first | with_reducible rfl | (simp (disch := omega) only [jr, js, bl_]; done))) | with_reducible (refine Tot.bc ?_) | ((first | refine Tot.rdx ?_ ?_ | refine Tot.apx ?_ ?_ | refine Tot.mkx ?_ ?_); focus (first | omega | (simp; done) | (simp; omega))))
    refine Tot.part _ (zl7 d hd hm (by omega) t R) ?_
    rintro ⟨best, is⟩ hS
    simp only at hS
    rcases hS with ⟨rfl, i, hc, rfl, hall⟩ | ⟨rfl, hno⟩
    · repeat (first | with_reducible (refine Tot.bp ?_) | with_reducible (refine Tot.bb ?_) | (refine Tot.ct ?_ ?_; focus (first | with_reducible rfl | (simp (disch := omega) only [jr, js, bl_]; done))) | (refine Tot.cf ?_ ?_; focus (first | with_reducible rfl | (simp (disch := omega) only [jr, js, bl_]; done))) | with_reducible (refine Tot.bc ?_) | ((first | refine Tot.rdx ?_ ?_ | refine Tot.apx ?_ ?_ | refine Tot.mkx ?_ ?_); focus (first | omega | (simp; done) | (simp; omega))))
      refine Tot.pure (Tot.pure (.inl ⟨rfl, ht, ?_, ?_, fun u hu hl => ?_⟩))
      · have := (R.best i hc.1).1; simp only; omega
      · have := (R.best i hc.1).1; simp only; rw [this]; simpa using hc.2.2
      · have h1 := R.none u hu hl
        have h2 := Y0 (at' word (i : Int))
        have h3 := hc.2.1
        by_cases hlt : k < u.length
        · rw [Qw]; left; simp only; omega
        · obtain ⟨s, hs⟩ := Int.eq_ofNat_of_zero_le hu
          have ho : onB has s := (R.on s).2 ⟨u, hs, by omega⟩
          have hb := R.best s ho
          have hle := hb.2 u hs
          rw [hs] at hl
          simp only [Int.toNat_natCast] at hl
          have h4 := R.none _ (by rw [hb.1]; omega) (by rw [hb.1]; simpa using hl)
          have h5 := hle
          rw [Qw] at h5
          have h6 := Y0 (at' word (s : Int))
          exact Yf (hall s ⟨ho, by omega, hl⟩) hle
    · repeat (first | with_reducible (refine Tot.bp ?_) | with_reducible (refine Tot.bb ?_) | (refine Tot.ct ?_ ?_; focus (first | with_reducible rfl | (simp (disch := omega) only [jr, js, bl_]; done))) | (refine Tot.cf ?_ ?_; focus (first | with_reducible rfl | (simp (disch := omega) only [jr, js, bl_]; done))) | with_reducible (refine Tot.bc ?_) | ((first | refine Tot.rdx ?_ ?_ | refine Tot.apx ?_ ?_ | refine Tot.mkx ?_ ?_); focus (first | omega | (simp; done) | (simp; omega))))
      refine Tot.part _ (zox d hd hm (by omega) t (by omega) R) fun nx hN => ?_
      have hnl := hN.1
      refine Tot.part (fun (r : List ByteArray × List Bool) => REInv d t (k + 1) r.1 r.2) ?_ fun r hr => Tot.pure ⟨qr (by omega), hr⟩
      refine Tot.forC (fun s => s.1) d.jd.length (fun i (s : Int × List ByteArray × List Bool) => s.1 = (i : Int) ∧ s.2.1.length = d.jd.length ∧ s.2.2.length = d.jd.length ∧ ∀ j : Nat, j < d.jd.length → (j < i → (onB s.2.2 j ↔ onB has j ∨ tl (at' nx (j : Int)) ≠ []) ∧ at' s.2.1 (j : Int) = if tl (at' nx (j : Int)) ≠ [] ∧ ¬ onB has j then at' nx (j : Int) else at' word (j : Int)) ∧ (i ≤ j → (onB s.2.2 j ↔ onB has j) ∧ at' s.2.1 (j : Int) = at' word (j : Int))) (fun k s h => h.1) ?_ ?_ ⟨rfl, hwl, hhl, fun j hj => ⟨fun h => by omega, fun _ => ⟨Iff.rfl, rfl⟩⟩⟩
      · rintro i ⟨_, wd, hs⟩ hi ⟨rfl, g1, g2, g3⟩
        simp only at g1 g2 g3
        have gi := (g3 i hi).2 (Nat.le_refl _)
        have stay : ¬ (tl (at' nx (i : Int)) ≠ [] ∧ ¬ onB has i) → ∀ j : Nat, j < d.jd.length → (j < i + 1 → (onB hs j ↔ onB has j ∨ tl (at' nx (j : Int)) ≠ []) ∧ at' wd (j : Int) = if tl (at' nx (j : Int)) ≠ [] ∧ ¬ onB has j then at' nx (j : Int) else at' word (j : Int)) ∧ (i + 1 ≤ j → (onB hs j ↔ onB has j) ∧ at' wd (j : Int) = at' word (j : Int)) := fun hc j hj => by
          refine ⟨fun h => ?_, fun h => (g3 j hj).2 (by omega)⟩
          by_cases hji : j = i
          · subst hji
            rw [if_neg hc]
            refine ⟨?_, gi.2⟩
            rw [gi.1]
            constructor
            · exact .inl
            · rintro (h | h)
              · exact h
              · exact Decidable.byContradiction fun ho => hc ⟨h, ho⟩
          · exact (g3 j hj).1 (by omega)
        repeat (first | with_reducible (refine Tot.bp ?_) | with_reducible (refine Tot.bb ?_) | (refine Tot.ct ?_ ?_; focus (first | with_reducible rfl | (simp (disch := omega) only [jr, js, bl_]; done))) | (refine Tot.cf ?_ ?_; focus (first | with_reducible rfl | (simp (disch := omega) only [jr, js, bl_]; done))) | with_reducible (refine Tot.bc ?_) | ((first | refine Tot.rdx ?_ ?_ | refine Tot.apx ?_ ?_ | refine Tot.mkx ?_ ?_); focus (first | omega | (simp; done) | (simp; omega))))
        simp only [zpk]
        by_cases he : tl (at' nx (i : Int)) = []
        · simp only [he, decide_true]
          repeat (first | with_reducible (refine Tot.bp ?_) | with_reducible (refine Tot.bb ?_) | (refine Tot.ct ?_ ?_; focus (first | with_reducible rfl | (simp (disch := omega) only [jr, js, bl_]; done))) | (refine Tot.cf ?_ ?_; focus (first | with_reducible rfl | (simp (disch := omega) only [jr, js, bl_]; done))) | with_reducible (refine Tot.bc ?_) | ((first | refine Tot.rdx ?_ ?_ | refine Tot.apx ?_ ?_ | refine Tot.mkx ?_ ?_); focus (first | omega | (simp; done) | (simp; omega))))
          exact Tot.pure ⟨qr (by omega), g1, g2, stay fun h => h.1 he⟩
        · simp only [he, decide_false]
          repeat (first | with_reducible (refine Tot.bp ?_) | with_reducible (refine Tot.bb ?_) | (refine Tot.ct ?_ ?_; focus (first | with_reducible rfl | (simp (disch := omega) only [jr, js, bl_]; done))) | (refine Tot.cf ?_ ?_; focus (first | with_reducible rfl | (simp (disch := omega) only [jr, js, bl_]; done))) | with_reducible (refine Tot.bc ?_) | ((first | refine Tot.rdx ?_ ?_ | refine Tot.apx ?_ ?_ | refine Tot.mkx ?_ ?_); focus (first | omega | (simp; done) | (simp; omega))))
          cases ho : at' hs (i : Int)
          · repeat (first | with_reducible (refine Tot.bp ?_) | with_reducible (refine Tot.bb ?_) | (refine Tot.ct ?_ ?_; focus (first | with_reducible rfl | (simp (disch := omega) only [jr, js, bl_]; done))) | (refine Tot.cf ?_ ?_; focus (first | with_reducible rfl | (simp (disch := omega) only [jr, js, bl_]; done))) | with_reducible (refine Tot.bc ?_) | ((first | refine Tot.rdx ?_ ?_ | refine Tot.apx ?_ ?_ | refine Tot.mkx ?_ ?_); focus (first | omega | (simp; done) | (simp; omega))))
            have hno2 : ¬ onB has i := fun h => by have := Qf.2 (gi.1.2 h); rw [ho] at this; cases this
            refine Tot.pure ⟨qr (by omega), by simp [g1], by simp [g2], fun j hj => ?_⟩
            simp only
            rw [Jp (by omega) (by omega), zmz (by omega) (by omega)]
            refine ⟨fun h => ?_, fun h => ?_⟩
            · by_cases hji : j = i
              · subst hji
                rw [if_pos rfl, if_pos ⟨he, hno2⟩]
                exact ⟨by simp [he], rfl⟩
              · have hne : ¬ (j : Int) = i := by omega
                rw [if_neg hne]
                have := (g3 j hj).1 (by omega)
                exact ⟨by rw [← this.1]; simp [hne], this.2⟩
            · have hne : ¬ (j : Int) = i := by omega
              rw [if_neg hne]
              have := (g3 j hj).2 (by omega)
              exact ⟨by rw [← this.1]; simp [hne], this.2⟩
          · repeat (first | with_reducible (refine Tot.bp ?_) | with_reducible (refine Tot.bb ?_) | (refine Tot.ct ?_ ?_; focus (first | with_reducible rfl | (simp (disch := omega) only [jr, js, bl_]; done))) | (refine Tot.cf ?_ ?_; focus (first | with_reducible rfl | (simp (disch := omega) only [jr, js, bl_]; done))) | with_reducible (refine Tot.bc ?_) | ((first | refine Tot.rdx ?_ ?_ | refine Tot.apx ?_ ?_ | refine Tot.mkx ?_ ?_); focus (first | omega | (simp; done) | (simp; omega))))
            exact Tot.pure ⟨qr (by omega), g1, g2, stay fun h => h.2 (gi.1.1 (Qf.1 ho))⟩
      · rintro ⟨_, wd, hs⟩ ⟨rfl, g1, g2, g3⟩
        simp only at g1 g2 g3
        repeat (first | with_reducible (refine Tot.bp ?_) | with_reducible (refine Tot.bb ?_) | (refine Tot.ct ?_ ?_; focus (first | with_reducible rfl | (simp (disch := omega) only [jr, js, bl_]; done))) | (refine Tot.cf ?_ ?_; focus (first | with_reducible rfl | (simp (disch := omega) only [jr, js, bl_]; done))) | with_reducible (refine Tot.bc ?_) | ((first | refine Tot.rdx ?_ ?_ | refine Tot.apx ?_ ?_ | refine Tot.mkx ?_ ?_); focus (first | omega | (simp; done) | (simp; omega))))
        exact Tot.pure (R.step hd hm hno (P := fun i _ => i < d.jd.length) (fun i c h => h) hN g1 g2 fun j hj => (g3 j hj).1 hj)
  · rintro ⟨_, word, has⟩ ⟨rfl, R⟩
    simp only at R
    repeat (first | with_reducible (refine Tot.bp ?_) | with_reducible (refine Tot.bb ?_) | (refine Tot.ct ?_ ?_; focus (first | with_reducible rfl | (simp (disch := omega) only [jr, js, bl_]; done))) | (refine Tot.cf ?_ ?_; focus (first | with_reducible rfl | (simp (disch := omega) only [jr, js, bl_]; done))) | with_reducible (refine Tot.bc ?_) | ((first | refine Tot.rdx ?_ ?_ | refine Tot.apx ?_ ?_ | refine Tot.mkx ?_ ?_); focus (first | omega | (simp; done) | (simp; omega))))
    refine Tot.pure (Tot.pure (.inr ⟨rfl, rfl, fun u hu hl => ?_⟩))
    have h1 := R.none
    rcases R.prog with h | h
    · obtain ⟨v, hv, hlv⟩ := h u hu
      have := h1 v (by rw [hv]; exact hu) (by rw [hv]; exact hl)
      omega
    · omega
  · intro i
    simp only
    rw [hA2]
    constructor
    · rintro rfl
      exact ⟨[], rfl, by simp⟩
    · rintro ⟨u, hu, hl⟩
      have : u = [] := List.length_eq_zero_iff.1 (by omega)
      subst this
      have h0 : zm d [] = 0 := rfl
      omega
  · intro i hi
    simp only at hi ⊢
    have := (hA2 i).1 hi
    subst this
    rw [zpn (by simpa using hn0)]
    refine ⟨rfl, fun u hu => ?_⟩
    rw [Qw]
    by_cases hl : u.length = 0
    · right; have := List.length_eq_zero_iff.1 hl; subst this; exact ⟨rfl, rfl⟩
    · left; show 0 < u.length; omega
end Go.Proofs.YtpohfkgjghiofaaGreat

namespace Go.Proofs.YtpohfkgjghiofaaGreat
open Go Go.RowKit L
set_option maxRecDepth 100000 in
theorem zn4 (n : Nat) : Qb (n + 300) = some true := by kernel_rfl
theorem zjn : Tot Qb (· = true) := ⟨true, 300, fun n hn => by
  have := zn4 (n - 300)
  rwa [show n - 300 + 300 = n by omega] at this, rfl⟩
end Go.Proofs.YtpohfkgjghiofaaGreat

namespace Go.Proofs.YtpohfkgjghiofaaGreat
open Go Go.RowKit L
set_option linter.unusedVariables false
set_option linter.unusedSimpArgs false
theorem ext_at {α : Type} [Inhabited α] {a b : List α} (hl : a.length = b.length) (h : ∀ i : Nat, i < a.length → at' a (i : Int) = at' b (i : Int)) : a = b :=
  List.ext_getElem hl fun i h1 h2 => by have := h i h1; rwa [Ju h1, Ju h2] at this
theorem zd0 (a b : List Int) (ha : a.length ≤ 9223372036854775807) : Tot (za a b) (· = decide (a = b)) := by
  have key : Tot (za a b) (fun r => r = true ↔ a = b) := by
    unfold za
    refine Tot.cond (fun hb => Tot.pure ?_) fun hb => ?_
    · simp only [decide_eq_true_eq] at hb
      simp; intro e; subst e; exact hb rfl
    simp only [decide_eq_false_iff_not, Decidable.not_not] at hb
    refine Tot.bind ?_
    refine Tot.forC (fun s => s) a.length (fun k (s : Int) => s = (k : Int) ∧ ∀ i : Nat, i < k → at' a (i : Int) = at' b (i : Int)) (fun k s h => h.1) ?_ ?_ ⟨rfl, fun i hi => by omega⟩
    · rintro k _ hk ⟨rfl, h⟩
      repeat (first | with_reducible (refine Tot.bp ?_) | with_reducible (refine Tot.bb ?_) | (refine Tot.ct ?_ ?_; focus (first | rfl | (simp (disch := omega) only [jr, js, bl_]; done))) | (refine Tot.cf ?_ ?_; focus (first | rfl | (simp (disch := omega) only [jr, js, bl_]; done))) | with_reducible (refine Tot.bc ?_) | ((first | refine Tot.rdx ?_ ?_ | refine Tot.apx ?_ ?_ | refine Tot.mkx ?_ ?_); focus (first | omega | (simp; done) | (simp; omega))))
      refine Tot.cond (fun h1 => Tot.pure (Tot.pure ?_)) fun h1 => Tot.pure ?_
      · simp only [decide_eq_true_eq] at h1
        simp; intro e; subst e; exact h1 rfl
      · simp only [decide_eq_false_iff_not, Decidable.not_not] at h1
        refine ⟨qr (by omega), fun i hi => ?_⟩
        by_cases hik : i = k
        · subst hik; exact h1
        · exact h i (by omega)
    · rintro _ ⟨rfl, h⟩
      repeat (first | with_reducible (refine Tot.bp ?_) | with_reducible (refine Tot.bb ?_) | (refine Tot.ct ?_ ?_; focus (first | rfl | (simp (disch := omega) only [jr, js, bl_]; done))) | (refine Tot.cf ?_ ?_; focus (first | rfl | (simp (disch := omega) only [jr, js, bl_]; done))) | with_reducible (refine Tot.bc ?_) | ((first | refine Tot.rdx ?_ ?_ | refine Tot.apx ?_ ?_ | refine Tot.mkx ?_ ?_); focus (first | omega | (simp; done) | (simp; omega))))
      refine Tot.pure (Tot.pure ?_)
      simp
      exact ext_at (by omega) h
  refine key.mono fun r hr => ?_
  rw [Bool.eq_iff_iff, hr]; simp
theorem same14_self (d : je) (h1 : d.jd.length ≤ 9223372036854775807) (h2 : d.jj.length ≤ 9223372036854775807) (h3 : ∀ i : Nat, i < d.jd.length → (at' d.jd i).length ≤ 9223372036854775807) : Tot (zed d d) (· = true) := by
  unfold zed
  have e : (!(d.jp.1 == d.jp.1)) = false := by simp
  simp only [e, not_true_eq_false, decide_false, Bool.or_false, Bool.not_false, G.ct]
  refine Tot.bindE (zd0 _ _ h2) ?_
  simp only [decide_true, Bool.not_true, G.cf]
  refine Tot.bind ?_
  refine Tot.forC (fun s => s) d.jd.length (fun k (s : Int) => s = (k : Int)) (fun k s h => h) ?_ ?_ rfl
  · rintro k _ hk rfl
    repeat (first | with_reducible (refine Tot.bp ?_) | with_reducible (refine Tot.bb ?_) | (refine Tot.ct ?_ ?_; focus (first | rfl | (simp (disch := omega) only [jr, js, bl_]; done))) | (refine Tot.cf ?_ ?_; focus (first | rfl | (simp (disch := omega) only [jr, js, bl_]; done))) | with_reducible (refine Tot.bc ?_) | ((first | refine Tot.rdx ?_ ?_ | refine Tot.apx ?_ ?_ | refine Tot.mkx ?_ ?_); focus (first | omega | (simp; done) | (simp; omega))))
    refine Tot.bindE (zd0 _ _ (h3 k hk)) ?_
    simp only [decide_true, Bool.not_true, G.cf]
    exact Tot.pure (qr (by omega))
  · rintro _ rfl
    repeat (first | with_reducible (refine Tot.bp ?_) | with_reducible (refine Tot.bb ?_) | (refine Tot.ct ?_ ?_; focus (first | rfl | (simp (disch := omega) only [jr, js, bl_]; done))) | (refine Tot.cf ?_ ?_; focus (first | rfl | (simp (disch := omega) only [jr, js, bl_]; done))) | with_reducible (refine Tot.bc ?_) | ((first | refine Tot.rdx ?_ ?_ | refine Tot.apx ?_ ?_ | refine Tot.mkx ?_ ?_); focus (first | omega | (simp; done) | (simp; omega))))
    exact Tot.pure (Tot.pure rfl)
theorem zld (d : je) (hd : DOk d) (hlen : d.jd.length ≤ 9223372036854775807) : Tot (Q6 d) (fun b => b = true → d.jd.length ≤ 300 ∧ d.jj.length ≤ 300) := by
  unfold Q6
  refine Tot.part (fun _ => True) ?_ fun n _ => Tot.pure fun h => by simp at h; omega
  refine Tot.forC (fun s => s.2) d.jd.length (fun k (s : Int × Int) => s.2 = (k : Int)) (fun k s h => h) ?_ ?_ rfl
  · rintro k ⟨n, _⟩ hk rfl
    repeat (first | with_reducible (refine Tot.bp ?_) | with_reducible (refine Tot.bb ?_) | (refine Tot.ct ?_ ?_; focus (first | rfl | (simp (disch := omega) only [jr, js, bl_]; done))) | (refine Tot.cf ?_ ?_; focus (first | rfl | (simp (disch := omega) only [jr, js, bl_]; done))) | with_reducible (refine Tot.bc ?_) | ((first | refine Tot.rdx ?_ ?_ | refine Tot.apx ?_ ?_ | refine Tot.mkx ?_ ?_); focus (first | omega | (simp; done) | (simp; omega))))
    exact Tot.pure (qr (by omega))
  · rintro ⟨n, _⟩ rfl
    repeat (first | with_reducible (refine Tot.bp ?_) | with_reducible (refine Tot.bb ?_) | (refine Tot.ct ?_ ?_; focus (first | rfl | (simp (disch := omega) only [jr, js, bl_]; done))) | (refine Tot.cf ?_ ?_; focus (first | rfl | (simp (disch := omega) only [jr, js, bl_]; done))) | with_reducible (refine Tot.bc ?_) | ((first | refine Tot.rdx ?_ ?_ | refine Tot.apx ?_ ?_ | refine Tot.mkx ?_ ?_); focus (first | omega | (simp; done) | (simp; omega))))
    exact Tot.pure trivial
end Go.Proofs.YtpohfkgjghiofaaGreat

namespace Go.Proofs.YtpohfkgjghiofaaGreat
open Go Go.RowKit L
set_option linter.unusedVariables false
set_option linter.unusedSimpArgs false
theorem zjj (l : List Int) (x : Int) (hl : l.length ≤ 9223372036854775807) : Tot (z8 l x) (· = decide (x ∈ l)) := by
  have key : Tot (z8 l x) (fun r => r = true ↔ x ∈ l) := by
    unfold z8
    refine Tot.bind ?_
    refine Tot.forC (fun s => s) l.length (fun k (s : Int) => s = (k : Int) ∧ ∀ y ∈ l.take k, ¬ y = x) (fun k s h => h.1) ?_ ?_ ⟨rfl, by simp⟩
    · rintro k _ hk ⟨rfl, h⟩
      repeat (first | with_reducible (refine Tot.bp ?_) | with_reducible (refine Tot.bb ?_) | (refine Tot.ct ?_ ?_; focus (first | with_reducible rfl | (simp (disch := omega) only [jr, js, bl_]; done))) | (refine Tot.cf ?_ ?_; focus (first | with_reducible rfl | (simp (disch := omega) only [jr, js, bl_]; done))) | with_reducible (refine Tot.bc ?_) | ((first | refine Tot.rdx ?_ ?_ | refine Tot.apx ?_ ?_ | refine Tot.mkx ?_ ?_); focus (first | omega | (simp; done) | (simp; omega))))
      refine Tot.cond (fun hb => Tot.pure (Tot.pure ?_)) fun hb => Tot.pure ⟨qr (by omega), fun y hy => ?_⟩
      · simp only [decide_eq_true_eq] at hb
        rw [← hb]
        simpa using zd6 (l := l) (z := (k : Int)) (by omega) (by omega)
      · simp only [decide_eq_false_iff_not] at hb
        rcases (J9 hk y).1 hy with h1 | h1
        · exact h y h1
        · rw [h1]; exact hb
    · rintro _ ⟨rfl, h⟩
      repeat (first | with_reducible (refine Tot.bp ?_) | with_reducible (refine Tot.bb ?_) | (refine Tot.ct ?_ ?_; focus (first | with_reducible rfl | (simp (disch := omega) only [jr, js, bl_]; done))) | (refine Tot.cf ?_ ?_; focus (first | with_reducible rfl | (simp (disch := omega) only [jr, js, bl_]; done))) | with_reducible (refine Tot.bc ?_) | ((first | refine Tot.rdx ?_ ?_ | refine Tot.apx ?_ ?_ | refine Tot.mkx ?_ ?_); focus (first | omega | (simp; done) | (simp; omega))))
      refine Tot.pure (Tot.pure ?_)
      rw [List.take_length] at h
      simp
      exact fun hx => h x hx rfl
  refine key.mono fun r hr => ?_
  rw [Bool.eq_iff_iff, hr]; simp
theorem zns (l : List Int) (x : Int) (hl : l.length ≤ 1000000) (hr : V7 l) : Tot (Yw l x) (fun r => V7 r ∧ (∀ y, y ∈ r ↔ y = x ∨ y ∈ l) ∧ r.length ≤ l.length + 1) := by
  unfold Yw
  refine Tot.bindE (zjj l x (by omega)) ?_
  refine Tot.cond (fun hb => Tot.pure ?_) fun hb => ?_
  · simp only [decide_eq_true_eq] at hb
    refine ⟨hr, fun y => ⟨.inr, ?_⟩, by omega⟩
    rintro (rfl | h)
    · exact hb
    · exact h
  simp only [decide_eq_false_iff_not] at hb
  refine Tot.part (fun (r : List Int) => ∃ k, k ≤ l.length ∧ r = l.take k ∧ (∀ y ∈ l.take k, y < x) ∧ ∀ y ∈ l.drop k, x < y) ?_ ?_
  · refine Tot.forC (fun s => s.1) l.length (fun k (s : Int × List Int) => s.1 = (k : Int) ∧ s.2 = l.take k ∧ ∀ y ∈ l.take k, y < x) (fun k s h => h.1) ?_ ?_ ⟨rfl, rfl, by simp⟩
    · rintro k ⟨_, r⟩ hk ⟨rfl, rfl, h⟩
      repeat (first | with_reducible (refine Tot.bp ?_) | with_reducible (refine Tot.bb ?_) | (refine Tot.ct ?_ ?_; focus (first | with_reducible rfl | (simp (disch := omega) only [jr, js, bl_]; done))) | (refine Tot.cf ?_ ?_; focus (first | with_reducible rfl | (simp (disch := omega) only [jr, js, bl_]; done))) | with_reducible (refine Tot.bc ?_) | ((first | refine Tot.rdx ?_ ?_ | refine Tot.apx ?_ ?_ | refine Tot.mkx ?_ ?_); focus (first | omega | (simp; done) | (simp; omega))))
      refine Tot.cond (fun h1 => ?_) fun h1 => Tot.pure ?_
      · simp only [jr (show (k : Int) < (l.length : Int) by omega), Bool.true_and, decide_eq_true_eq] at h1
        repeat (first | with_reducible (refine Tot.bp ?_) | with_reducible (refine Tot.bb ?_) | (refine Tot.ct ?_ ?_; focus (first | with_reducible rfl | (simp (disch := omega) only [jr, js, bl_]; done))) | (refine Tot.cf ?_ ?_; focus (first | with_reducible rfl | (simp (disch := omega) only [jr, js, bl_]; done))) | with_reducible (refine Tot.bc ?_) | ((first | refine Tot.rdx ?_ ?_ | refine Tot.apx ?_ ?_ | refine Tot.mkx ?_ ?_); focus (first | omega | (simp; done) | (simp; omega))))
        refine Tot.pure ⟨qr (by omega), ?_, fun y hy => ?_⟩
        · simp only; rw [List.take_succ_eq_append_getElem hk, Ju hk]
        · rcases (J9 hk y).1 hy with h2 | h2
          · exact h y h2
          · rw [h2]; exact h1
      · simp only [jr (show (k : Int) < (l.length : Int) by omega), Bool.true_and, decide_eq_false_iff_not] at h1
        refine ⟨k, by omega, rfl, h, fun y hy => ?_⟩
        rw [List.drop_eq_getElem_cons hk] at hy
        rw [Ju hk] at h1
        have hx : x < l[k] := by
          have : l[k] ≠ x := fun e => hb (e ▸ List.getElem_mem hk)
          omega
        rcases List.mem_cons.1 hy with rfl | hy
        · exact hx
        · have hp : (l.drop k).Pairwise (· < ·) := List.Pairwise.sublist (List.drop_sublist k l) hr
          rw [List.drop_eq_getElem_cons hk] at hp
          have := (List.pairwise_cons.1 hp).1 y hy
          omega
    · rintro ⟨_, r⟩ ⟨rfl, rfl, h⟩
      repeat (first | with_reducible (refine Tot.bp ?_) | with_reducible (refine Tot.bb ?_) | (refine Tot.ct ?_ ?_; focus (first | with_reducible rfl | (simp (disch := omega) only [jr, js, bl_]; done))) | (refine Tot.cf ?_ ?_; focus (first | with_reducible rfl | (simp (disch := omega) only [jr, js, bl_]; done))) | with_reducible (refine Tot.bc ?_) | ((first | refine Tot.rdx ?_ ?_ | refine Tot.apx ?_ ?_ | refine Tot.mkx ?_ ?_); focus (first | omega | (simp; done) | (simp; omega))))
      refine Tot.pure ⟨l.length, Nat.le_refl _, rfl, h, by simp⟩
  · rintro r ⟨k, hk, rfl, h1, h2⟩
    have hlk : (l.take k).length = k := by simp; omega
    repeat (first | with_reducible (refine Tot.bp ?_) | with_reducible (refine Tot.bb ?_) | (refine Tot.ct ?_ ?_; focus (first | with_reducible rfl | (simp (disch := omega) only [jr, js, bl_]; done))) | (refine Tot.cf ?_ ?_; focus (first | with_reducible rfl | (simp (disch := omega) only [jr, js, bl_]; done))) | with_reducible (refine Tot.bc ?_) | ((first | refine Tot.rdx ?_ ?_ | refine Tot.apx ?_ ?_ | refine Tot.mkx ?_ ?_); focus (first | omega | (simp; done) | (simp; omega))))
    refine Tot.part (· = l.take k ++ [x] ++ l.drop k) ?_ ?_
    · rw [hlk]
      refine Tot.loop (fun s : Int × List Int => ∃ i : Nat, s.1 = (i : Int) ∧ k ≤ i ∧ i ≤ l.length ∧ s.2 = l.take k ++ [x] ++ (l.take i).drop k) (fun s : Int × List Int => l.length - s.1.toNat) ?_ ⟨k, rfl, Nat.le_refl _, hk, ?_⟩
      · rintro ⟨_, r⟩ ⟨i, rfl, hi1, hi2, rfl⟩
        simp only
        have hlen : ((l.take i).drop k).length = i - k := by simp; omega
        by_cases hlt : i < l.length
        · repeat (first | with_reducible (refine Tot.bp ?_) | with_reducible (refine Tot.bb ?_) | (refine Tot.ct ?_ ?_; focus (first | with_reducible rfl | (simp (disch := omega) only [jr, js, bl_, hlk, hlen]; done))) | (refine Tot.cf ?_ ?_; focus (first | with_reducible rfl | (simp (disch := omega) only [jr, js, bl_, hlk, hlen]; done))) | with_reducible (refine Tot.bc ?_) | ((first | refine Tot.rdx ?_ ?_ | refine Tot.apx ?_ ?_ | refine Tot.mkx ?_ ?_); focus (first | omega | (simp [hlk, hlen]; done) | (simp [hlk, hlen]; omega))))
          have hwi : w64 ((i : Int) + 1) = ((i + 1 : Nat) : Int) := qr (by omega)
          rw [hwi]
          refine Tot.pure ⟨⟨i + 1, rfl, by omega, by omega, ?_⟩, by simp only [Int.toNat_natCast]; omega⟩
          simp only
          rw [List.take_succ_eq_append_getElem hlt, Ju hlt, List.drop_append_of_le_length (by simp; omega)]
          simp
        · have : i = l.length := by omega
          subst this
          repeat (first | with_reducible (refine Tot.bp ?_) | with_reducible (refine Tot.bb ?_) | (refine Tot.ct ?_ ?_; focus (first | with_reducible rfl | (simp (disch := omega) only [jr, js, bl_]; done))) | (refine Tot.cf ?_ ?_; focus (first | with_reducible rfl | (simp (disch := omega) only [jr, js, bl_]; done))) | with_reducible (refine Tot.bc ?_) | ((first | refine Tot.rdx ?_ ?_ | refine Tot.apx ?_ ?_ | refine Tot.mkx ?_ ?_); focus (first | omega | (simp; done) | (simp; omega))))
          refine Tot.pure ?_
          simp
      · simp only
        rw [List.drop_of_length_le (by simp; omega), List.append_nil]
    · rintro _ rfl
      refine Tot.pure ⟨?_, fun y => ?_, by simp; omega⟩
      · have hp := hr
        unfold V7 at hp ⊢
        rw [← List.take_append_drop k l] at hp
        obtain ⟨p1, p2, p3⟩ := List.pairwise_append.1 hp
        refine List.pairwise_append.2 ⟨List.pairwise_append.2 ⟨p1, by simp, fun a ha b hb2 => ?_⟩, p2, fun a ha b hb2 => ?_⟩
        · simp at hb2; subst hb2; exact h1 a ha
        · rcases List.mem_append.1 ha with ha | ha
          · exact p3 a ha b hb2
          · simp at ha; subst ha; exact h2 b hb2
      · have : y ∈ l ↔ y ∈ l.take k ∨ y ∈ l.drop k := by rw [← List.mem_append, List.take_append_drop]
        rw [this, List.mem_append, List.mem_append, List.mem_singleton]
        constructor
        · rintro ((h | h) | h)
          · exact .inr (.inl h)
          · exact .inl h
          · exact .inr (.inr h)
        · rintro (h | h | h)
          · exact .inl (.inr h)
          · exact .inl (.inl h)
          · exact .inr h
theorem zod (l : List Int) (hl : l.length ≤ 1000000) : Tot (Zo l) (fun r => V7 r ∧ ∀ y, y ∈ r ↔ y ∈ l) := by
  unfold Zo
  refine Tot.part (fun (r : List Int) => V7 r ∧ ∀ y, y ∈ r ↔ y ∈ l) ?_ fun a ha => Tot.pure ha
  refine Tot.forC (fun s => s.2) l.length (fun k (s : List Int × Int) => s.2 = (k : Int) ∧ V7 s.1 ∧ (∀ y, y ∈ s.1 ↔ y ∈ l.take k) ∧ s.1.length ≤ k) (fun k s h => h.1) ?_ ?_ ⟨rfl, List.Pairwise.nil, by simp, by simp⟩
  · rintro k ⟨r, _⟩ hk ⟨rfl, h1, h2, h3⟩
    simp only at h1 h2 h3
    repeat (first | with_reducible (refine Tot.bp ?_) | with_reducible (refine Tot.bb ?_) | (refine Tot.ct ?_ ?_; focus (first | with_reducible rfl | (simp (disch := omega) only [jr, js, bl_]; done))) | (refine Tot.cf ?_ ?_; focus (first | with_reducible rfl | (simp (disch := omega) only [jr, js, bl_]; done))) | with_reducible (refine Tot.bc ?_) | ((first | refine Tot.rdx ?_ ?_ | refine Tot.apx ?_ ?_ | refine Tot.mkx ?_ ?_); focus (first | omega | (simp; done) | (simp; omega))))
    refine Tot.part _ (zns r (at' l (k : Int)) (by omega) h1) ?_
    rintro r' ⟨g1, g2, g3⟩
    refine Tot.pure ⟨qr (by omega), g1, fun y => ?_, by simp only; omega⟩
    simp only
    rw [g2, h2, J9 hk]
    constructor
    · rintro (h | h)
      · exact .inr h
      · exact .inl h
    · rintro (h | h)
      · exact .inr h
      · exact .inl h
  · rintro ⟨r, _⟩ ⟨rfl, h1, h2, h3⟩
    simp only at h1 h2 h3
    repeat (first | with_reducible (refine Tot.bp ?_) | with_reducible (refine Tot.bb ?_) | (refine Tot.ct ?_ ?_; focus (first | with_reducible rfl | (simp (disch := omega) only [jr, js, bl_]; done))) | (refine Tot.cf ?_ ?_; focus (first | with_reducible rfl | (simp (disch := omega) only [jr, js, bl_]; done))) | with_reducible (refine Tot.bc ?_) | ((first | refine Tot.rdx ?_ ?_ | refine Tot.apx ?_ ?_ | refine Tot.mkx ?_ ?_); focus (first | omega | (simp; done) | (simp; omega))))
    rw [List.take_length] at h2
    exact Tot.pure ⟨h1, h2⟩
def zg7 (d : je) (r : List Bool) (k : Nat) : List Int := ((List.range k).filter fun (i : Nat) => at' r (i : Int) && decide (0 ≤ za9 d i)).map (za9 d)
theorem zd9 (d : je) (r : List Bool) (k : Nat) : (zg7 d r k).length ≤ k := by
  unfold zg7; rw [List.length_map]; exact Nat.le_trans (List.length_filter_le ..) (by simp)
theorem znz (d : je) (r : List Bool) (k : Nat) : zg7 d r (k + 1) = if (at' r (k : Int) && decide (0 ≤ za9 d k)) = true then zg7 d r k ++ [za9 d k] else zg7 d r k := by
  unfold zg7
  rw [List.range_succ, List.filter_append, List.map_append]
  by_cases h : (at' r (k : Int) && decide (0 ≤ za9 d k)) = true
  · simp [h]
  · simp only [Bool.not_eq_true] at h; simp [h]
noncomputable def zi8 (d : je) : List Int := zln (zg7 d (yk d) (yk d).length)
theorem zla (d : je) (hd : DOk d) (hn : d.jd.length ≤ 300) (r : List Bool) (hr : r.length ≤ 300) (hrl : r.length ≤ d.jj.length) :
    Tot (G.loop (σ := (Int × (List Int))) (α := (List Int)) (fun (x9, x10) => G.cond (decide (x9 < (r.length : Int))) (G.bind (α := (List Int)) (G.bind (G.lift (idx r x9)) fun x25 => G.bind (G.cond x25 (G.lift (idx d.jj x9)) (G.pure 0)) fun x27 => G.cond (x25 && (decide (0 ≤ x27))) (G.bind (G.lift (idx d.jj x9)) fun x29 => G.bind (G.lift (app 8 x10 ([x29] : List Int))) fun x30 => G.pure x30) (G.pure x10)) fun x22 => G.pure (.inl ((w64 (x9 + 1)), x22))) (G.pure (.inr x10))) (0, [])) (· = zg7 d r r.length) := by
  refine Tot.forC (fun s => s.1) r.length (fun k (s : Int × List Int) => s.1 = (k : Int) ∧ s.2 = zg7 d r k) (fun k s h => h.1) ?_ ?_ ⟨rfl, rfl⟩
  · rintro k ⟨_, l⟩ hk ⟨rfl, h⟩
    simp only at h
    have hl := zd9 d r k
    rw [← h] at hl
    have hs := znz d r k
    rw [← h] at hs
    repeat (first | with_reducible (refine Tot.bp ?_) | with_reducible (refine Tot.bb ?_) | (refine Tot.ct ?_ ?_; focus (first | with_reducible rfl | (simp (disch := omega) only [jr, js, bl_]; done))) | (refine Tot.cf ?_ ?_; focus (first | with_reducible rfl | (simp (disch := omega) only [jr, js, bl_]; done))) | with_reducible (refine Tot.bc ?_) | ((first | refine Tot.rdx ?_ ?_ | refine Tot.apx ?_ ?_ | refine Tot.mkx ?_ ?_); focus (first | omega | (simp; done) | (simp; omega))))
    cases hon : at' r (k : Int)
    · repeat (first | with_reducible (refine Tot.bp ?_) | with_reducible (refine Tot.bb ?_) | (refine Tot.ct ?_ ?_; focus (first | with_reducible rfl | (simp (disch := omega) only [jr, js, bl_]; done))) | (refine Tot.cf ?_ ?_; focus (first | with_reducible rfl | (simp (disch := omega) only [jr, js, bl_]; done))) | with_reducible (refine Tot.bc ?_) | ((first | refine Tot.rdx ?_ ?_ | refine Tot.apx ?_ ?_ | refine Tot.mkx ?_ ?_); focus (first | omega | (simp; done) | (simp; omega))))
      refine Tot.pure ⟨qr (by omega), ?_⟩
      rw [hs, hon]; simp
    · repeat (first | with_reducible (refine Tot.bp ?_) | with_reducible (refine Tot.bb ?_) | (refine Tot.ct ?_ ?_; focus (first | with_reducible rfl | (simp (disch := omega) only [jr, js, bl_]; done))) | (refine Tot.cf ?_ ?_; focus (first | with_reducible rfl | (simp (disch := omega) only [jr, js, bl_]; done))) | with_reducible (refine Tot.bc ?_) | ((first | refine Tot.rdx ?_ ?_ | refine Tot.apx ?_ ?_ | refine Tot.mkx ?_ ?_); focus (first | omega | (simp; done) | (simp; omega))))
      by_cases hl : 0 ≤ at' d.jj (k : Int)
      · repeat (first | with_reducible (refine Tot.bp ?_) | with_reducible (refine Tot.bb ?_) | (refine Tot.ct ?_ ?_; focus (first | with_reducible rfl | (simp (disch := omega) only [jr, js, bl_]; done))) | (refine Tot.cf ?_ ?_; focus (first | with_reducible rfl | (simp (disch := omega) only [jr, js, bl_]; done))) | with_reducible (refine Tot.bc ?_) | ((first | refine Tot.rdx ?_ ?_ | refine Tot.apx ?_ ?_ | refine Tot.mkx ?_ ?_); focus (first | omega | (simp; done) | (simp; omega))))
        refine Tot.pure ⟨qr (by omega), ?_⟩
        rw [hs, hon]; simp [za9, hl]
      · repeat (first | with_reducible (refine Tot.bp ?_) | with_reducible (refine Tot.bb ?_) | (refine Tot.ct ?_ ?_; focus (first | with_reducible rfl | (simp (disch := omega) only [jr, js, bl_]; done))) | (refine Tot.cf ?_ ?_; focus (first | with_reducible rfl | (simp (disch := omega) only [jr, js, bl_]; done))) | with_reducible (refine Tot.bc ?_) | ((first | refine Tot.rdx ?_ ?_ | refine Tot.apx ?_ ?_ | refine Tot.mkx ?_ ?_); focus (first | omega | (simp; done) | (simp; omega))))
        refine Tot.pure ⟨qr (by omega), ?_⟩
        rw [hs, hon]; simp [za9, hl]
  · rintro ⟨_, l⟩ ⟨rfl, h⟩
    repeat (first | with_reducible (refine Tot.bp ?_) | with_reducible (refine Tot.bb ?_) | (refine Tot.ct ?_ ?_; focus (first | with_reducible rfl | (simp (disch := omega) only [jr, js, bl_]; done))) | (refine Tot.cf ?_ ?_; focus (first | with_reducible rfl | (simp (disch := omega) only [jr, js, bl_]; done))) | with_reducible (refine Tot.bc ?_) | ((first | refine Tot.rdx ?_ ?_ | refine Tot.apx ?_ ?_ | refine Tot.mkx ?_ ?_); focus (first | omega | (simp; done) | (simp; omega))))
    exact Tot.pure h
theorem Zs {d : je} : (yk d).length ≤ d.jd.length ∧ (yk d).length ≤ d.jj.length := by
  by_cases hR : zk d = true
  · have := zex hR
    have h2 := ((Qr d).1 hR).lab
    omega
  · unfold yk; rw [if_neg hR]; simp
theorem zce (d : je) (hd : DOk d) (hn : d.jd.length ≤ 300) : Tot (zn d) (· = zi8 d) := by
  unfold zn
  have hl := Zs (d := d)
  refine Tot.bindE (zgj d hd hn) ?_
  refine Tot.bindE (zla d hd hn _ (by omega) hl.2) ?_
  have h1 := zd9 d (yk d) (yk d).length
  refine Tot.someB (zh3 (by omega)) ?_
  refine Tot.someB (zh3 (by rw [zew]; omega)) ?_
  exact Tot.pure rfl
theorem zis (d : je) (hd : DOk d) (hn : d.jd.length ≤ 300) : Tot (Qp d) (· = zi8 d) := by
  unfold Qp
  have hl := Zs (d := d)
  refine Tot.bindE (zh7 d hd hn) ?_
  refine Tot.bindE (zla d hd hn _ (by omega) hl.2) ?_
  have h1 := zd9 d (yk d) (yk d).length
  refine Tot.part _ (zod _ (by omega)) ?_
  rintro r ⟨g1, g2⟩
  refine Tot.pure (zof g1 (zl5 _) fun x => ?_)
  unfold zi8
  rw [g2, zjk]
theorem zm4 {d : je} (hd : DOk d) (hm : MOk d) {i : Nat} : Rch (dE d) (fun i => i = 0) i ↔ ∃ u, zm d u = i := by
  constructor
  · intro h
    induction h with
    | base h => exact ⟨[], by rw [h]; rfl⟩
    | @step i j _ he ih =>
      obtain ⟨u, hu⟩ := ih
      obtain ⟨_, c, h0, h1, h2⟩ := he
      refine ⟨u ++ [ze d c], ?_⟩
      rw [Vl, hu]
      unfold stp
      rw [if_neg (by omega), Int.toNat_natCast, zd8 hd hm h0 h1, h2]
  · rintro ⟨u, hu⟩
    revert i
    refine zeh (P := fun u => ∀ {i : Nat}, zm d u = i → Rch (dE d) (fun i => i = 0) i) ?_ ?_ u
    · intro i h; refine .base ?_; have : (0 : Int) = i := h; omega
    · intro u b ih i h
      obtain ⟨a1, a2⟩ := zfc (d := d) (w := u) (b := b) (by omega)
      obtain ⟨j, hj⟩ := Int.eq_ofNat_of_zero_le a1
      have hc := zec hd hm b
      have hlt := zgz hd hm u
      refine .step (ih hj) ⟨by omega, zlz d b, hc.1, hc.2, ?_⟩
      rw [← h, a2, hj]; simp
theorem zqd {d : je} (hd : DOk d) (hm : MOk d) {t : Int} : t ∈ zi8 d ↔ 0 ≤ t ∧ ∃ u, 0 ≤ zm d u ∧ za9 d (zm d u).toNat = t := by
  have hR := (Qr d).2 hm
  unfold zi8
  rw [zjk]
  unfold zg7
  rw [List.mem_map]
  constructor
  · rintro ⟨i, hi, rfl⟩
    obtain ⟨h1, h2⟩ := List.mem_filter.1 hi
    rw [Bool.and_eq_true, Qf] at h2
    have h3 := h2.1
    unfold yk at h3
    rw [if_pos hR, zey, zm4 hd hm] at h3
    obtain ⟨u, hu⟩ := h3.2
    exact ⟨by simpa using h2.2, u, by omega, by rw [hu]; simp⟩
  · rintro ⟨h0, u, hu, hl⟩
    obtain ⟨i, hi⟩ := Int.eq_ofNat_of_zero_le hu
    have hlt := zgz hd hm u
    refine ⟨i, List.mem_filter.2 ⟨List.mem_range.2 (by rw [zex hR]; omega), ?_⟩, by rw [← hl, hi]; simp⟩
    rw [Bool.and_eq_true, Qf]
    refine ⟨?_, by rw [hi] at hl; simp at hl; simp [hl, h0]⟩
    unfold yk
    rw [if_pos hR, zey, zm4 hd hm]
    exact ⟨by omega, u, hi⟩
theorem zoz {d : je} (hR : ¬ zk d = true) : zi8 d = [] := by
  unfold zi8 yk
  rw [if_neg hR]
  exact List.length_eq_zero_iff.1 (Nat.le_zero.1 (zet []))
theorem zi4 (d : je) (t : Int) (hd : DOk d) (hlen : d.jd.length ≤ 9223372036854775807) : Tot (g_law15_LiveWords d t) (· = true) := by
  unfold g_law15_LiveWords
  refine Tot.part _ (zld d hd hlen) fun b hb => ?_
  refine Tot.cond (fun h => ?_) fun h => ?_
  · exact Tot.bindE zjn (Tot.pure rfl)
  simp only [Bool.or_eq_false_iff, Bool.not_eq_false', decide_eq_false_iff_not] at h
  obtain ⟨n1, n2⟩ := hb h.1
  refine Tot.part _ (zgb d hd (by omega) t) fun r hr => ?_
  refine Tot.part _ (zhi d hd (by omega) t) fun s hs => ?_
  have hrs : r = s := by
    by_cases hc : 0 ≤ t ∧ zk d = true
    · rw [if_pos hc] at hr hs; exact hr.uniq hs
    · rw [if_neg hc] at hr hs; rw [hr, hs]
  subst hrs
  have htl : (zi8 d).length ≤ 300 := by
    have h1 := zd9 d (yk d) (yk d).length
    have h2 := Zs (d := d)
    have h3 := zet (zg7 d (yk d) (yk d).length)
    unfold zi8; omega
  have hmem : r.2 = decide (t ∈ zi8 d) := by
    by_cases hR : zk d = true
    · have hm := (Qr d).1 hR
      rw [Bool.eq_iff_iff, decide_eq_true_eq, zqd hd hm]
      by_cases ht : 0 ≤ t
      · rw [if_pos ⟨ht, hR⟩] at hr
        rcases hr with ⟨h1, _, h3, h4, _⟩ | ⟨h1, _, h3⟩
        · exact ⟨fun _ => ⟨ht, _, h3, h4⟩, fun _ => h1⟩
        · rw [h1]
          constructor
          · intro h; cases h
          · rintro ⟨_, u, hu, hl⟩; have := h3 u hu hl; omega
      · rw [if_neg (fun h => ht h.1)] at hr
        rw [hr]
        constructor
        · intro h; cases h
        · rintro ⟨h, _⟩; exact absurd h ht
    · rw [if_neg (fun h => hR h.2)] at hr
      rw [hr, zoz hR]; simp
  simp only [beq_self_eq_true, Bool.and_self, G.ct]
  refine Tot.bindE (zce d hd (by omega)) ?_
  refine Tot.bindE (zis d hd (by omega)) ?_
  refine Tot.bindE (zd0 _ _ (by omega)) ?_
  repeat (first | with_reducible (refine Tot.bp ?_) | with_reducible (refine Tot.bb ?_) | (refine Tot.ct ?_ ?_; focus (first | with_reducible rfl | (simp (disch := omega) only [jr, js, bl_, eq_self, decide_true]; done))) | (refine Tot.cf ?_ ?_; focus (first | with_reducible rfl | (simp (disch := omega) only [jr, js, bl_, eq_self, decide_true]; done))) | with_reducible (refine Tot.bc ?_) | ((first | refine Tot.rdx ?_ ?_ | refine Tot.apx ?_ ?_ | refine Tot.mkx ?_ ?_); focus (first | omega | (simp [eq_self, decide_true]; done) | (simp [eq_self, decide_true]; omega))))
  refine Tot.bindE (zce d hd (by omega)) ?_
  repeat (first | with_reducible (refine Tot.bp ?_) | with_reducible (refine Tot.bb ?_) | (refine Tot.ct ?_ ?_; focus (first | with_reducible rfl | (simp (disch := omega) only [jr, js, bl_, eq_self, decide_true]; done))) | (refine Tot.cf ?_ ?_; focus (first | with_reducible rfl | (simp (disch := omega) only [jr, js, bl_, eq_self, decide_true]; done))) | with_reducible (refine Tot.bc ?_) | ((first | refine Tot.rdx ?_ ?_ | refine Tot.apx ?_ ?_ | refine Tot.mkx ?_ ?_); focus (first | omega | (simp [eq_self, decide_true]; done) | (simp [eq_self, decide_true]; omega))))
  refine Tot.bindE (zjj _ t (by omega)) ?_
  rw [← hmem]
  simp only [beq_self_eq_true, Bool.and_self, decide_true, Bool.true_and, G.ct]
  refine Tot.bindE zjn ?_
  exact Tot.pure rfl
end Go.Proofs.YtpohfkgjghiofaaGreat

namespace Go.Proofs.YtpohfkgjghiofaaGreat
open Go.ChangeShapes Go.WideShapes Go.ChangeAt Go.RowKit
theorem zdm {H : Type} {enc : TypeId × Value → H} {P : Program} (hl : laidOutB P = true) {W W' : World} (hb : Below W.heap.size W W') :
    ∀ (ts : List TypeId) (vs : List Value) (ds : List (DataW H)) (ps : List MemPlace), (∀ t ∈ ts, P.readableRec t = true ∧ t < P.types.size) → (∀ x ∈ ps, x.block < W.heap.size) →
      DataW.TrodAll enc P W 0 (fun _ => true) true ts vs ds ps → DataW.TrodAll enc P W' 0 (fun b => decide (b < W.heap.size)) true ts vs ds ps
  | [], vs, ds, ps, _, _, h => by
    obtain ⟨rfl, rfl, rfl⟩ := trodAll_nil h
    exact trodAll_mk0
  | t :: ts, vs, ds, ps, hr, hlt, h => by
    obtain ⟨v, vs', d, ds', p, q, rfl, rfl, rfl, h0, h1⟩ := trodAll_cons h
    have ht := hr t (by simp)
    exact trodAll_cons_mk (Below.trod hl ht.1 ht.2 h0 hb fun x hx => hlt x (by simp [hx]))
      (zdm hl hb ts vs' ds' q (fun t ht => hr t (by simp [ht])) (fun x hx => hlt x (by simp [hx])) h1)
theorem law_post {H : Type} {enc : TypeId × Value → H} {P : Program} {f : Func} {s : ChangeSpec} {tB : TypeId} (hl : laidOutB P = true) (hr : (f.params.toList.all fun t => P.readableRec t && decide (t < P.types.size)) = true)
    (hvars : s.vars = []) (hbool : f.resultTypes = #[tB]) (hB : P.underlying tB = some .bool) {W W' : World} {args : Array Value} {ds gs : List (DataW H)} {before : List MemPlace}
    (hW : DataW.Whole enc P f.params.toList s.vars false W args.toList ds gs before) (hfn : s.fn H ds = { results := [.lit (.bool true)], args := ds }) (hb : Below W.heap.size W W') :
    s.post enc P f false true false false W args (.bool true) W' := by
  have hW' := hW
  obtain ⟨p, q, hA, hV, hbef, _, _⟩ := hW
  rw [hvars] at hV
  obtain ⟨rfl, rfl⟩ := trodVars_none hV
  rw [List.append_nil] at hbef
  subst hbef
  have hlt : ∀ x ∈ before, x.block < W.heap.size := fun x hx => by simpa using hW'.lt x hx
  have hr' : ∀ t ∈ f.params.toList, P.readableRec t = true ∧ t < P.types.size := by
    intro t ht
    have := List.all_eq_true.1 hr t ht
    simpa using this
  refine ⟨ds, [], before, [], before, [], hW', ?_, ?_, ?_, hb.frame _, fun h => by cases h⟩
  · rw [List.append_nil, hfn, hbool]
    exact trodAll_mk1 (shut_bool hB true)
  · rw [List.append_nil, hfn]
    exact zdm hl hb _ _ _ _ hr' hlt hA
  · rw [List.append_nil, hfn, hvars]
    rfl
end Go.Proofs.YtpohfkgjghiofaaGreat

namespace Go.Proofs.YtpohfkgjghiofaaGreat
open Go Go.RowKit Go.ChangeShapes Go.WideShapes L
set_option linter.unusedVariables false
set_option linter.unusedSimpArgs false
abbrev F0 : ZM := ⟨fun _ => False, 0⟩
def OkI (k : IntKind) (z : Int) : Prop := (Lit.int k z).wf = true
theorem OkI.u8 {z : Int} (h : OkI .u8 z) : 0 ≤ z ∧ z < 256 := by
  have : 0 ≤ z ∧ z ≤ 255 := by simpa [OkI, Lit.wf, IntKind.min, IntKind.max, IntKind.signed, IntKind.bits] using h
  omega
section
variable {w : World} {Z : ZM} {H : PHeap} {V : Nat → Value}
theorem rl_nil : RpL Z H V w [] [] := ⟨rfl, fun i p v h => by simp at h⟩
theorem rl_cons {p : PV} {v : Value} {ps : List PV} {vs : List Value} (h : Rp Z H V w p v) (hs : RpL Z H V w ps vs) : RpL Z H V w (p :: ps) (v :: vs) := ⟨by simp [hs.1], fun i a b h1 h2 => by
  cases i with
  | zero => simp at h1 h2; subst h1; subst h2; exact h
  | succ i => exact hs.2 i a b (by simpa using h1) (by simpa using h2)⟩
theorem rl_app {ps qs : List PV} {vs us : List Value} (h : RpL Z H V w ps vs) (hs : RpL Z H V w qs us) : RpL Z H V w (ps ++ qs) (vs ++ us) := by
  refine ⟨by simp [h.1, hs.1], fun i a b h1 h2 => ?_⟩
  by_cases hi : i < ps.length
  · rw [List.getElem?_append_left hi] at h1
    rw [List.getElem?_append_left (h.1 ▸ hi)] at h2
    exact h.2 i a b h1 h2
  · rw [List.getElem?_append_right (by omega)] at h1
    rw [List.getElem?_append_right (by rw [← h.1]; omega), ← h.1] at h2
    exact hs.2 _ a b h1 h2
theorem zl8 {ps qs : List PV} {cs : List Value} (n : Nat) (h : RpL Z H V w ps (cs.take n)) (hs : RpL Z H V w qs (cs.drop n)) : RpL Z H V w (ps ++ qs) cs := by
  have := rl_app h hs
  rwa [List.take_append_drop] at this
theorem rl_all {ps : List PV} {cs : List Value} {n : Nat} (hn : cs.length ≤ n) (h : RpL Z H V w ps (cs.take n)) : RpL Z H V w ps cs := by rwa [List.take_of_length_le hn] at h
theorem zqt {ps : List PV} {cs : List Value} {m n k : Nat} (e : m + n = k) (h : RpL Z H V w ps (cs.drop k)) : RpL Z H V w ps ((cs.drop m).drop n) := by rw [List.drop_drop, e]; exact h
theorem rl_one {p : PV} {v : Value} (h : RpL Z H V w [p] [v]) : Rp Z H V w p v := h.2 0 p v rfl rfl
theorem rl_agg {ps : List PV} {cs : Array Value} (h : RpL Z H V w ps (Value.agg cs).cells.toList) : Rp Z H V w (.agg ps) (.agg cs) :=
  .agg _ _ (by simpa [Value.cells] using h.1) fun i p u h1 h2 => h.2 i p u h1 (by simpa [Value.cells] using h2)
end
section
variable {H : Type} {enc : TypeId × Value → H} {P : Program} {w : World} {base : Nat} {spare : Nat → Bool} {held : Bool}
def zcn (enc : TypeId × Value → H) (P : Program) (w : World) (base : Nat) (spare : Nat → Bool) (held : Bool) (t : TypeId) {α : Type} (rep : α → PV) (C : α → Prop) : Prop :=
  ∀ (fuel : Nat) (cs : List Value) (x : DataW H × List MemPlace), DataW.trod enc P w base spare held fuel t cs = some x → ∃ a, RpL F0 PHeap.empty V0 w (rep a).cells cs ∧ C a
theorem zju {t : TypeId} {k : IntKind} (ht : P.underlying t = some (.int k)) : zcn enc P w base spare held t (fun z => .u (.int k z)) (OkI k) := fun fuel cs x h => by
  obtain ⟨n, rfl, _, hw⟩ := DataW.trod_int ht h
  exact ⟨n, rl_cons (.u _) rl_nil, hw⟩
theorem zlu {α : Type} [Inhabited α] {t e : TypeId} {k : Nat} {rep : α → PV} {C : α → Prop} (ht : P.underlying t = some (.slice e)) (hk : P.cellsOf e = k) (hpos : 0 < k) (hcell : ∀ a, (rep a).cells.length = k)
    (he : zcn enc P w base spare held e rep C) : zcn enc P w base spare held t (fun (l : List α) => .sl k (l.map rep)) (fun l => l.length ≤ maxLen ∧ ∀ a ∈ l, C a) := fun fuel cs x h => by
  have helem := he
  suffices hs : ∃ (l : List α) (v : Value), cs = [v] ∧ Rp F0 PHeap.empty V0 w (.sl k (l.map rep)) v ∧ l.length ≤ maxLen ∧ ∀ a ∈ l, C a by
    obtain ⟨l, v, rfl, h1, h2⟩ := hs
    exact ⟨l, rl_cons h1 rl_nil, h2⟩
  rcases Go.Deep.open_slice ht h with ⟨hcs, _⟩ | ⟨a, len, cap, m, n, D, Pl, hcs, hb, hl, hm, hmm, _, hx⟩
  · exact ⟨[], _, hcs, .nil _ _ _, Nat.zero_le _, fun a ha => by cases ha⟩
  · have hlm : len ≤ m := by rw [hmm]; split <;> omega
    by_cases h0 : len = 0
    · subst h0; exact ⟨[], _, hcs, .nil _ _ _, Nat.zero_le _, fun a ha => by cases ha⟩
    have each : ∀ i, i < m → ∃ q : α, (∀ r, r < k → ∃ u p, w.cell? (a.add (i * k + r)) = some u ∧ (rep q).cells[r]? = some p ∧ Rp F0 PHeap.empty V0 w p u) ∧ C q := fun i hi => by
      obtain ⟨cs', h1, h2⟩ := hx i hi
      rw [hk] at h1
      obtain ⟨_, hlen, hcl⟩ := World.cells?_some h1
      obtain ⟨q, hq, hC⟩ := helem n cs' _ h2
      refine ⟨q, fun r hr => ?_, hC⟩
      have e0 := hcl r hr
      rw [Go.Deep.add_add] at e0
      have h3 : r < cs'.length := by omega
      have h4 : r < (rep q).cells.length := by rw [hcell]; exact hr
      rw [List.getElem?_eq_getElem h3] at e0
      exact ⟨_, _, e0, List.getElem?_eq_getElem h4, hq.2 r _ _ (List.getElem?_eq_getElem h4) (List.getElem?_eq_getElem h3)⟩
    obtain ⟨q, hq⟩ := Go.Deep.choose_lt each
    obtain ⟨b, o, spot⟩ := a
    obtain ⟨u0, _, hu0, _, _⟩ := (hq 0 (by omega)).1 0 hpos
    have hspot : spot = none := by simpa [Addr.add] using World.cell?_spot hu0
    subst hspot
    have hbl : b < w.heap.size := by
      unfold World.cell? at hu0
      by_cases hlt : b < w.heap.size
      · exact hlt
      · simp [Addr.add, Array.getElem?_eq_none (by omega : w.heap.size ≤ b)] at hu0
    refine ⟨(List.range len).map q, _, hcs, ?_, by simp; omega, fun z hz => by obtain ⟨i, hi, rfl⟩ := List.mem_map.1 hz; exact (hq i (by have := List.mem_range.1 hi; omega)).2⟩
    have hu : ∀ y ∈ ((List.range len).map q).map rep, y.cells.length = k := fun y hy => by obtain ⟨z, _, rfl⟩ := List.mem_map.1 hy; exact hcell z
    have hlx : (((List.range len).map q).map rep).length = len := by simp
    have hadd : ∀ k, w.cell? ((⟨b, o, none⟩ : Addr).add k) = w.cell? ⟨b, o + k, none⟩ := fun k => by rw [zx]
    have key : ∀ (i : Nat) (p : PV), ((((List.range len).map q).map rep).flatMap PV.cells)[i]? = some p → ∃ v, w.cell? ⟨b, o + i, none⟩ = some v ∧ Rp F0 PHeap.empty V0 w p v := fun i p hp => by
      have hi : i < len * k := by
        have := (List.getElem?_eq_some_iff.1 hp).1
        rw [L.flat_length _ hu, hlx] at this
        exact this
      have hj : i / k < len := by rw [Nat.div_lt_iff_lt_mul hpos]; exact hi
      have hr : i % k < k := Nat.mod_lt _ hpos
      have hy : (((List.range len).map q).map rep)[i / k]? = some (rep (q (i / k))) := by simp [hj]
      have e := zdg hu (i / k) (i % k) _ hy hr
      have hdm : i / k * k + i % k = i := by rw [Nat.mul_comm]; exact Nat.div_add_mod i k
      rw [hdm, hp] at e
      obtain ⟨u, p', h1, h2, h3⟩ := (hq (i / k) (by omega)).1 (i % k) hr
      rw [← e] at h2
      cases h2
      rw [hadd, hdm] at h1
      exact ⟨u, h1, h3⟩
    have hsl := Rp.sl (Z := F0) (H := PHeap.empty) (V := V0) (w := w) k (((List.range len).map q).map rep) b o cap (fun i => (w.cell? ⟨b, o + i, none⟩).getD undef) hu (by simpa using hl) (fun h => (Va.1 h).elim) hbl
      (fun i p hp => by obtain ⟨v, hv, _⟩ := key i p hp; rw [hv]; rfl) (fun i p hp => by obtain ⟨v, hv, hr⟩ := key i p hp; simp only [hv, Option.getD_some]; exact hr)
    rwa [hlx] at hsl
theorem zn8 {α : Type} [Inhabited α] {t e : TypeId} {n : Nat} {rep : α → PV} {C : α → Prop} (ht : P.underlying t = some (.array n e)) (hk : P.cellsOf e = 1) (hn : P.cellsOf t = n) (hcell : ∀ a, (rep a).cells = [rep a])
    (he : zcn enc P w base spare held e rep C) : zcn enc P w base spare held t (arV (n := n) rep) (fun a => ∀ x ∈ a.1, C x) := fun fuel cs x h => by
  obtain ⟨zs, m, _, _, hcl, hzl, hz⟩ := DataW.trod_array ht h
  rw [hn] at hcl
  have each : ∀ i, i < n → ∃ q : α, (∃ u, cs[i]? = some u ∧ Rp F0 PHeap.empty V0 w (rep q) u) ∧ C q := fun i hi => by
    have h1 := hz i hi
    rw [hk, Nat.mul_one, List.getElem?_eq_getElem (by omega)] at h1
    obtain ⟨q, hq, hC⟩ := he m _ _ h1
    have hd : (cs.drop i).take 1 = [cs[i]'(by omega)] := by rw [List.drop_eq_getElem_cons (by omega)]; rfl
    rw [hd, hcell] at hq
    exact ⟨q, ⟨_, List.getElem?_eq_getElem (by omega), rl_one hq⟩, hC⟩
  obtain ⟨q, hq⟩ := Go.Deep.choose_lt each
  refine ⟨⟨(List.range n).map q, by simp⟩, ?_, fun x hx => ?_⟩
  · refine ⟨by simp [arV, PV.cells, hcl], fun i p v h1 h2 => ?_⟩
    have hi : i < n := by have := (List.getElem?_eq_some_iff.1 h2).1; omega
    simp [arV, PV.cells, hi] at h1
    obtain ⟨u, h3, h4⟩ := (hq i hi).1
    rw [h3] at h2
    cases h2
    subst h1
    exact h4
  · obtain ⟨i, hi, rfl⟩ := List.mem_map.1 hx
    exact (hq i (List.mem_range.1 hi)).2
end
theorem row_calls {f : FuncId} {qs : List PV} (h : PCall Tryz.prog f qs (· = B true)) {w : World} {vs : List Value} (hr : RpL F0 PHeap.empty V0 w qs vs) : Calls Tryz.prog f vs.toArray w fun e w' => e = .returned (.bool true) ∧ Below w.heap.size w w' :=
  (h F0 w vs (fun b hb => False.elim hb) (Nat.zero_le _) hr).mono fun e w' ⟨v, p, he, hp, _, hR, hb⟩ => by
    subst hp
    rw [rpu hR] at he
    exact ⟨he, hb⟩
end Go.Proofs.YtpohfkgjghiofaaGreat

namespace Go.Proofs.YtpohfkgjghiofaaGreat
open Go Go.RowKit Go.ChangeShapes Go.WideShapes L
set_option linter.unusedVariables false
set_option linter.unusedSimpArgs false
section
variable {H : Type} {enc : TypeId × Value → H} {w : World} {base : Nat} {spare : Nat → Bool} {held : Bool}
theorem cl_5 : Tryz.prog.cellsOf 5 = 1 := by kernel_rfl
set_option maxRecDepth 20000 in
theorem op_5 : zcn enc Tryz.prog w base spare held 5 U8 (fun x => OkI .u8 x) := zju Tryz.underlying5
theorem zqj : Tryz.prog.cellsOf 22 = 256 := by kernel_rfl
set_option maxRecDepth 20000 in
theorem op_22 : zcn enc Tryz.prog w base spare held 22 (arV (n := 256) U8) (fun x => ∀ y1 ∈ x.1, OkI .u8 y1) := zn8 Tryz.underlying22 cl_5 zqj (fun _ => rfl) op_5
theorem cl_3 : Tryz.prog.cellsOf 3 = 1 := by kernel_rfl
set_option maxRecDepth 20000 in
theorem op_3 : zcn enc Tryz.prog w base spare held 3 I (fun x => OkI .i64 x) := zju Tryz.underlying3
theorem zqn : Tryz.prog.cellsOf 24 = 1 := by kernel_rfl
set_option maxRecDepth 20000 in
theorem zqp : zcn enc Tryz.prog w base spare held 24 slI (fun x => x.length ≤ maxLen ∧ ∀ y1 ∈ x, OkI .i64 y1) := zlu Tryz.underlying24 cl_3 (by decide) (fun _ => rfl) op_3
theorem cl_23 : Tryz.prog.cellsOf 23 = 1 := by kernel_rfl
set_option maxRecDepth 20000 in
theorem op_23 : zcn enc Tryz.prog w base spare held 23 qk (fun x => x.length ≤ maxLen ∧ ∀ y1 ∈ x, y1.length ≤ maxLen ∧ ∀ y2 ∈ y1, OkI .i64 y2) := zlu Tryz.underlying23 zqn (by decide) (fun _ => rfl) zqp
theorem cl_26 : Tryz.prog.cellsOf 26 = 259 := by kernel_rfl
instance : Inhabited je := ⟨⟨(arZ 256 0), 0, [], []⟩⟩
structure zbk (x : je) : Prop where
  jp : ∀ y9 ∈ x.jp.1, OkI .u8 y9
  ji : OkI .i64 x.ji
  jd : x.jd.length ≤ maxLen ∧ ∀ y8 ∈ x.jd, y8.length ≤ maxLen ∧ ∀ y2 ∈ y8, OkI .i64 y2
  jj : x.jj.length ≤ maxLen ∧ ∀ y9 ∈ x.jj, OkI .i64 y9
set_option maxRecDepth 20000 in
theorem op_26 : zcn enc Tryz.prog w base spare held 26 jc (zbk) := fun fuel cs x h => by
  obtain ⟨xs, n, _, _, hcl, hxl, hf⟩ := DataW.trod_struct Tryz.underlying26 h
  rw [cl_26] at hcl
  have hx : xs.length = 4 := hxl
  have g0 : DataW.trod enc Tryz.prog w base spare held n 22 ((cs.drop 0).take (Tryz.prog.cellsOf 22)) = xs[0]? := hf 0 _ rfl
  rw [zqj, List.getElem?_eq_getElem (by omega)] at g0
  obtain ⟨a0, r0, c0⟩ := op_22 _ _ _ g0
  have g1 : DataW.trod enc Tryz.prog w base spare held n 3 ((cs.drop 256).take (Tryz.prog.cellsOf 3)) = xs[1]? := hf 1 _ rfl
  rw [cl_3, List.getElem?_eq_getElem (by omega)] at g1
  obtain ⟨a1, r1, c1⟩ := op_3 _ _ _ g1
  have g2 : DataW.trod enc Tryz.prog w base spare held n 23 ((cs.drop 257).take (Tryz.prog.cellsOf 23)) = xs[2]? := hf 2 _ rfl
  rw [cl_23, List.getElem?_eq_getElem (by omega)] at g2
  obtain ⟨a2, r2, c2⟩ := op_23 _ _ _ g2
  have g3 : DataW.trod enc Tryz.prog w base spare held n 24 ((cs.drop 258).take (Tryz.prog.cellsOf 24)) = xs[3]? := hf 3 _ rfl
  rw [zqn, List.getElem?_eq_getElem (by omega)] at g3
  obtain ⟨a3, r3, c3⟩ := zqp _ _ _ g3
  exact ⟨⟨a0, a1, a2, a3⟩, (zl8 256 r0 (zl8 1 r1 (zqt (m := 256) (n := 1) (k := 257) rfl (zl8 1 r2 (zqt (m := 257) (n := 1) (k := 258) rfl (rl_all (n := 1) (by simp [hcl]) r3)))))), ⟨c0, c1, c2, c3⟩⟩
end
end Go.Proofs.YtpohfkgjghiofaaGreat

namespace Go.Proofs.YtpohfkgjghiofaaGreat
open Go Go.RowKit L
theorem dOk_of {d : je} (h : zbk d) : DOk d := ⟨fun x hx => (h.jp x hx).u8, Nat.le_trans h.jd.1 (by decide), fun r hr => Nat.le_trans (h.jd.2 r hr).1 (by decide)⟩
theorem LiveWords_tot (d : je) (t : Int) (h : zbk d) (_ : OkI .i64 t) : Tot (g_law15_LiveWords d t) (· = true) := zi4 d t (dOk_of h) (Nat.le_trans h.jd.1 (by decide))
end Go.Proofs.YtpohfkgjghiofaaGreat
