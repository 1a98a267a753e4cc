/-
  The package spot: what the machine holds of an expression; plain facts, no program here.
-/
import Derived.Test.YtficeeaaaijgcaaSpM
import Derived.Test.YtficeeaaaijgcaaSubs
namespace Go.Proofs.Ytficeeaaaijgcaa
open Go Go.RowKit
set_option linter.unusedVariables false
set_option linter.unusedSimpArgs false

theorem riseL_id {l : List Int} (h : Rising l) : riseL l = l := rise_ext (riseL_rise l) h fun x => riseL_mem l x

theorem updF_get (b : List Int) (fol : List (List Int)) (x : Int) (hx : 0 ≤ x) (i : Nat) : (updF b fol x)[i]? = if x = (i : Int) then (fol[i]?).map fun l => riseL (l ++ b) else fol[i]? := by
  unfold updF
  rw [List.getElem?_set]
  by_cases h : x = (i : Int)
  · have : x.toNat = i := by omega
    rw [if_pos this, if_pos h, this]
    by_cases hl : i < fol.length
    · rw [if_pos hl]; simp [hl]
    · rw [if_neg hl]; simp [List.getElem?_eq_none (by omega : fol.length ≤ i)]
  · rw [if_neg h, if_neg (by omega)]

theorem foldl_updF_get (b : List Int) (i : Nat) : ∀ (la : List Int) (fol : List (List Int)), (∀ x ∈ la, 0 ≤ x) → ∀ l', (la.foldl (updF b) fol)[i]? = some l' →
    ∃ l, fol[i]? = some l ∧ (Rising l → Rising l') ∧ (∀ j, j ∈ l' ↔ j ∈ l ∨ ((i : Int) ∈ la ∧ j ∈ b)) ∧ ((i : Int) ∉ la → l' = l)
  | [], fol, _, l', h => ⟨l', h, fun h => h, fun j => by simp, fun _ => rfl⟩
  | x :: la, fol, hx, l', h => by
    rw [List.foldl_cons] at h
    obtain ⟨l1, h1, r1, m1, e1⟩ := foldl_updF_get b i la _ (fun y hy => hx y (by simp [hy])) l' h
    rw [updF_get b fol x (hx x (by simp)) i] at h1
    by_cases hxi : x = (i : Int)
    · rw [if_pos hxi] at h1
      obtain ⟨l, hl, rfl⟩ := Option.map_eq_some_iff.1 h1
      refine ⟨l, hl, fun _ => r1 (riseL_rise _), fun j => ?_, fun hn => absurd (by simp [hxi]) hn⟩
      rw [m1, riseL_mem, List.mem_append]
      simp [hxi]
      exact fun _ h => .inr h
    · rw [if_neg hxi] at h1
      refine ⟨l1, h1, r1, fun j => ?_, fun hn => e1 (fun h => hn (by simp [h]))⟩
      rw [m1]
      have : ¬ (i : Int) = x := fun h => hxi h.symm
      simp [this]

/-- what the follow lists are behind an expression whose first spot is n -/
structure FolS (fol fol' : List (List Int)) (e : E) (n : Nat) : Prop where
  len : fol'.length = n + nset e
  old : ∀ i, i < n → fol'[i]? = fol[i]?
  new : ∀ (i : Nat) (l : List Int), n ≤ i → fol'[i]? = some l → Rising l ∧ ∀ j, j ∈ l ↔ folT e n i j

theorem FolS.join {fol fol' : List (List Int)} {e e' : E} {n : Nat} (la b : List Int) (h : FolS fol fol' e n) (hn : nset e' = nset e) (hla : ∀ x ∈ la, (n : Int) ≤ x) (hf : ∀ (i : Nat) (j : Int), n ≤ i → (folT e' n i j ↔ folT e n i j ∨ ((i : Int) ∈ la ∧ j ∈ b))) : FolS fol (la.foldl (updF b) fol') e' n := by
  have h0 : ∀ x ∈ la, 0 ≤ x := fun x hx => by have := hla x hx; omega
  refine ⟨by rw [foldl_updF_len, h.len, hn], fun i hi => ?_, fun i l hi hl => ?_⟩
  · cases hg : (la.foldl (updF b) fol')[i]? with
    | none =>
      have h1 := List.getElem?_eq_none_iff.1 hg
      rw [foldl_updF_len] at h1
      rw [← h.old i hi, List.getElem?_eq_none h1]
    | some l' =>
      obtain ⟨l, h1, _, _, e1⟩ := foldl_updF_get b i la fol' h0 l' hg
      rw [e1 (fun hm => by have := hla _ hm; omega), ← h.old i hi, h1]
  · obtain ⟨l1, h1, r1, m1, _⟩ := foldl_updF_get b i la fol' h0 l hl
    obtain ⟨r, m⟩ := h.new i l1 hi h1
    exact ⟨r1 r, fun j => by rw [m1, m, hf i j hi]⟩

theorem FolS.two {fol fa fb : List (List Int)} {a b : E} {n m : Nat} (hm : m = n + nset a) (h1 : FolS fol fa a n) (h2 : FolS fa fb b m) : FolS fol fb (.alt a b) n := by
  subst hm
  refine ⟨by rw [h2.len]; simp [nset]; omega, fun i hi => by rw [h2.old i (by omega), h1.old i hi], fun i l hi hl => ?_⟩
  by_cases hlt : i < n + nset a
  · rw [h2.old i hlt] at hl
    obtain ⟨r, m⟩ := h1.new i l hi hl
    refine ⟨r, fun j => ?_⟩
    rw [m]
    simp only [folT]
    constructor
    · exact .inl
    · rintro (h | h)
      · exact h
      · have := (fol_in b _ _ _ h).1; omega
  · obtain ⟨r, m⟩ := h2.new i l (by omega) hl
    refine ⟨r, fun j => ?_⟩
    rw [m]
    simp only [folT, Int.natCast_add]
    constructor
    · exact .inr
    · rintro (h | h)
      · have := (fol_in a _ _ _ h).1; omega
      · exact h

theorem FolS.same {fol fol' : List (List Int)} {e e' : E} {n : Nat} (h : FolS fol fol' e n) (hn : nset e' = nset e) (hf : ∀ i j : Int, folT e' n i j ↔ folT e n i j) : FolS fol fol' e' n :=
  ⟨by rw [h.len, hn], h.old, fun i l hi hl => ⟨(h.new i l hi hl).1, fun j => by rw [(h.new i l hi hl).2, hf]⟩⟩

theorem run_tree (e : E) : ∀ (S : SM), S.fol.length = S.sets.length → ∃ fol', (post e).foldl stepS S = ⟨S.sets ++ setsT e, fol', ⟨firstT e S.sets.length, lastT e S.sets.length, freeT e, nset e⟩ :: S.st⟩ ∧ FolS S.fol fol' e S.sets.length := by
  induction e with
  | set s0 s1 s2 s3 =>
    intro S hS
    refine ⟨S.fol ++ [[]], by simp [post, stepS, setsT, firstT, lastT, freeT, nset], ⟨by simp [nset, hS], fun i hi => by rw [List.getElem?_append_left (by omega)], fun i l hi hl => ?_⟩⟩
    rw [List.getElem?_append_right (by omega)] at hl
    cases hk : i - S.fol.length with
    | zero => rw [hk] at hl; simp at hl; subst hl; exact ⟨List.Pairwise.nil, fun j => by simp [folT]⟩
    | succ m => rw [hk] at hl; simp at hl
  | empty =>
    intro S hS
    exact ⟨S.fol, by simp [post, stepS, bareX, setsT, firstT, lastT, freeT, nset], ⟨by simp [nset, hS], fun i hi => rfl, fun i l hi hl => by rw [List.getElem?_eq_none (by omega)] at hl; cases hl⟩⟩
  | cat a b iha ihb =>
    intro S hS
    obtain ⟨fa, ea, Fa⟩ := iha S hS
    have hl : (S.sets ++ setsT a).length = S.sets.length + nset a := by rw [List.length_append, setsT_len]
    obtain ⟨fb, eb, Fb⟩ := ihb ⟨S.sets ++ setsT a, fa, ⟨firstT a S.sets.length, lastT a S.sets.length, freeT a, nset a⟩ :: S.st⟩ (by rw [hl]; exact Fa.len)
    simp only [hl] at eb Fb
    have F2 := FolS.two rfl Fa Fb
    refine ⟨(lastT a S.sets.length).foldl (updF (firstT b (S.sets.length + nset a))) fb, ?_, F2.join _ _ rfl (fun x hx => ((last_in a _).2 x hx).1) fun i j hi => ?_⟩
    · rw [post, List.foldl_append, ea, List.foldl_append, eb]
      simp only [List.foldl_cons, List.foldl_nil, stepS, bareX]
      rw [if_neg (by decide), if_neg (by decide), if_pos trivial]
      have h1 := first_in a S.sets.length
      have h2 := first_in b (S.sets.length + nset a)
      have h3 := last_in a S.sets.length
      have h4 := last_in b (S.sets.length + nset a)
      simp only [setsT, firstT, lastT, freeT, nset, pickU, List.append_assoc, Int.natCast_add]
      congr 3
      · cases hfa : freeT a
        · simp
        · simp only [if_true]
          exact riseL_id (rises_append h1.1 h2.1 (fun x hx => (h1.2 x hx).2) fun x hx => (h2.2 x hx).1)
      · cases hfb : freeT b
        · simp
        · simp only [if_true]
          exact riseL_id (rises_append h3.1 h4.1 (fun x hx => (h3.2 x hx).2) fun x hx => (h4.2 x hx).1)
    · simp only [folT]
      constructor
      · rintro (h | h | h)
        · exact .inl (.inl h)
        · exact .inl (.inr h)
        · exact .inr h
      · rintro ((h | h) | h)
        · exact .inl h
        · exact .inr (.inl h)
        · exact .inr (.inr h)
  | alt a b iha ihb =>
    intro S hS
    obtain ⟨fa, ea, Fa⟩ := iha S hS
    have hl : (S.sets ++ setsT a).length = S.sets.length + nset a := by rw [List.length_append, setsT_len]
    obtain ⟨fb, eb, Fb⟩ := ihb ⟨S.sets ++ setsT a, fa, ⟨firstT a S.sets.length, lastT a S.sets.length, freeT a, nset a⟩ :: S.st⟩ (by rw [hl]; exact Fa.len)
    simp only [hl] at eb Fb
    have F2 := FolS.two rfl Fa Fb
    refine ⟨fb, ?_, F2⟩
    rw [post, List.foldl_append, ea, List.foldl_append, eb]
    simp only [List.foldl_cons, List.foldl_nil, stepS, bareX]
    rw [if_neg (by decide), if_neg (by decide), if_neg (by decide), if_pos trivial]
    have h1 := first_in a S.sets.length
    have h2 := first_in b (S.sets.length + nset a)
    have h3 := last_in a S.sets.length
    have h4 := last_in b (S.sets.length + nset a)
    simp only [setsT, firstT, lastT, freeT, nset, List.append_assoc, Int.natCast_add]
    congr 3
    · exact riseL_id (rises_append h1.1 h2.1 (fun x hx => (h1.2 x hx).2) fun x hx => (h2.2 x hx).1)
    · exact riseL_id (rises_append h3.1 h4.1 (fun x hx => (h3.2 x hx).2) fun x hx => (h4.2 x hx).1)
  | star a ih =>
    intro S hS
    obtain ⟨fa, ea, Fa⟩ := ih S hS
    refine ⟨(lastT a S.sets.length).foldl (updF (firstT a S.sets.length)) fa, ?_, Fa.join _ _ rfl (fun x hx => ((last_in a _).2 x hx).1) fun i j hi => by simp [folT]⟩
    rw [post, List.foldl_append, ea]
    simp [stepS, bareX, setsT, firstT, lastT, freeT, nset]
  | plus a ih =>
    intro S hS
    obtain ⟨fa, ea, Fa⟩ := ih S hS
    refine ⟨(lastT a S.sets.length).foldl (updF (firstT a S.sets.length)) fa, ?_, Fa.join _ _ rfl (fun x hx => ((last_in a _).2 x hx).1) fun i j hi => by simp [folT]⟩
    rw [post, List.foldl_append, ea]
    simp [stepS, bareX, setsT, firstT, lastT, freeT, nset]
  | opt a ih =>
    intro S hS
    obtain ⟨fa, ea, Fa⟩ := ih S hS
    refine ⟨fa, ?_, Fa.same rfl fun i j => by simp [folT]⟩
    rw [post, List.foldl_append, ea]
    simp [stepS, bareX, setsT, firstT, lastT, freeT, nset]

theorem runS_post (e : E) : ∃ fol, runS (post e) = ⟨setsT e, fol, [⟨firstT e 0, lastT e 0, freeT e, nset e⟩]⟩ ∧ FolS [] fol e 0 := by
  obtain ⟨fol, h1, h2⟩ := run_tree e ⟨[], [], []⟩ rfl
  exact ⟨fol, by rw [runS, h1]; rfl, h2⟩
end Go.Proofs.Ytficeeaaaijgcaa
