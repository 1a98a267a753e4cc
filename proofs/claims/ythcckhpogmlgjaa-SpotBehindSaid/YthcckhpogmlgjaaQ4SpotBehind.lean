/-
  Texts of this proof, put together: Subs, Sy, R10a, R10b, R10c, R10d, R10e, Sz, Sa1, Sa2, Sa3, Sb1, Sb2, Ga, Gb, Gc, Gd, Ge, Se, Sf, Sg, Row, OpX.
-/
import Derived.Deep.RegionWith
import Derived.Scope
import Derived.ProofKit
import Derived.OpenShut
import Derived.Deep.Slices
import Derived.Test.YthcckhpogmlgjaaQ3SpotBehind

/-
  Every step of a tree's is the last one of a part: plain facts; no program here.
-/
namespace Go.Proofs.Ythcckhpogmlgjaa
def subs : E → Int → List (E × Int)
  | .set a b c d, n => [(.set a b c d, n)]
  | .empty, n => [(.empty, n)]
  | .cat a b, n => subs a n ++ (subs b (n + nset a) ++ [(.cat a b, n)])
  | .alt a b, n => subs a n ++ (subs b (n + nset a) ++ [(.alt a b, n)])
  | .star a, n => subs a n ++ [(.star a, n)]
  | .plus a, n => subs a n ++ [(.plus a, n)]
  | .opt a, n => subs a n ++ [(.opt a, n)]
theorem subs_len (e : E) : ∀ n, (subs e n).length = (post e).length := by
  induction e <;> intro n <;> simp_all [subs, post]
def rootB : E → Int → Int → Int → Bool
  | .cat x y, n, i, j => decide (i ∈ lastT x n) && decide (j ∈ firstT y (n + nset x))
  | .star x, n, i, j => decide (i ∈ lastT x n) && decide (j ∈ firstT x n)
  | .plus x, n, i, j => decide (i ∈ lastT x n) && decide (j ∈ firstT x n)
  | _, _, _, _ => false
def folB (e : E) (n i j : Int) : Bool := (subs e n).any fun x => rootB x.1 x.2 i j
theorem rootB_cat (a b : E) (n i j : Int) : rootB (.cat a b) n i j = true ↔ (i ∈ lastT a n ∧ j ∈ firstT b (n + nset a)) := by simp [rootB]
theorem rootB_star (a : E) (n i j : Int) : rootB (.star a) n i j = true ↔ (i ∈ lastT a n ∧ j ∈ firstT a n) := by simp [rootB]
theorem rootB_plus (a : E) (n i j : Int) : rootB (.plus a) n i j = true ↔ (i ∈ lastT a n ∧ j ∈ firstT a n) := by simp [rootB]
theorem any_snoc {α : Type} (l : List α) (x : α) (p : α → Bool) : (l ++ [x]).any p = true ↔ l.any p = true ∨ p x = true := by simp
theorem any_app {α : Type} (l m : List α) (p : α → Bool) : (l ++ m).any p = true ↔ l.any p = true ∨ m.any p = true := by simp
theorem folB_iff (e : E) : ∀ n i j, folB e n i j = true ↔ folT e n i j := by
  induction e with
  | set => intro n i j; simp [folB, subs, rootB, folT]
  | empty => intro n i j; simp [folB, subs, rootB, folT]
  | cat a b iha ihb =>
    intro n i j
    unfold folB subs folT
    rw [any_app, any_snoc, rootB_cat]
    exact or_congr (iha n i j) (or_congr (ihb _ i j) Iff.rfl)
  | alt a b iha ihb =>
    intro n i j
    unfold folB subs folT
    rw [any_app, any_snoc]
    refine or_congr (iha n i j) ?_
    rw [show rootB (E.alt a b) n i j = false from rfl, Bool.false_eq_true, or_false]
    exact ihb _ i j
  | star a iha =>
    intro n i j
    unfold folB subs folT
    rw [any_snoc, rootB_star]
    exact or_congr (iha n i j) Iff.rfl
  | plus a iha =>
    intro n i j
    unfold folB subs folT
    rw [any_snoc, rootB_plus]
    exact or_congr (iha n i j) Iff.rfl
  | opt a iha =>
    intro n i j
    unfold folB subs folT
    rw [any_snoc, show rootB (E.opt a) n i j = false from rfl, Bool.false_eq_true, or_false]
    exact iha n i j

theorem subs_at (l : List Rx) (e : E) : ∀ (s t : Nat), AtT l s e t → ∀ (k : Nat) (x : E × Int), (subs e (numL l s))[k]? = some x → ∃ s', AtT l s' x.1 (s + k + 1) ∧ (numL l s' : Int) = x.2 := by
  induction e with
  | set a b c d =>
    intro s t h k x hx
    have h' := h
    obtain ⟨pre, suf, _, rfl, rfl⟩ := h'
    match k, hx with
    | 0, hx => simp [subs] at hx; subst hx; exact ⟨_, by simpa [post] using h, rfl⟩
    | k + 1, hx => simp [subs] at hx
  | empty =>
    intro s t h k x hx
    have h' := h
    obtain ⟨pre, suf, _, rfl, rfl⟩ := h'
    match k, hx with
    | 0, hx => simp [subs] at hx; subst hx; exact ⟨_, by simpa [post] using h, rfl⟩
    | k + 1, hx => simp [subs] at hx
  | cat a b iha ihb =>
    intro s t h k x hx
    obtain ⟨m, ha, hb, hsm, hmt⟩ := h.cat
    have hn := ha.num
    have la : (post a).length = m - s := by obtain ⟨_, _, _, rfl, rfl⟩ := ha; omega
    have lb : (post b).length = t - 1 - m := by obtain ⟨_, _, _, h1, h2⟩ := hb; omega
    simp only [subs] at hx
    by_cases h1 : k < (post a).length
    · rw [List.getElem?_append_left (by rw [subs_len]; exact h1)] at hx
      exact iha s m ha k x hx
    · rw [List.getElem?_append_right (by rw [subs_len]; omega), subs_len] at hx
      by_cases h2 : k - (post a).length < (post b).length
      · rw [List.getElem?_append_left (by rw [subs_len]; exact h2)] at hx
        obtain ⟨s', h3, h4⟩ := ihb m (t - 1) hb _ x (by rw [hn]; simpa using hx)
        exact ⟨s', by rw [show s + k + 1 = m + (k - (post a).length) + 1 from by omega]; exact h3, h4⟩
      · rw [List.getElem?_append_right (by rw [subs_len]; omega), subs_len] at hx
        match hk : k - (post a).length - (post b).length, hx with
        | 0, hx => simp at hx; subst hx; exact ⟨s, by rw [show s + k + 1 = t from by omega]; exact h, rfl⟩
        | q + 1, hx => simp at hx
  | alt a b iha ihb =>
    intro s t h k x hx
    obtain ⟨m, ha, hb, hsm, hmt⟩ := h.alt
    have hn := ha.num
    have la : (post a).length = m - s := by obtain ⟨_, _, _, rfl, rfl⟩ := ha; omega
    have lb : (post b).length = t - 1 - m := by obtain ⟨_, _, _, h1, h2⟩ := hb; omega
    simp only [subs] at hx
    by_cases h1 : k < (post a).length
    · rw [List.getElem?_append_left (by rw [subs_len]; exact h1)] at hx
      exact iha s m ha k x hx
    · rw [List.getElem?_append_right (by rw [subs_len]; omega), subs_len] at hx
      by_cases h2 : k - (post a).length < (post b).length
      · rw [List.getElem?_append_left (by rw [subs_len]; exact h2)] at hx
        obtain ⟨s', h3, h4⟩ := ihb m (t - 1) hb _ x (by rw [hn]; simpa using hx)
        exact ⟨s', by rw [show s + k + 1 = m + (k - (post a).length) + 1 from by omega]; exact h3, h4⟩
      · rw [List.getElem?_append_right (by rw [subs_len]; omega), subs_len] at hx
        match hk : k - (post a).length - (post b).length, hx with
        | 0, hx => simp at hx; subst hx; exact ⟨s, by rw [show s + k + 1 = t from by omega]; exact h, rfl⟩
        | q + 1, hx => simp at hx
  | star a iha =>
    intro s t h k x hx
    have ha := h.star
    have hb := h.bound
    have la : (post a).length = t - 1 - s := by obtain ⟨_, _, _, h1, h2⟩ := ha; omega
    simp only [subs] at hx
    by_cases h1 : k < (post a).length
    · rw [List.getElem?_append_left (by rw [subs_len]; exact h1)] at hx
      exact iha s (t - 1) ha k x hx
    · rw [List.getElem?_append_right (by rw [subs_len]; omega), subs_len] at hx
      match hk : k - (post a).length, hx with
      | 0, hx => simp at hx; subst hx; exact ⟨s, by rw [show s + k + 1 = t from by omega]; exact h, rfl⟩
      | q + 1, hx => simp at hx
  | plus a iha =>
    intro s t h k x hx
    have ha := h.plus
    have hb := h.bound
    have la : (post a).length = t - 1 - s := by obtain ⟨_, _, _, h1, h2⟩ := ha; omega
    simp only [subs] at hx
    by_cases h1 : k < (post a).length
    · rw [List.getElem?_append_left (by rw [subs_len]; exact h1)] at hx
      exact iha s (t - 1) ha k x hx
    · rw [List.getElem?_append_right (by rw [subs_len]; omega), subs_len] at hx
      match hk : k - (post a).length, hx with
      | 0, hx => simp at hx; subst hx; exact ⟨s, by rw [show s + k + 1 = t from by omega]; exact h, rfl⟩
      | q + 1, hx => simp at hx
  | opt a iha =>
    intro s t h k x hx
    have ha := h.opt
    have hb := h.bound
    have la : (post a).length = t - 1 - s := by obtain ⟨_, _, _, h1, h2⟩ := ha; omega
    simp only [subs] at hx
    by_cases h1 : k < (post a).length
    · rw [List.getElem?_append_left (by rw [subs_len]; exact h1)] at hx
      exact iha s (t - 1) ha k x hx
    · rw [List.getElem?_append_right (by rw [subs_len]; omega), subs_len] at hx
      match hk : k - (post a).length, hx with
      | 0, hx => simp at hx; subst hx; exact ⟨s, by rw [show s + k + 1 = t from by omega]; exact h, rfl⟩
      | q + 1, hx => simp at hx
end Go.Proofs.Ythcckhpogmlgjaa

/-
  The package spot: what the machine holds of an expression; plain facts, no program here.
-/
namespace Go.Proofs.Ythcckhpogmlgjaa
open Go Go.RowKit
set_option linter.unusedVariables false
set_option linter.unusedSimpArgs false

theorem riseL_id {l : List Int} (h : Rising l) : riseL l = l := rise_ext (riseL_rise l) h fun x => riseL_mem l x

theorem updF_get (b : List Int) (fol : List (List Int)) (x : Int) (hx : 0 ≤ x) (i : Nat) : (updF b fol x)[i]? = if x = (i : Int) then (fol[i]?).map fun l => riseL (l ++ b) else fol[i]? := by
  unfold updF
  rw [List.getElem?_set]
  by_cases h : x = (i : Int)
  · have : x.toNat = i := by omega
    rw [if_pos this, if_pos h, this]
    by_cases hl : i < fol.length
    · rw [if_pos hl]; simp [hl]
    · rw [if_neg hl]; simp [List.getElem?_eq_none (by omega : fol.length ≤ i)]
  · rw [if_neg h, if_neg (by omega)]

theorem foldl_updF_get (b : List Int) (i : Nat) : ∀ (la : List Int) (fol : List (List Int)), (∀ x ∈ la, 0 ≤ x) → ∀ l', (la.foldl (updF b) fol)[i]? = some l' →
    ∃ l, fol[i]? = some l ∧ (Rising l → Rising l') ∧ (∀ j, j ∈ l' ↔ j ∈ l ∨ ((i : Int) ∈ la ∧ j ∈ b)) ∧ ((i : Int) ∉ la → l' = l)
  | [], fol, _, l', h => ⟨l', h, fun h => h, fun j => by simp, fun _ => rfl⟩
  | x :: la, fol, hx, l', h => by
    rw [List.foldl_cons] at h
    obtain ⟨l1, h1, r1, m1, e1⟩ := foldl_updF_get b i la _ (fun y hy => hx y (by simp [hy])) l' h
    rw [updF_get b fol x (hx x (by simp)) i] at h1
    by_cases hxi : x = (i : Int)
    · rw [if_pos hxi] at h1
      obtain ⟨l, hl, rfl⟩ := Option.map_eq_some_iff.1 h1
      refine ⟨l, hl, fun _ => r1 (riseL_rise _), fun j => ?_, fun hn => absurd (by simp [hxi]) hn⟩
      rw [m1, riseL_mem, List.mem_append]
      simp [hxi]
      exact fun _ h => .inr h
    · rw [if_neg hxi] at h1
      refine ⟨l1, h1, r1, fun j => ?_, fun hn => e1 (fun h => hn (by simp [h]))⟩
      rw [m1]
      have : ¬ (i : Int) = x := fun h => hxi h.symm
      simp [this]

/-- what the follow lists are behind an expression whose first spot is n -/
structure FolS (fol fol' : List (List Int)) (e : E) (n : Nat) : Prop where
  len : fol'.length = n + nset e
  old : ∀ i, i < n → fol'[i]? = fol[i]?
  new : ∀ (i : Nat) (l : List Int), n ≤ i → fol'[i]? = some l → Rising l ∧ ∀ j, j ∈ l ↔ folT e n i j

theorem FolS.join {fol fol' : List (List Int)} {e e' : E} {n : Nat} (la b : List Int) (h : FolS fol fol' e n) (hn : nset e' = nset e) (hla : ∀ x ∈ la, (n : Int) ≤ x) (hf : ∀ (i : Nat) (j : Int), n ≤ i → (folT e' n i j ↔ folT e n i j ∨ ((i : Int) ∈ la ∧ j ∈ b))) : FolS fol (la.foldl (updF b) fol') e' n := by
  have h0 : ∀ x ∈ la, 0 ≤ x := fun x hx => by have := hla x hx; omega
  refine ⟨by rw [foldl_updF_len, h.len, hn], fun i hi => ?_, fun i l hi hl => ?_⟩
  · cases hg : (la.foldl (updF b) fol')[i]? with
    | none =>
      have h1 := List.getElem?_eq_none_iff.1 hg
      rw [foldl_updF_len] at h1
      rw [← h.old i hi, List.getElem?_eq_none h1]
    | some l' =>
      obtain ⟨l, h1, _, _, e1⟩ := foldl_updF_get b i la fol' h0 l' hg
      rw [e1 (fun hm => by have := hla _ hm; omega), ← h.old i hi, h1]
  · obtain ⟨l1, h1, r1, m1, _⟩ := foldl_updF_get b i la fol' h0 l hl
    obtain ⟨r, m⟩ := h.new i l1 hi h1
    exact ⟨r1 r, fun j => by rw [m1, m, hf i j hi]⟩

theorem FolS.two {fol fa fb : List (List Int)} {a b : E} {n m : Nat} (hm : m = n + nset a) (h1 : FolS fol fa a n) (h2 : FolS fa fb b m) : FolS fol fb (.alt a b) n := by
  subst hm
  refine ⟨by rw [h2.len]; simp [nset]; omega, fun i hi => by rw [h2.old i (by omega), h1.old i hi], fun i l hi hl => ?_⟩
  by_cases hlt : i < n + nset a
  · rw [h2.old i hlt] at hl
    obtain ⟨r, m⟩ := h1.new i l hi hl
    refine ⟨r, fun j => ?_⟩
    rw [m]
    simp only [folT]
    constructor
    · exact .inl
    · rintro (h | h)
      · exact h
      · have := (fol_in b _ _ _ h).1; omega
  · obtain ⟨r, m⟩ := h2.new i l (by omega) hl
    refine ⟨r, fun j => ?_⟩
    rw [m]
    simp only [folT, Int.natCast_add]
    constructor
    · exact .inr
    · rintro (h | h)
      · have := (fol_in a _ _ _ h).1; omega
      · exact h

theorem FolS.same {fol fol' : List (List Int)} {e e' : E} {n : Nat} (h : FolS fol fol' e n) (hn : nset e' = nset e) (hf : ∀ i j : Int, folT e' n i j ↔ folT e n i j) : FolS fol fol' e' n :=
  ⟨by rw [h.len, hn], h.old, fun i l hi hl => ⟨(h.new i l hi hl).1, fun j => by rw [(h.new i l hi hl).2, hf]⟩⟩

theorem run_tree (e : E) : ∀ (S : SM), S.fol.length = S.sets.length → ∃ fol', (post e).foldl stepS S = ⟨S.sets ++ setsT e, fol', ⟨firstT e S.sets.length, lastT e S.sets.length, freeT e, nset e⟩ :: S.st⟩ ∧ FolS S.fol fol' e S.sets.length := by
  induction e with
  | set s0 s1 s2 s3 =>
    intro S hS
    refine ⟨S.fol ++ [[]], by simp [post, stepS, setsT, firstT, lastT, freeT, nset], ⟨by simp [nset, hS], fun i hi => by rw [List.getElem?_append_left (by omega)], fun i l hi hl => ?_⟩⟩
    rw [List.getElem?_append_right (by omega)] at hl
    cases hk : i - S.fol.length with
    | zero => rw [hk] at hl; simp at hl; subst hl; exact ⟨List.Pairwise.nil, fun j => by simp [folT]⟩
    | succ m => rw [hk] at hl; simp at hl
  | empty =>
    intro S hS
    exact ⟨S.fol, by simp [post, stepS, bareX, setsT, firstT, lastT, freeT, nset], ⟨by simp [nset, hS], fun i hi => rfl, fun i l hi hl => by rw [List.getElem?_eq_none (by omega)] at hl; cases hl⟩⟩
  | cat a b iha ihb =>
    intro S hS
    obtain ⟨fa, ea, Fa⟩ := iha S hS
    have hl : (S.sets ++ setsT a).length = S.sets.length + nset a := by rw [List.length_append, setsT_len]
    obtain ⟨fb, eb, Fb⟩ := ihb ⟨S.sets ++ setsT a, fa, ⟨firstT a S.sets.length, lastT a S.sets.length, freeT a, nset a⟩ :: S.st⟩ (by rw [hl]; exact Fa.len)
    simp only [hl] at eb Fb
    have F2 := FolS.two rfl Fa Fb
    refine ⟨(lastT a S.sets.length).foldl (updF (firstT b (S.sets.length + nset a))) fb, ?_, F2.join _ _ rfl (fun x hx => ((last_in a _).2 x hx).1) fun i j hi => ?_⟩
    · rw [post, List.foldl_append, ea, List.foldl_append, eb]
      simp only [List.foldl_cons, List.foldl_nil, stepS, bareX]
      rw [if_neg (by decide), if_neg (by decide), if_pos trivial]
      have h1 := first_in a S.sets.length
      have h2 := first_in b (S.sets.length + nset a)
      have h3 := last_in a S.sets.length
      have h4 := last_in b (S.sets.length + nset a)
      simp only [setsT, firstT, lastT, freeT, nset, pickU, List.append_assoc, Int.natCast_add]
      congr 3
      · cases hfa : freeT a
        · simp
        · simp only [if_true]
          exact riseL_id (rises_append h1.1 h2.1 (fun x hx => (h1.2 x hx).2) fun x hx => (h2.2 x hx).1)
      · cases hfb : freeT b
        · simp
        · simp only [if_true]
          exact riseL_id (rises_append h3.1 h4.1 (fun x hx => (h3.2 x hx).2) fun x hx => (h4.2 x hx).1)
    · simp only [folT]
      constructor
      · rintro (h | h | h)
        · exact .inl (.inl h)
        · exact .inl (.inr h)
        · exact .inr h
      · rintro ((h | h) | h)
        · exact .inl h
        · exact .inr (.inl h)
        · exact .inr (.inr h)
  | alt a b iha ihb =>
    intro S hS
    obtain ⟨fa, ea, Fa⟩ := iha S hS
    have hl : (S.sets ++ setsT a).length = S.sets.length + nset a := by rw [List.length_append, setsT_len]
    obtain ⟨fb, eb, Fb⟩ := ihb ⟨S.sets ++ setsT a, fa, ⟨firstT a S.sets.length, lastT a S.sets.length, freeT a, nset a⟩ :: S.st⟩ (by rw [hl]; exact Fa.len)
    simp only [hl] at eb Fb
    have F2 := FolS.two rfl Fa Fb
    refine ⟨fb, ?_, F2⟩
    rw [post, List.foldl_append, ea, List.foldl_append, eb]
    simp only [List.foldl_cons, List.foldl_nil, stepS, bareX]
    rw [if_neg (by decide), if_neg (by decide), if_neg (by decide), if_pos trivial]
    have h1 := first_in a S.sets.length
    have h2 := first_in b (S.sets.length + nset a)
    have h3 := last_in a S.sets.length
    have h4 := last_in b (S.sets.length + nset a)
    simp only [setsT, firstT, lastT, freeT, nset, List.append_assoc, Int.natCast_add]
    congr 3
    · exact riseL_id (rises_append h1.1 h2.1 (fun x hx => (h1.2 x hx).2) fun x hx => (h2.2 x hx).1)
    · exact riseL_id (rises_append h3.1 h4.1 (fun x hx => (h3.2 x hx).2) fun x hx => (h4.2 x hx).1)
  | star a ih =>
    intro S hS
    obtain ⟨fa, ea, Fa⟩ := ih S hS
    refine ⟨(lastT a S.sets.length).foldl (updF (firstT a S.sets.length)) fa, ?_, Fa.join _ _ rfl (fun x hx => ((last_in a _).2 x hx).1) fun i j hi => by simp [folT]⟩
    rw [post, List.foldl_append, ea]
    simp [stepS, bareX, setsT, firstT, lastT, freeT, nset]
  | plus a ih =>
    intro S hS
    obtain ⟨fa, ea, Fa⟩ := ih S hS
    refine ⟨(lastT a S.sets.length).foldl (updF (firstT a S.sets.length)) fa, ?_, Fa.join _ _ rfl (fun x hx => ((last_in a _).2 x hx).1) fun i j hi => by simp [folT]⟩
    rw [post, List.foldl_append, ea]
    simp [stepS, bareX, setsT, firstT, lastT, freeT, nset]
  | opt a ih =>
    intro S hS
    obtain ⟨fa, ea, Fa⟩ := ih S hS
    refine ⟨fa, ?_, Fa.same rfl fun i j => by simp [folT]⟩
    rw [post, List.foldl_append, ea]
    simp [stepS, bareX, setsT, firstT, lastT, freeT, nset]

theorem runS_post (e : E) : ∃ fol, runS (post e) = ⟨setsT e, fol, [⟨firstT e 0, lastT e 0, freeT e, nset e⟩]⟩ ∧ FolS [] fol e 0 := by
  obtain ⟨fol, h1, h2⟩ := run_tree e ⟨[], [], []⟩ rfl
  exact ⟨fol, by rw [runS, h1]; rfl, h2⟩
end Go.Proofs.Ythcckhpogmlgjaa

namespace Go.Proofs.Ythcckhpogmlgjaa
open Go.RowKit
set_option linter.unusedVariables false

set_option maxHeartbeats 400000 in
theorem number_any (v : Value) (l : List Rx) (w : World) (hv : RdX w v l) (hl : l.length ≤ 1000) (j : Nat) (hj : j ≤ l.length) :
    Calls Try.prog 102 #[v, .int .i64 j] w fun e w' => e = .returned (.int .i64 (numL l j)) ∧ w = w' := by
  obtain ⟨a, c, rfl⟩ := hv.shape
  go_enter Try.func102, Try.ntmps102
  go_wp2_with fail
  go_loop [5, 6] (fun n i => ∃ k : Nat, k ≤ j ∧ i = .int .i64 k ∧ n = .int .i64 (numL l k)) (fun _ i => j - (intOf i).toNat)
  case atStart => exact ⟨0, by omega, rfl, rfl⟩
  case round =>
    obtain ⟨k, hk, rfl, rfl⟩ := hrel
    have hle := numL_le l k
    by_cases hlt : k < j
    · obtain ⟨_, b, o, rfl, hcell⟩ := hv.kindAt k (by omega)
      have Hs := Lib.hid (numL_succ l k (by omega))
      by_cases hk1 : l[k].kind = 1
      · have e1 : (l[k].kind == 1) = true := by simp [hk1]
        have Hn : Hid (numL l (k + 1) = numL l k + 1) := Lib.hid (by rw [Hs.out, if_pos hk1])
        clear hk1 Hs
        go_wp2_with fail
        go_round
        case rel => exact ⟨k + 1, by omega, by go_num, by rw [Hn.out]; go_num⟩
        case measure => simp [intOf]; omega
      · have e1 : (l[k].kind == 1) = false := by simp [hk1]
        have Hn : Hid (numL l (k + 1) = numL l k) := Lib.hid (by rw [Hs.out, if_neg hk1]; rfl)
        clear hk1 Hs
        go_wp2_with fail
        go_round
        case rel => exact ⟨k + 1, by omega, by go_num, by rw [Hn.out]⟩
        case measure => simp [intOf]; omega
    · obtain rfl : k = j := by omega
      go_wp2_with fail
      go_ret
      exact ⟨rfl, rfl⟩

def FreeSpec (v : Value) (w : World) (i : Int) (r : Bool) : Prop := Calls Try.prog 104 #[v, .int .i64 i] w fun e w' => e = .returned (.bool r) ∧ w = w'

theorem free_leaf (v : Value) (l : List Rx) (w : World) (hv : RdX w v l) (hl : l.length ≤ 1000) (j : Nat) (hj : j < l.length) (k : Int) (hk : l[j].kind = k) (hk' : k = 1 ∨ k = 2 ∨ k = 5 ∨ k = 7) : FreeSpec v w j (decide (k ≠ 1)) := by
  obtain ⟨a, c, rfl⟩ := hv.shape
  obtain ⟨_, b, o, rfl, hcell⟩ := hv.kindAt j hj
  rw [hk] at hcell
  clear hk
  unfold FreeSpec
  rcases hk' with rfl | rfl | rfl | rfl
  all_goals
    go_enter Try.func104, Try.ntmps104
    go_wp2_with fail
    go_ret
    exact ⟨rfl, rfl⟩

theorem free_plus (v : Value) (l : List Rx) (w : World) (hv : RdX w v l) (hl : l.length ≤ 1000) (j : Nat) (hj : j < l.length) (hk : l[j].kind = 6) (r : Bool) (h1 : FreeSpec v w (j - 1) r) : FreeSpec v w j r := by
  obtain ⟨a, c, rfl⟩ := hv.shape
  obtain ⟨_, b, o, rfl, hcell⟩ := hv.kindAt j hj
  rw [hk] at hcell
  clear hk
  unfold FreeSpec at h1 ⊢
  have H1 := Lib.hid h1; clear h1
  go_enter Try.func104, Try.ntmps104
  go_wp2_with fail
  refine H1.out.mono ?_
  rintro e w1 ⟨rfl, rfl⟩
  go_wp2_with fail
  go_ret
  exact ⟨rfl, rfl⟩

theorem free_two (v : Value) (l : List Rx) (w : World) (hv : RdX w v l) (hl : l.length ≤ 1000) (j : Nat) (hj : j < l.length) (k : Int) (hk : l[j].kind = k) (hk' : k = 3 ∨ k = 4) (m : Nat) (hm : m < l.length) (r1 r2 : Bool) (h1 : FreeSpec v w (j - 1) r1) (hb : BegSpec v w (j - 1) m) (h2 : FreeSpec v w (m - 1) r2) :
    FreeSpec v w j (if k = 3 then r2 && r1 else r2 || r1) := by
  obtain ⟨a, c, rfl⟩ := hv.shape
  obtain ⟨_, b, o, rfl, hcell⟩ := hv.kindAt j hj
  rw [hk] at hcell
  clear hk
  unfold FreeSpec at h1 h2 ⊢
  unfold BegSpec at hb
  have H1 := Lib.hid h1; clear h1
  have H2 := Lib.hid h2; clear h2
  have HB := Lib.hid hb; clear hb
  rcases hk' with rfl | rfl
  all_goals
    cases r1 <;> cases r2
    all_goals
      go_enter Try.func104, Try.ntmps104
      go_wp2_with fail
      refine H1.out.mono ?_
      rintro e w1 ⟨rfl, rfl⟩
      go_wp2_with fail
      refine HB.out.mono ?_
      rintro e w1 ⟨rfl, rfl⟩
      go_wp2_with fail
      refine H2.out.mono ?_
      rintro e w1 ⟨rfl, rfl⟩
      go_wp2_with fail
      go_ret
      exact ⟨rfl, rfl⟩

theorem AtT.root {l : List Rx} {s t : Nat} {e : E} (h : AtT l s e t) : ∃ j, ∃ hj : j < l.length, j + 1 = t ∧ l[j].kind = kindT e :=
  ⟨t - 1, by have := h.bound; omega, by have := h.bound; omega, h.kind _ _ (by have := h.bound; omega)⟩

theorem free_any (l : List Rx) (hl : l.length ≤ 1000) (e : E) : ∀ (s t : Nat), AtT l s e t → ∀ (v : Value) (w : World), RdX w v l → ∀ i : Int, i = (t : Int) - 1 → FreeSpec v w i (freeT e) := by
  induction e with
  | set | empty =>
    intro s t h v w hv i hi
    obtain ⟨j, hj, hjt, hk⟩ := h.root
    obtain rfl : i = (j : Int) := by omega
    exact free_leaf v l w hv hl j hj _ hk (by simp [kindT])
  | star a | opt a =>
    intro s t h v w hv i hi
    obtain ⟨j, hj, hjt, hk⟩ := h.root
    obtain rfl : i = (j : Int) := by omega
    exact free_leaf v l w hv hl j hj _ hk (by simp [kindT])
  | cat a b iha ihb =>
    intro s t h v w hv i hi
    obtain ⟨j, hj, hjt, hk⟩ := h.root
    obtain ⟨m, ha, hb, hsm, hmt⟩ := h.cat
    obtain rfl : i = (j : Int) := by omega
    have := free_two v l w hv hl j hj _ hk (by simp [kindT]) m (by omega) _ _ (ihb m (t - 1) hb v w hv _ (by omega)) (begin_any l hl b m (t - 1) hb v w hv _ (by omega)) (iha s m ha v w hv _ (by omega))
    simpa [kindT, freeT] using this
  | alt a b iha ihb =>
    intro s t h v w hv i hi
    obtain ⟨j, hj, hjt, hk⟩ := h.root
    obtain ⟨m, ha, hb, hsm, hmt⟩ := h.alt
    obtain rfl : i = (j : Int) := by omega
    have := free_two v l w hv hl j hj _ hk (by simp [kindT]) m (by omega) _ _ (ihb m (t - 1) hb v w hv _ (by omega)) (begin_any l hl b m (t - 1) hb v w hv _ (by omega)) (iha s m ha v w hv _ (by omega))
    simpa [kindT, freeT] using this
  | plus a iha =>
    intro s t h v w hv i hi
    obtain ⟨j, hj, hjt, hk⟩ := h.root
    obtain rfl : i = (j : Int) := by omega
    exact free_plus v l w hv hl j hj (by rw [hk]; rfl) _ (iha s (t - 1) h.plus v w hv _ (by omega))
end Go.Proofs.Ythcckhpogmlgjaa

namespace Go.Proofs.Ythcckhpogmlgjaa
open Go.RowKit
set_option linter.unusedVariables false

def EndsSpec (v : Value) (w : World) (i : Int) (last : Bool) (r : List Int) : Prop :=
  Calls Try.prog 82 #[v, .int .i64 i, .bool last] w fun e w' => ∃ v', e = .returned v' ∧ OwI w' w.heap.size v' r ∧ Below w.heap.size w w'

theorem OwI_one (w : World) (n : Int) : OwI (w.alloc (.cells #[.int .i64 n] 3)) w.heap.size (.slice (some ⟨w.heap.size, 0, none⟩) 1 1) [n] :=
  World.ownsRow_lit w #[.int .i64 n] 1 (Nat.le_refl _) (by simp [maxLen]) rfl

set_option maxHeartbeats 400000 in
theorem ends_set (v : Value) (l : List Rx) (w : World) (hv : RdX w v l) (hl : l.length ≤ 1000) (j : Nat) (hj : j < l.length) (hk : l[j].kind = 1) (last : Bool) : EndsSpec v w j last [(numL l j : Int)] := by
  obtain ⟨a, c, rfl⟩ := hv.shape
  obtain ⟨_, b, o, rfl, hcell⟩ := hv.kindAt j hj
  rw [hk] at hcell
  clear hk
  unfold EndsSpec
  go_enter Try.func82, Try.ntmps82
  go_wp2_with fail
  refine (number_any _ l _ hv hl j (by omega)).mono ?_
  rintro e w1 ⟨rfl, rfl⟩
  go_wp2_with fail
  go_ret
  exact ⟨_, rfl, OwI_one _ _, (Below.refl _ _).alloc (Nat.le_refl _) _⟩

set_option maxHeartbeats 400000 in
theorem ends_empty (v : Value) (l : List Rx) (w : World) (hv : RdX w v l) (hl : l.length ≤ 1000) (j : Nat) (hj : j < l.length) (hk : l[j].kind = 2) (last : Bool) : EndsSpec v w j last [] := by
  obtain ⟨a, c, rfl⟩ := hv.shape
  obtain ⟨_, b, o, rfl, hcell⟩ := hv.kindAt j hj
  rw [hk] at hcell
  clear hk
  unfold EndsSpec
  go_enter Try.func82, Try.ntmps82
  go_wp2_with fail
  go_ret
  exact ⟨_, rfl, OwI_empty _, (Below.refl _ _).alloc (Nat.le_refl _) _⟩

set_option maxHeartbeats 400000 in
theorem ends_one (v : Value) (l : List Rx) (w : World) (hv : RdX w v l) (hl : l.length ≤ 1000) (j : Nat) (hj : j < l.length) (k : Int) (hk : l[j].kind = k) (hk' : k = 5 ∨ k = 6 ∨ k = 7) (last : Bool) (r : List Int) (h1 : EndsSpec v w (j - 1) last r) : EndsSpec v w j last r := by
  obtain ⟨a, c, rfl⟩ := hv.shape
  obtain ⟨_, b, o, rfl, hcell⟩ := hv.kindAt j hj
  rw [hk] at hcell
  clear hk
  unfold EndsSpec at h1 ⊢
  have H1 := Lib.hid h1; clear h1
  rcases hk' with rfl | rfl | rfl
  all_goals
    go_enter Try.func82, Try.ntmps82
    go_wp2_with fail
    refine H1.out.mono ?_
    rintro e w1 ⟨v1, rfl, hown, hb⟩
    go_wp2_with fail
    go_ret
    exact ⟨_, rfl, hown, hb⟩

/-- what 'ends' makes of two parts -/
def endsTwo (k : Int) (last f1 f2 : Bool) (ra rb : List Int) : List Int :=
  if k = 3 ∧ last = true ∧ f1 = false then rb else if k = 3 ∧ last = false ∧ f2 = false then ra else ra ++ rb

set_option maxHeartbeats 1000000 in
theorem ends_two (v : Value) (l : List Rx) (w : World) (hv : RdX w v l) (hl : l.length ≤ 1000) (j : Nat) (hj : j < l.length) (k : Int) (hk : l[j].kind = k) (hk' : k = 3 ∨ k = 4) (last : Bool) (m : Nat) (hm : m < l.length) (f1 f2 : Bool) (ra rb : List Int)
    (hs : ra.length + rb.length ≤ 10000000)
    (h1 : ∀ w, RdX w v l → EndsSpec v w (j - 1) last rb) (hb : ∀ w, RdX w v l → BegSpec v w (j - 1) m) (h2 : ∀ w, RdX w v l → EndsSpec v w (m - 1) last ra)
    (h3 : ∀ w, RdX w v l → FreeSpec v w (j - 1) f1) (h4 : ∀ w, RdX w v l → FreeSpec v w (m - 1) f2) : EndsSpec v w j last (endsTwo k last f1 f2 ra rb) := by
  obtain ⟨a, c, rfl⟩ := hv.shape
  obtain ⟨_, b, o, rfl, hcell⟩ := hv.kindAt j hj
  rw [hk] at hcell
  clear hk
  unfold EndsSpec at h1 h2 ⊢
  unfold BegSpec at hb
  unfold FreeSpec at h3 h4
  have H1 := Lib.hid h1; clear h1
  have H2 := Lib.hid h2; clear h2
  have H3 := Lib.hid h3; clear h3
  have H4 := Lib.hid h4; clear h4
  have HB := Lib.hid hb; clear hb
  rcases hk' with rfl | rfl <;> cases last <;> cases f1 <;> cases f2
  all_goals
    go_enter Try.func82, Try.ntmps82
    go_wp2_with fail
    refine (H1.out _ hv).mono ?_
    rintro e w1 ⟨v1, rfl, hown1, hb1⟩
    have hv1 := hv.below hb1
    clear hv
    go_wp2_with fail
    refine (HB.out _ hv1).mono ?_
    rintro e w1 ⟨rfl, rfl⟩
    go_wp2_with fail
    refine (H2.out _ hv1).mono ?_
    rintro e w2 ⟨v2, rfl, hown2, hb2⟩
    have hv2 := hv1.below hb2
    have hrd := hown1.rd.below hb2
    have hB : Below w.heap.size w w2 := hb1.trans (hb2.mono hb1.size)
    have hown1' := hown1.below hb2 (Nat.le_refl _)
    have hown2' := hown2.mono hb1.size
    clear hown1 hown2 hb1 hb2 hv1
    go_wp2_with (at_builtin; refine wpList_append_R eInt rfl _ _ rfl w.heap.size _ _ _ _ rfl hown2' rfl hrd (fun _ => rfl) hs hB.size ?_; intro v' w3 hown3 hb3; (have hB3 := Lib.hid (hB.trans hb3)); (have Hown := Lib.hid hown3); clear hown3 hb3)
    try first
      | ((with_reducible refine (H4.out _ hv2).mono ?_); (rintro e w3 ⟨rfl, rfl⟩); (go_wp2_with (at_builtin; refine wpList_append_R eInt rfl _ _ rfl w.heap.size _ _ _ _ rfl hown2' rfl hrd (fun _ => rfl) hs hB.size ?_; intro v' w3 hown3 hb3; (have hB3 := Lib.hid (hB.trans hb3)); (have Hown := Lib.hid hown3); clear hown3 hb3)))
      | ((with_reducible refine (H3.out _ hv2).mono ?_); (rintro e w3 ⟨rfl, rfl⟩); (go_wp2_with (at_builtin; refine wpList_append_R eInt rfl _ _ rfl w.heap.size _ _ _ _ rfl hown2' rfl hrd (fun _ => rfl) hs hB.size ?_; intro v' w3 hown3 hb3; (have hB3 := Lib.hid (hB.trans hb3)); (have Hown := Lib.hid hown3); clear hown3 hb3)))
    go_ret
    first
    | exact ⟨_, rfl, hown1', hB⟩
    | exact ⟨_, rfl, hown2', hB⟩
    | exact ⟨_, rfl, Hown.out, hB3.out⟩
end Go.Proofs.Ythcckhpogmlgjaa

namespace Go.Proofs.Ythcckhpogmlgjaa
open Go.RowKit
set_option linter.unusedVariables false

theorem firstT_len (e : E) : ∀ n, (firstT e n).length ≤ nset e := by
  induction e with
  | set => intro n; simp [firstT, nset]
  | empty => intro n; simp [firstT]
  | cat a b iha ihb => intro n; have := iha n; have := ihb (n + nset a); simp only [firstT, nset, List.length_append]; split <;> simp <;> omega
  | alt a b iha ihb => intro n; have := iha n; have := ihb (n + nset a); simp only [firstT, nset, List.length_append]; omega
  | star a ih => exact ih
  | plus a ih => exact ih
  | opt a ih => exact ih
theorem lastT_len (e : E) : ∀ n, (lastT e n).length ≤ nset e := by
  induction e with
  | set => intro n; simp [lastT, nset]
  | empty => intro n; simp [lastT]
  | cat a b iha ihb => intro n; have := iha n; have := ihb (n + nset a); simp only [lastT, nset, List.length_append]; split <;> simp <;> omega
  | alt a b iha ihb => intro n; have := iha n; have := ihb (n + nset a); simp only [lastT, nset, List.length_append]; omega
  | star a ih => exact ih
  | plus a ih => exact ih
  | opt a ih => exact ih
def endsT (e : E) (n : Int) (last : Bool) : List Int := if last then lastT e n else firstT e n
theorem endsT_len (e : E) (n : Int) (last : Bool) : (endsT e n last).length ≤ nset e := by
  unfold endsT; split
  · exact lastT_len e n
  · exact firstT_len e n
theorem AtT.nset_le {l : List Rx} {s t : Nat} {e : E} (h : AtT l s e t) : nset e ≤ l.length := by
  have h1 := Go.Proofs.Ythcckhpogmlgjaa.nset_le e
  have := h.bound
  obtain ⟨pre, suf, rfl, rfl, rfl⟩ := h
  simp; omega

theorem ends_any (l : List Rx) (hl : l.length ≤ 1000) (e : E) : ∀ (s t : Nat), AtT l s e t → ∀ (v : Value) (last : Bool) (i : Int), i = (t : Int) - 1 → ∀ (w : World), RdX w v l → EndsSpec v w i last (endsT e (numL l s) last) := by
  induction e with
  | set =>
    intro s t h v last i hi w hv
    obtain ⟨j, hj, hjt, hk⟩ := h.root
    obtain rfl : i = (j : Int) := by omega
    have : s = j := by obtain ⟨pre, suf, _, rfl, rfl⟩ := h; simp [post] at hjt; omega
    subst this
    have := ends_set v l w hv hl s hj hk last
    cases last <;> exact this
  | empty =>
    intro s t h v last i hi w hv
    obtain ⟨j, hj, hjt, hk⟩ := h.root
    obtain rfl : i = (j : Int) := by omega
    have := ends_empty v l w hv hl j hj hk last
    cases last <;> exact this
  | star a iha =>
    intro s t h v last i hi w hv
    obtain ⟨j, hj, hjt, hk⟩ := h.root
    obtain rfl : i = (j : Int) := by omega
    exact ends_one v l w hv hl j hj _ hk (by simp [kindT]) last _ (iha s (t - 1) h.star v last _ (by have := h.star.bound; omega) w hv)
  | plus a iha =>
    intro s t h v last i hi w hv
    obtain ⟨j, hj, hjt, hk⟩ := h.root
    obtain rfl : i = (j : Int) := by omega
    exact ends_one v l w hv hl j hj _ hk (by simp [kindT]) last _ (iha s (t - 1) h.plus v last _ (by have := h.plus.bound; omega) w hv)
  | opt a iha =>
    intro s t h v last i hi w hv
    obtain ⟨j, hj, hjt, hk⟩ := h.root
    obtain rfl : i = (j : Int) := by omega
    exact ends_one v l w hv hl j hj _ hk (by simp [kindT]) last _ (iha s (t - 1) h.opt v last _ (by have := h.opt.bound; omega) w hv)
  | cat a b iha ihb =>
    intro s t h v last i hi w hv
    obtain ⟨j, hj, hjt, hk⟩ := h.root
    obtain ⟨m, ha, hb, hsm, hmt⟩ := h.cat
    obtain rfl : i = (j : Int) := by omega
    have hn := ha.num
    have hla := endsT_len a (numL l s) last
    have hlb := endsT_len b (numL l m) last
    have hna := ha.nset_le
    have hnb := hb.nset_le
    have := ends_two v l w hv hl j hj _ hk (by simp [kindT]) last m (by omega) (freeT b) (freeT a) _ _ (by omega)
      (fun w hv => ihb m (t - 1) hb v last _ (by omega) w hv) (fun w hv => begin_any l hl b m (t - 1) hb v w hv _ (by omega)) (fun w hv => iha s m ha v last _ (by omega) w hv)
      (fun w hv => free_any l hl b m (t - 1) hb v w hv _ (by omega)) (fun w hv => free_any l hl a s m ha v w hv _ (by omega))
    have e : endsTwo (kindT (E.cat a b)) last (freeT b) (freeT a) (endsT a (numL l s) last) (endsT b (numL l m) last) = endsT (E.cat a b) (numL l s) last := by
      rw [hn]
      unfold endsTwo endsT
      cases last <;> cases hfa : freeT a <;> cases hfb : freeT b <;> simp [kindT, firstT, lastT, hfa, hfb]
    rw [e] at this
    exact this
  | alt a b iha ihb =>
    intro s t h v last i hi w hv
    obtain ⟨j, hj, hjt, hk⟩ := h.root
    obtain ⟨m, ha, hb, hsm, hmt⟩ := h.alt
    obtain rfl : i = (j : Int) := by omega
    have hn := ha.num
    have hla := endsT_len a (numL l s) last
    have hlb := endsT_len b (numL l m) last
    have hna := ha.nset_le
    have hnb := hb.nset_le
    have := ends_two v l w hv hl j hj _ hk (by simp [kindT]) last m (by omega) (freeT b) (freeT a) _ _ (by omega)
      (fun w hv => ihb m (t - 1) hb v last _ (by omega) w hv) (fun w hv => begin_any l hl b m (t - 1) hb v w hv _ (by omega)) (fun w hv => iha s m ha v last _ (by omega) w hv)
      (fun w hv => free_any l hl b m (t - 1) hb v w hv _ (by omega)) (fun w hv => free_any l hl a s m ha v w hv _ (by omega))
    have e : endsTwo (kindT (E.alt a b)) last (freeT b) (freeT a) (endsT a (numL l s) last) (endsT b (numL l m) last) = endsT (E.alt a b) (numL l s) last := by
      rw [hn]
      unfold endsTwo endsT
      cases last <;> simp [kindT, firstT, lastT]
    rw [e] at this
    exact this

/-- what is known of an expression's steps -/
def WfX (l : List Rx) (e : E) : Prop := l.length ≤ 512 ∧ l = post e
theorem WfX.at {l : List Rx} {e : E} (h : WfX l e) : AtT l 0 e l.length := by obtain ⟨_, rfl⟩ := h; exact AtT.whole e
theorem numL_zero (l : List Rx) : numL l 0 = 0 := by simp [numL]
theorem WfX.check {l : List Rx} {e : E} (h : WfX l e) : checkL l = 0 := by obtain ⟨h1, rfl⟩ := h; exact check_tree e h1
theorem wfx_of (l : List Rx) (h : checkL l = 0) : ∃ e, WfX l e := by obtain ⟨h1, e, he⟩ := tree_of l h; exact ⟨e, h1, he⟩

set_option maxHeartbeats 400000 in
theorem ref10_First_any (v : Value) (l : List Rx) (e : E) (w : World) (hv : RdX w v l) (he : WfX l e) :
    Calls Try.prog 71 #[v] w fun e' w' => ∃ v', e' = .returned v' ∧ OwI w' w.heap.size v' (firstT e 0) ∧ Below w.heap.size w w' := by
  obtain ⟨a, c, rfl⟩ := hv.shape
  have hc := Lib.hid he.check
  have hE := ends_any l (by have := he.1; omega) e 0 l.length he.at _ false ((l.length : Int) - 1) rfl w hv
  rw [numL_zero] at hE
  unfold EndsSpec endsT at hE
  have HE := Lib.hid hE; clear hE
  have hlen := he.1
  go_enter Try.func71, Try.ntmps71
  go_wp2_with fail
  refine (ref7_Check_any _ l _ hv).mono ?_
  rintro e1 w1 ⟨he1, rfl⟩
  rw [hc.out] at he1
  subst he1
  go_wp2_with fail
  refine HE.out.mono ?_
  rintro e1 w1 ⟨v1, rfl, hown, hb⟩
  go_wp2_with fail
  go_ret
  exact ⟨_, rfl, hown, hb⟩

set_option maxHeartbeats 400000 in
theorem ref10_Last_any (v : Value) (l : List Rx) (e : E) (w : World) (hv : RdX w v l) (he : WfX l e) :
    Calls Try.prog 67 #[v] w fun e' w' => ∃ v', e' = .returned v' ∧ OwI w' w.heap.size v' (lastT e 0) ∧ Below w.heap.size w w' := by
  obtain ⟨a, c, rfl⟩ := hv.shape
  have hc := Lib.hid he.check
  have hE := ends_any l (by have := he.1; omega) e 0 l.length he.at _ true ((l.length : Int) - 1) rfl w hv
  rw [numL_zero] at hE
  unfold EndsSpec endsT at hE
  have HE := Lib.hid hE; clear hE
  have hlen := he.1
  go_enter Try.func67, Try.ntmps67
  go_wp2_with fail
  refine (ref7_Check_any _ l _ hv).mono ?_
  rintro e1 w1 ⟨he1, rfl⟩
  rw [hc.out] at he1
  subst he1
  go_wp2_with fail
  refine HE.out.mono ?_
  rintro e1 w1 ⟨v1, rfl, hown, hb⟩
  go_wp2_with fail
  go_ret
  exact ⟨_, rfl, hown, hb⟩

end Go.Proofs.Ythcckhpogmlgjaa

namespace Go.Proofs.Ythcckhpogmlgjaa
open Go.RowKit
set_option linter.unusedVariables false

set_option maxHeartbeats 400000 in
theorem ref10_Has_any (v : Value) (l : List Int) (n : Int) (w : World) (hv : RdI w v l) (hl : l.length ≤ 4000000) :
    Calls Try.prog 14 #[v, .int .i64 n] w fun e w' => e = .returned (.bool (decide (n ∈ l))) ∧ w = w' := by
  obtain ⟨a, c, rfl, hc⟩ := hv
  go_enter Try.func14, Try.ntmps14
  go_wp2
  go_loop [5] (fun i => ∃ k : Nat, k ≤ l.length ∧ i = .int .i64 k ∧ n ∉ l.take k) (fun i => l.length - (intOf i).toNat)
  case atStart => exact ⟨0, by omega, rfl, by simp⟩
  case round =>
    obtain ⟨k, hk, rfl, hn⟩ := hrel
    have Hn := Lib.hid hn; clear hn
    by_cases hlt : k < l.length
    · obtain ⟨b, o, rfl, hcell⟩ := hc k hlt
      clear hc
      by_cases he : l[k] = n
      · have he1 : (l[k] == n) = true := by simp [he]
        have Hm : Hid (n ∈ l) := by rw [← he]; exact List.getElem_mem hlt
        clear he
        go_wp2
        go_ret
        exact ⟨by simp [Hm.out], rfl⟩
      · have he1 : (l[k] == n) = false := by simp [he]
        have Hm : Hid (n ∉ l.take (k+1)) := by
          intro hh; rw [List.take_succ_eq_append_getElem hlt] at hh; rcases List.mem_append.1 hh with hh | hh
          · exact Hn.out hh
          · simp at hh; exact he hh.symm
        clear he
        go_wp2
        go_round
        case rel => exact ⟨k + 1, by omega, by go_num, Hm.out⟩
        case measure => simp [intOf]; omega
    · go_wp2
      go_ret
      have : l.take k = l := List.take_of_length_le (by omega)
      have h := Hn.out
      rw [this] at h
      exact ⟨by simp [h], rfl⟩

set_option maxHeartbeats 400000 in
theorem ref9_SameInts_any (v u : Value) (l m : List Int) (w : World) (hv : RdI w v l) (hu : RdI w u m) (hl : l.length ≤ 4000000) (hm : m.length ≤ 4000000) :
    Calls Try.prog 15 #[v, u] w fun e w' => e = .returned (.bool (decide (l = m))) ∧ ∃ n, w' = w.drewN n := by
  obtain ⟨a, c, rfl, hc⟩ := hv
  obtain ⟨a2, c2, rfl, hc2⟩ := hu
  by_cases hlen : l.length = m.length
  · have hlen1 : ((l.length : Int) != (m.length : Int)) = false := by simp [hlen]
    have Hlen := Lib.hid hlen; clear hlen
    go_enter Try.func15, Try.ntmps15
    go_wp2
    go_loopw [5] (fun i wr => (∃ n, wr = w.drewN n) ∧ ∃ k : Nat, k ≤ l.length ∧ i = .int .i64 k ∧ l.take k = m.take k) (fun i _ => l.length - (intOf i).toNat)
    case atStart => exact ⟨⟨0, rfl⟩, 0, by omega, rfl, by simp⟩
    case round =>
      obtain ⟨⟨q, rfl⟩, k, hk, rfl, hn⟩ := hrel
      have Hn := Lib.hid hn; clear hn
      by_cases hlt : k < l.length
      · obtain ⟨b, o, rfl, hcell⟩ := hc k hlt
        have hlt2 : k < m.length := by have := Hlen.out; omega
        obtain ⟨b', o', rfl, hcell'⟩ := hc2 k hlt2
        clear hc hc2
        by_cases hd : l[k] = m[k]
        · have hmm : Hid (l.take (k+1) = m.take (k+1)) := Lib.hid (by
            rw [take_succ l k hlt, take_succ m k hlt2, Hn.out, hd])
          have hd1 : (l[k] != m[k]) = false := by simp [hd]
          clear hd
          go_wp2
          go_quiet (fail)
          go_wp2
          go_roundw
          case rel => exact ⟨⟨_, rfl⟩, k + 1, by omega, by go_num, hmm.out⟩
          case measure => simp [intOf]; omega
        · have hf : Hid (l ≠ m) := by
            intro h; subst h; exact hd rfl
          have hd1 : (l[k] != m[k]) = true := by simp [hd]
          clear hd
          go_wp2
          go_quiet (fail)
          go_wp2
          go_ret
          exact ⟨by simp [hf.out], qd _ _ _⟩
      · go_wp2
        go_ret
        refine ⟨?_, _, rfl⟩
        have h := Hn.out
        rw [List.take_of_length_le (by omega), List.take_of_length_le (by have := Hlen.out; omega)] at h
        simp [h]
  · have hlen1 : ((l.length : Int) != (m.length : Int)) = true := by simp; omega
    have Hf : Hid (l ≠ m) := by intro h; exact hlen (by rw [h])
    clear hlen
    go_enter Try.func15, Try.ntmps15
    go_wp2
    go_ret
    exact ⟨by simp [Hf.out], 0, rfl⟩


/-- the root of step k -/
theorem WfX.sub {l : List Rx} {e : E} (h : WfX l e) (k : Nat) (hk : k < l.length) : ∃ f s n, (subs e 0)[k]? = some (f, (n : Int)) ∧ AtT l s f (k + 1) ∧ numL l s = n ∧ l[k].kind = kindT f := by
  have hs : k < (subs e 0).length := by rw [subs_len, ← h.2]; exact hk
  have hx := subs_at l e 0 l.length h.at k ((subs e 0)[k]) (by rw [numL_zero]; exact List.getElem?_eq_getElem hs)
  obtain ⟨s', h1, h2⟩ := hx
  rw [Nat.zero_add] at h1
  refine ⟨_, s', numL l s', ?_, h1, rfl, h1.kind k hk rfl⟩
  rw [List.getElem?_eq_getElem hs, h2]

def FlRel (e : E) (w : World) (L : Nat) (a b : Int) (i : Value) (wr : World) : Prop :=
  ∃ k : Nat, k ≤ L ∧ i = .int .i64 k ∧ Below w.heap.size w wr ∧ ∀ (j : Nat) (x : E × Int), j < k → (subs e 0)[j]? = some x → rootB x.1 x.2 a b = false

theorem folB_true {e : E} {a b : Int} {k : Nat} {x : E × Int} (h : (subs e 0)[k]? = some x) (hr : rootB x.1 x.2 a b = true) : folB e 0 a b = true :=
  List.any_eq_true.2 ⟨x, List.mem_of_getElem? h, hr⟩
theorem folB_false {e : E} {a b : Int} (h : ∀ (j : Nat) (x : E × Int), j < (subs e 0).length → (subs e 0)[j]? = some x → rootB x.1 x.2 a b = false) : folB e 0 a b = false := by
  rw [Bool.eq_false_iff]
  intro ht
  obtain ⟨x, hx, hr⟩ := List.any_eq_true.1 ht
  obtain ⟨j, hj, rfl⟩ := List.getElem_of_mem hx
  rw [h j _ hj (List.getElem?_eq_getElem hj)] at hr
  cases hr
theorem FlRel.step {e : E} {w w1 : World} {L : Nat} {a b : Int} {k : Nat} {x : E × Int} (hk : k < L) (hb : Below w.heap.size w w1) (hold : ∀ (j : Nat) (x : E × Int), j < k → (subs e 0)[j]? = some x → rootB x.1 x.2 a b = false) (hx : (subs e 0)[k]? = some x) (hr : rootB x.1 x.2 a b = false) (i : Value) (hi : i = .int .i64 ((k + 1 : Nat) : Int)) : FlRel e w L a b i w1 :=
  ⟨k + 1, by omega, hi, hb, fun j y hj hy => by
    by_cases e1 : j = k
    · subst e1; rw [hx] at hy; cases hy; exact hr
    · exact hold j y (by omega) hy⟩

set_option maxHeartbeats 2000000 in
theorem follows_any (v : Value) (l : List Rx) (e : E) (a b : Int) (w : World) (hv : RdX w v l) (he : WfX l e) :
    Calls Try.prog 83 #[v, .int .i64 a, .int .i64 b] w fun e' w' => e' = .returned (.bool (folB e 0 a b)) ∧ Below w.heap.size w w' := by
  have hl := he.1
  obtain ⟨ad, c, rfl⟩ := hv.shape
  go_enter Try.func83, Try.ntmps83
  go_wp2_with fail
  go_loopw [7] (FlRel e w l.length a b) (fun i _ => l.length - (intOf i).toNat)
  case atStart => exact ⟨0, by omega, rfl, Below.refl _ _, fun j x hj => by omega⟩
  case round =>
    obtain ⟨k, hk, rfl, hb, hold⟩ := hrel
    have Hold := Lib.hid hold; clear hold
    have hvr := hv.below hb
    by_cases hlt : k < l.length
    · obtain ⟨f, s, n, hsub, hat, hnum, hkind⟩ := he.sub k hlt
      obtain ⟨_, bb, o, rfl, hcell⟩ := hvr.kindAt k hlt
      rw [hkind] at hcell
      have Hsub := Lib.hid hsub; clear hsub
      have Hnum := Lib.hid hnum; clear hnum
      clear hkind
      cases f with
      | set | empty | alt x y | opt x =>
        simp only [kindT] at hcell
        go_wp2_with fail
        go_roundw
        case rel => exact FlRel.step hlt hb Hold.out Hsub.out rfl _ (by go_num)
        case measure => simp [intOf]; omega
      | star x =>
        simp only [kindT] at hcell
        have hb1 := hat.star.bound
        have hlen1 : (lastT x n).length ≤ 4000000 := by have := lastT_len x n; have := (hat.star).nset_le; omega
        have hlen2 : (firstT x n).length ≤ 4000000 := by have := firstT_len x n; have := (hat.star).nset_le; omega
        have E1 : Hid (∀ w, RdX w (.slice (some ⟨bb, o, none⟩) l.length c) l → Calls Try.prog 82 #[.slice (some ⟨bb, o, none⟩) l.length c, .int .i64 ((k : Int) - 1), .bool true] w fun e w' => ∃ v', e = .returned v' ∧ OwI w' w.heap.size v' (lastT x n) ∧ Below w.heap.size w w') := Lib.hid (fun w hv => by
          have := ends_any l (by omega) x s k (hat.star) _ true (((k : Int) - 1)) (by omega) w hv
          rw [Hnum.out] at this
          exact this)
        have E2 : Hid (∀ w, RdX w (.slice (some ⟨bb, o, none⟩) l.length c) l → Calls Try.prog 82 #[.slice (some ⟨bb, o, none⟩) l.length c, .int .i64 ((k : Int) - 1), .bool false] w fun e w' => ∃ v', e = .returned v' ∧ OwI w' w.heap.size v' (firstT x n) ∧ Below w.heap.size w w') := Lib.hid (fun w hv => by
          have := ends_any l (by omega) x s k (hat.star) _ false ((k : Int) - 1) (by omega) w hv
          rw [Hnum.out] at this
          exact this)
        go_wp2_with fail
        refine (E1.out _ hvr).mono ?_
        rintro e1 w1 ⟨v1, rfl, hown1, hb1⟩
        have hvr1 := hvr.below hb1
        have hB1 := hb.trans (hb1.mono hb.size)
        clear hvr hb hb1 hcell
        go_wp2_with fail
        refine (ref10_Has_any _ _ a _ hown1.rd hlen1).mono ?_
        rintro e2 w2 ⟨he2, rfl⟩
        by_cases hin : a ∈ lastT x n
        · rw [decide_eq_true hin] at he2
          subst he2
          have Hin := Lib.hid hin; clear hin hown1
          go_wp2_with fail
          refine (E2.out _ hvr1).mono ?_
          rintro e3 w3 ⟨v3, rfl, hown3, hb3⟩
          have hB3 := hB1.trans (hb3.mono hB1.size)
          clear hvr1 hB1 hb3
          go_wp2_with fail
          refine (ref10_Has_any _ _ b _ hown3.rd hlen2).mono ?_
          rintro e4 w4 ⟨he4, rfl⟩
          by_cases hin2 : b ∈ firstT x n
          · rw [decide_eq_true hin2] at he4
            subst he4
            have Ht : Hid (folB e 0 a b = true) := Lib.hid (folB_true Hsub.out ((rootB_star x n a b).2 ⟨Hin.out, hin2⟩))
            clear hin2 hown3
            go_wp2_with fail
            go_ret
            exact ⟨ret_bool Ht.out.symm, hB3⟩
          · rw [decide_eq_false hin2] at he4
            subst he4
            have Hr : Hid (rootB (.star x) n a b = false) := Lib.hid (by rw [Bool.eq_false_iff]; intro h; exact hin2 (((rootB_star x n a b).1 h).2))
            clear hin2 hown3
            go_wp2_with fail
            go_roundw
            case rel => exact FlRel.step hlt hB3 Hold.out Hsub.out Hr.out _ (by go_num)
            case measure => simp [intOf]; omega
        · rw [decide_eq_false hin] at he2
          subst he2
          have Hr : Hid (rootB (.star x) n a b = false) := Lib.hid (by rw [Bool.eq_false_iff]; intro h; exact hin (((rootB_star x n a b).1 h).1))
          clear hin hown1
          go_wp2_with fail
          go_roundw
          case rel => exact FlRel.step hlt hB1 Hold.out Hsub.out Hr.out _ (by go_num)
          case measure => simp [intOf]; omega
      | plus x =>
        simp only [kindT] at hcell
        have hb1 := hat.plus.bound
        have hlen1 : (lastT x n).length ≤ 4000000 := by have := lastT_len x n; have := (hat.plus).nset_le; omega
        have hlen2 : (firstT x n).length ≤ 4000000 := by have := firstT_len x n; have := (hat.plus).nset_le; omega
        have E1 : Hid (∀ w, RdX w (.slice (some ⟨bb, o, none⟩) l.length c) l → Calls Try.prog 82 #[.slice (some ⟨bb, o, none⟩) l.length c, .int .i64 ((k : Int) - 1), .bool true] w fun e w' => ∃ v', e = .returned v' ∧ OwI w' w.heap.size v' (lastT x n) ∧ Below w.heap.size w w') := Lib.hid (fun w hv => by
          have := ends_any l (by omega) x s k (hat.plus) _ true (((k : Int) - 1)) (by omega) w hv
          rw [Hnum.out] at this
          exact this)
        have E2 : Hid (∀ w, RdX w (.slice (some ⟨bb, o, none⟩) l.length c) l → Calls Try.prog 82 #[.slice (some ⟨bb, o, none⟩) l.length c, .int .i64 ((k : Int) - 1), .bool false] w fun e w' => ∃ v', e = .returned v' ∧ OwI w' w.heap.size v' (firstT x n) ∧ Below w.heap.size w w') := Lib.hid (fun w hv => by
          have := ends_any l (by omega) x s k (hat.plus) _ false ((k : Int) - 1) (by omega) w hv
          rw [Hnum.out] at this
          exact this)
        go_wp2_with fail
        refine (E1.out _ hvr).mono ?_
        rintro e1 w1 ⟨v1, rfl, hown1, hb1⟩
        have hvr1 := hvr.below hb1
        have hB1 := hb.trans (hb1.mono hb.size)
        clear hvr hb hb1 hcell
        go_wp2_with fail
        refine (ref10_Has_any _ _ a _ hown1.rd hlen1).mono ?_
        rintro e2 w2 ⟨he2, rfl⟩
        by_cases hin : a ∈ lastT x n
        · rw [decide_eq_true hin] at he2
          subst he2
          have Hin := Lib.hid hin; clear hin hown1
          go_wp2_with fail
          refine (E2.out _ hvr1).mono ?_
          rintro e3 w3 ⟨v3, rfl, hown3, hb3⟩
          have hB3 := hB1.trans (hb3.mono hB1.size)
          clear hvr1 hB1 hb3
          go_wp2_with fail
          refine (ref10_Has_any _ _ b _ hown3.rd hlen2).mono ?_
          rintro e4 w4 ⟨he4, rfl⟩
          by_cases hin2 : b ∈ firstT x n
          · rw [decide_eq_true hin2] at he4
            subst he4
            have Ht : Hid (folB e 0 a b = true) := Lib.hid (folB_true Hsub.out ((rootB_plus x n a b).2 ⟨Hin.out, hin2⟩))
            clear hin2 hown3
            go_wp2_with fail
            go_ret
            exact ⟨ret_bool Ht.out.symm, hB3⟩
          · rw [decide_eq_false hin2] at he4
            subst he4
            have Hr : Hid (rootB (.plus x) n a b = false) := Lib.hid (by rw [Bool.eq_false_iff]; intro h; exact hin2 (((rootB_plus x n a b).1 h).2))
            clear hin2 hown3
            go_wp2_with fail
            go_roundw
            case rel => exact FlRel.step hlt hB3 Hold.out Hsub.out Hr.out _ (by go_num)
            case measure => simp [intOf]; omega
        · rw [decide_eq_false hin] at he2
          subst he2
          have Hr : Hid (rootB (.plus x) n a b = false) := Lib.hid (by rw [Bool.eq_false_iff]; intro h; exact hin (((rootB_plus x n a b).1 h).1))
          clear hin hown1
          go_wp2_with fail
          go_roundw
          case rel => exact FlRel.step hlt hB1 Hold.out Hsub.out Hr.out _ (by go_num)
          case measure => simp [intOf]; omega
      | cat x y =>
        simp only [kindT] at hcell
        obtain ⟨m, hm1, hm2', hsm, hmk⟩ := hat.cat
        have hm2 : AtT l m y k := hm2'
        have hlen1 : (lastT x n).length ≤ 4000000 := by have := lastT_len x n; have := (hm1).nset_le; omega
        have hlen2 : (firstT y (n + nset x)).length ≤ 4000000 := by have := firstT_len y (n + nset x); have := (hm2).nset_le; omega
        have E1 : Hid (∀ w, RdX w (.slice (some ⟨bb, o, none⟩) l.length c) l → Calls Try.prog 82 #[.slice (some ⟨bb, o, none⟩) l.length c, .int .i64 ((m : Int) - 1), .bool true] w fun e w' => ∃ v', e = .returned v' ∧ OwI w' w.heap.size v' (lastT x n) ∧ Below w.heap.size w w') := Lib.hid (fun w hv => by
          have := ends_any l (by omega) x s m (hm1) _ true (((m : Int) - 1)) (by omega) w hv
          rw [Hnum.out] at this
          exact this)
        have E2 : Hid (∀ w, RdX w (.slice (some ⟨bb, o, none⟩) l.length c) l → Calls Try.prog 82 #[.slice (some ⟨bb, o, none⟩) l.length c, .int .i64 ((k : Int) - 1), .bool false] w fun e w' => ∃ v', e = .returned v' ∧ OwI w' w.heap.size v' (firstT y (n + nset x)) ∧ Below w.heap.size w w') := Lib.hid (fun w hv => by
          have := ends_any l (by omega) y m k (hm2) _ false ((k : Int) - 1) (by omega) w hv
          rw [(hm1).num, Int.natCast_add, Hnum.out] at this
          exact this)
        go_wp2_with fail
        refine (begin_any l (by omega) y m k hm2 _ _ hvr ((k : Int) - 1) rfl).mono ?_
        rintro e0 w0 ⟨rfl, rfl⟩
        go_wp2_with fail
        refine (E1.out _ hvr).mono ?_
        rintro e1 w1 ⟨v1, rfl, hown1, hb1⟩
        have hvr1 := hvr.below hb1
        have hB1 := hb.trans (hb1.mono hb.size)
        clear hvr hb hb1 hcell
        go_wp2_with fail
        refine (ref10_Has_any _ _ a _ hown1.rd hlen1).mono ?_
        rintro e2 w2 ⟨he2, rfl⟩
        by_cases hin : a ∈ lastT x n
        · rw [decide_eq_true hin] at he2
          subst he2
          have Hin := Lib.hid hin; clear hin hown1
          go_wp2_with fail
          refine (E2.out _ hvr1).mono ?_
          rintro e3 w3 ⟨v3, rfl, hown3, hb3⟩
          have hB3 := hB1.trans (hb3.mono hB1.size)
          clear hvr1 hB1 hb3
          go_wp2_with fail
          refine (ref10_Has_any _ _ b _ hown3.rd hlen2).mono ?_
          rintro e4 w4 ⟨he4, rfl⟩
          by_cases hin2 : b ∈ firstT y (n + nset x)
          · rw [decide_eq_true hin2] at he4
            subst he4
            have Ht : Hid (folB e 0 a b = true) := Lib.hid (folB_true Hsub.out ((rootB_cat x y n a b).2 ⟨Hin.out, hin2⟩))
            clear hin2 hown3
            go_wp2_with fail
            go_ret
            exact ⟨ret_bool Ht.out.symm, hB3⟩
          · rw [decide_eq_false hin2] at he4
            subst he4
            have Hr : Hid (rootB (.cat x y) n a b = false) := Lib.hid (by rw [Bool.eq_false_iff]; intro h; exact hin2 (((rootB_cat x y n a b).1 h).2))
            clear hin2 hown3
            go_wp2_with fail
            go_roundw
            case rel => exact FlRel.step hlt hB3 Hold.out Hsub.out Hr.out _ (by go_num)
            case measure => simp [intOf]; omega
        · rw [decide_eq_false hin] at he2
          subst he2
          have Hr : Hid (rootB (.cat x y) n a b = false) := Lib.hid (by rw [Bool.eq_false_iff]; intro h; exact hin (((rootB_cat x y n a b).1 h).1))
          clear hin hown1
          go_wp2_with fail
          go_roundw
          case rel => exact FlRel.step hlt hB1 Hold.out Hsub.out Hr.out _ (by go_num)
          case measure => simp [intOf]; omega
    · go_wp2_with fail
      go_ret
      exact ⟨ret_bool (folB_false fun j x hj hx => Hold.out j x (by rw [subs_len, ← he.2] at hj; omega) hx).symm, hb⟩
end Go.Proofs.Ythcckhpogmlgjaa

namespace Go.Proofs.Ythcckhpogmlgjaa
open Go.RowKit
set_option linter.unusedVariables false

def isSet (x : Rx) : Bool := x.kind == 1
def setsL (l : List Rx) : List Rx := if checkL l = 0 then l.filter isSet else []
theorem setsL_of {l : List Rx} {e : E} (h : WfX l e) : setsL l = setsT e := by
  unfold setsL
  rw [if_pos h.check, h.2]
  exact setsT_filter e
theorem filter_snoc {α : Type} (p : α → Bool) (l : List α) (k : Nat) (h : k < l.length) : (l.take (k+1)).filter p = (l.take k).filter p ++ (if p l[k] then [l[k]] else []) := by
  rw [List.take_succ_eq_append_getElem h, List.filter_append]; congr 1
  cases hp : p l[k] <;> simp [hp]

set_option maxHeartbeats 1000000 in
theorem ref10_Sets_any (v : Value) (l : List Rx) (w : World) (hv : RdX w v l) :
    Calls Try.prog 66 #[v] w fun e' w' => ∃ v', e' = .returned v' ∧ OwSet w' w.heap.size v' (setsL l) ∧ Below w.heap.size w w' := by
  have hv0 := hv
  obtain ⟨ad, c, rfl⟩ := hv.shape
  have hE := OwSet_empty w
  have hB : Below w.heap.size w (w.alloc (.cells #[] 56)) := (Below.refl _ _).alloc (Nat.le_refl _) _
  by_cases hck : checkL l = 0
  · have es : setsL l = l.filter isSet := by unfold setsL; rw [if_pos hck]
    rw [es]
    clear es
    have hlen : l.length ≤ 512 := by unfold checkL at hck; split at hck <;> omega
    have Hck := Lib.hid hck; clear hck
    go_enter Try.func66, Try.ntmps66
    go_wp2_with fail
    refine (ref7_Check_any _ l _ (hv.below hB)).mono ?_
    rintro e1 w1 ⟨he1, rfl⟩
    rw [Hck.out] at he1
    subst he1
    go_wp2_with fail
    go_loopw [3, 4] (fun v i wr => ∃ k : Nat, k ≤ l.length ∧ i = .int .i64 k ∧ OwSet wr w.heap.size v ((l.take k).filter isSet) ∧ Below w.heap.size w wr) (fun _ i _ => l.length - (intOf i).toNat)
    case atStart => exact ⟨0, by omega, rfl, hE, hB⟩
    case round =>
      clear hE hB
      obtain ⟨k, hk, rfl, hown, hb⟩ := hrel
      have hsz := hb.size
      by_cases hlt : k < l.length
      · obtain ⟨a', c', hva, hcc⟩ := hv0.below hb
        obtain ⟨b, o, hab, h0, h1, h2, h3, h4⟩ := hcc k hlt
        cases hva
        cases hab
        have hll : ((l.take k).filter isSet).length ≤ 1000000 := by have := List.length_filter_le isSet (l.take k); rw [List.length_take] at this; omega
        have Hs := Lib.hid (filter_snoc isSet l k hlt)
        clear hcc hv hv0
        by_cases hk1 : l[k].kind = 1
        · have e1 : (l[k].kind == 1) = true := by simp [hk1]
          have Hn : Hid ((l.take (k+1)).filter isSet = (l.take k).filter isSet ++ [l[k]]) := Lib.hid (by rw [Hs.out, if_pos (show isSet l[k] = true from e1)])
          clear hk1 Hs
          go_wp2_with (at_builtin; refine wpList_append_set rfl _ _ rfl w.heap.size _ _ rfl hown l[k] rfl hll hsz ?_; intro v' w1 hown1 hb1; (have Hb := Lib.hid (hb.trans hb1)); (have Hown := Lib.hid hown1); clear hown hown1 h0 h1 h2 h3 h4 hb hb1)
          go_roundw
          case rel => exact ⟨k + 1, by omega, by go_num, by rw [Hn.out]; exact Hown.out, Hb.out⟩
          case measure => simp [intOf]; omega
        · have e1 : (l[k].kind == 1) = false := by simp [hk1]
          have Hn : Hid ((l.take (k+1)).filter isSet = (l.take k).filter isSet) := Lib.hid (by rw [Hs.out, if_neg (by rw [show isSet l[k] = false from e1]; simp), List.append_nil])
          clear hk1 Hs
          go_wp2_with fail
          go_roundw
          case rel => exact ⟨k + 1, by omega, by go_num, by rw [Hn.out]; exact hown, hb⟩
          case measure => simp [intOf]; omega
      · have e : l.take k = l := List.take_of_length_le (by omega)
        rw [e] at hown
        go_wp2_with fail
        go_ret
        exact ⟨_, rfl, hown, hb⟩
  · have es : setsL l = [] := by unfold setsL; rw [if_neg hck]
    rw [es]
    clear es
    have hne : (checkL l != 0) = true := by simpa using hck
    clear hck
    go_enter Try.func66, Try.ntmps66
    go_wp2_with fail
    refine (ref7_Check_any _ l _ (hv.below hB)).mono ?_
    rintro e1 w1 ⟨rfl, rfl⟩
    go_wp2_with fail
    go_ret
    exact ⟨_, rfl, hE, hB⟩

def folL (e : E) (i : Int) (n : Nat) : List Int := ((List.range n).map fun (b : Nat) => (b : Int)).filter fun b => folB e 0 i b
theorem folL_succ (e : E) (i : Int) (k : Nat) : folL e i (k + 1) = folL e i k ++ (if folB e 0 i k then [(k : Int)] else []) := by
  unfold folL
  rw [List.range_succ, List.map_append, List.filter_append]
  congr 1
  cases h : folB e 0 i k <;> simp [h]
theorem folL_len (e : E) (i : Int) (n : Nat) : (folL e i n).length ≤ n := by
  unfold folL
  exact Nat.le_trans (List.length_filter_le _ _) (by simp)
/-- what Follow returns of an expression -/
def folR (e : E) (i : Int) : List Int := if 0 ≤ i ∧ i < nset e then folL e i (nset e) else []

set_option maxHeartbeats 1000000 in
theorem ref10_Follow_any (v : Value) (l : List Rx) (e : E) (i : Int) (w : World) (hv : RdX w v l) (he : WfX l e) :
    Calls Try.prog 70 #[v, .int .i64 i] w fun e' w' => ∃ v', e' = .returned v' ∧ OwI w' w.heap.size v' (folR e i) ∧ Below w.heap.size w w' := by
  obtain ⟨ad, c, rfl⟩ := hv.shape
  have hE := OwI_empty w
  have hB : Below w.heap.size w (w.alloc (.cells #[] 3)) := (Below.refl _ _).alloc (Nat.le_refl _) _
  have hlen := he.1
  have hns : (setsL l).length = nset e := by rw [setsL_of he, setsT_len]
  have hnn : nset e ≤ l.length := he.at.nset_le
  have Hns := Lib.hid hns; clear hns
  go_enter Try.func70, Try.ntmps70
  go_wp2_with fail
  refine (ref10_Sets_any _ l _ (hv.below hB)).mono ?_
  rintro e1 w1 ⟨v1, rfl, hown1, hb1⟩
  obtain ⟨asl, cs, hvs⟩ := hown1.shape
  rw [Hns.out] at hvs
  subst hvs
  have hE1 : OwI w1 w.heap.size (.slice (some ⟨w.heap.size, 0, none⟩) 0 0) [] := hE.below hb1 (Nat.le_refl _)
  have hB1 : Below w.heap.size w w1 := hB.trans (hb1.mono hB.size)
  clear hown1 hE hB hb1
  go_wp2_with fail
  by_cases hi : 0 ≤ i ∧ i < nset e
  · have ef : folR e i = folL e i (nset e) := by unfold folR; rw [if_pos hi]
    have Hef := Lib.hid ef; clear ef
    obtain ⟨hi1, hi2⟩ := hi
    go_loopw [5, 7] (fun v j wr => ∃ k : Nat, k ≤ nset e ∧ j = .int .i64 k ∧ OwI wr w.heap.size v (folL e i k) ∧ Below w.heap.size w wr) (fun _ j _ => nset e - (intOf j).toNat)
    case atStart => exact ⟨0, by omega, rfl, hE1, hB1⟩
    case round =>
      clear hE1 hB1
      obtain ⟨k, hk, rfl, hown, hb⟩ := hrel
      have hsz := hb.size
      by_cases hlt : k < nset e
      · have hll : (folL e i k).length ≤ 10000000 := by have := folL_len e i k; omega
        have Hs := Lib.hid (folL_succ e i k)
        go_wp2_with fail
        refine (follows_any _ l e i k _ (hv.below hb) he).mono ?_
        rintro e2 w2 ⟨he2, hb2⟩
        have hown2 := hown.below hb2 (Nat.le_refl _)
        have hB2 := hb.trans (hb2.mono hb.size)
        have hsz2 := hB2.size
        clear hown hb hb2
        cases hf : folB e 0 i k
        · rw [hf] at he2
          subst he2
          have Hn : Hid (folL e i (k + 1) = folL e i k) := Lib.hid (by rw [Hs.out, hf]; simp)
          clear hf Hs
          go_wp2_with fail
          go_roundw
          case rel => exact ⟨k + 1, by omega, by go_num, by rw [Hn.out]; exact hown2, hB2⟩
          case measure => simp [intOf]; omega
        · rw [hf] at he2
          subst he2
          have Hn : Hid (folL e i (k + 1) = folL e i k ++ [(k : Int)]) := Lib.hid (by rw [Hs.out, hf]; simp)
          clear hf Hs
          go_wp2_with (at_builtin; refine wpList_append_I rfl _ _ rfl w.heap.size _ _ rfl hown2 _ rfl hll hsz2 ?_; intro v' w3 hown3 hb3; (have Hb := Lib.hid (hB2.trans hb3)); (have Hown := Lib.hid hown3); clear hown2 hown3 hB2 hb3)
          go_roundw
          case rel => exact ⟨k + 1, by omega, by go_num, by rw [Hn.out]; exact Hown.out, Hb.out⟩
          case measure => simp [intOf]; omega
      · obtain rfl : k = nset e := by omega
        go_wp2_with fail
        go_ret
        exact ⟨_, rfl, by rw [Hef.out]; exact hown, hb⟩
  · have ef : folR e i = [] := by unfold folR; rw [if_neg hi]
    have Hef := Lib.hid ef; clear ef
    go_loop [5, 7] (fun v j => v = .slice (some ⟨w.heap.size, 0, none⟩) 0 0 ∧ ∃ k : Nat, k ≤ nset e ∧ j = .int .i64 k) (fun _ j => nset e - (intOf j).toNat)
    case atStart => exact ⟨rfl, 0, by omega, rfl⟩
    case round =>
      obtain ⟨rfl, k, hk, rfl⟩ := hrel
      by_cases hlt : k < nset e
      · rcases Int.lt_or_le i 0 with h0 | h0
        · clear hi
          go_wp2_with fail
          go_round
          case rel => exact ⟨rfl, k + 1, by omega, by go_num⟩
          case measure => simp [intOf]; omega
        · have hi2 : ¬ i < (nset e : Int) := fun h => hi ⟨h0, h⟩
          clear hi
          go_wp2_with fail
          go_round
          case rel => exact ⟨rfl, k + 1, by omega, by go_num⟩
          case measure => simp [intOf]; omega
      · clear hi
        go_wp2_with fail
        go_ret
        exact ⟨_, rfl, by rw [Hef.out]; exact hE1, hB1⟩
end Go.Proofs.Ythcckhpogmlgjaa

/-
  The package spot: what its functions tell of an expression; the reference's functions over pure values.
-/
namespace Go.Proofs.Ythcckhpogmlgjaa
open Go Go.RowKit L
set_option linter.unusedVariables false
set_option linter.unusedSimpArgs false

theorem L.PCallOwn.roK {P : Program} {f : FuncId} {qs : List PV} {t : TypeId} {k : Nat} {R : Nat → List Value → Prop} (h : PCallOwn P f qs t k R) (xs : List PV) (hR : ∀ n us, R n us → n = xs.length ∧ us.map PV.u = xs.flatMap PV.cells) (hc : ∀ y ∈ xs, y.cells.length = k) (hk : 0 < k) (hnp : ∀ y ∈ xs, NoP y) : PCall P f qs (· = .sl k xs) := fun Z w vs hz _ ha =>
  (h w vs ⟨ha.1, fun i p v h1 h2 => (ha.2 i p v h1 h2).mono (fun b hb hlt => ⟨fun hq => (pz_empty.1 hq).elim, hlt, rfl⟩) (Nat.zero_le _) (fun _ => Nat.le_refl _) (fun id ver _ h1 h2 => ⟨h1, h2, rfl⟩)⟩).mono fun e w' ⟨v, n, us, h1, h2, ho, h4, hb⟩ => by
    obtain ⟨rfl, hus⟩ := hR n us h2
    refine ⟨v, _, h1, rfl, .sl _ _ hnp, ?_, hb⟩
    · rcases ho.2 with ⟨e, h0⟩ | ⟨g, cap, cur, e, hg, hh, hcap, _, _, htake⟩
      · have : xs = [] := List.eq_nil_of_length_eq_zero h0
        subst this
        rw [e]
        exact .nil _ _ _
      · rw [e]
        have := Rp.sl (Z := Z) (H := PHeap.empty) (V := V0) (w := w') k xs g 0 cap (fun i => (us[i]?).getD undef) hc (by simpa using hcap) (fun hq => by have := hz g (pz_empty.1 hq); omega) (Array.getElem?_eq_some_iff.1 hh).1 (fun i p hi => by
          rw [← hus, List.getElem?_map] at hi
          cases hu : us[i]? with
          | none => rw [hu] at hi; cases hi
          | some u =>
            have := ho.cells (g := g) (by rw [e]; rfl) i u hu
            rw [addr_add] at this
            simpa using this) (fun i p hi => by
          rw [← hus, List.getElem?_map] at hi
          cases hu : us[i]? with
          | none => rw [hu] at hi; cases hi
          | some u => rw [hu] at hi; cases hi; exact .u _)
        exact this

theorem owI_pcall {f : FuncId} {qs : List PV} {L : List Int} (h : PCallOwn Try.prog f qs 3 1 (fun n us => n = L.length ∧ us = L.map (.int .i64))) : PCall Try.prog f qs (· = slI L) :=
  h.ro.weak fun p ⟨us, ⟨_, h⟩, hp⟩ => by rw [hp, h, List.map_map]; rfl

theorem refFirst_good (l : List Rx) (e : E) (he : WfX l e) : PCall Try.prog 71 [slX l] (· = slI (firstT e 0)) := owI_pcall fun w vs h => by
  obtain ⟨v, rfl, h1⟩ := rpl1 h
  exact (ref10_First_any v l e w (rdX_of h1) he).mono fun e' w' ⟨v', he, ho, hb⟩ => ⟨v', _, _, he, ⟨rfl, rfl⟩, ho, fun u hu => by obtain ⟨z, _, rfl⟩ := List.mem_map.1 hu; rfl, hb⟩
theorem refLast_good (l : List Rx) (e : E) (he : WfX l e) : PCall Try.prog 67 [slX l] (· = slI (lastT e 0)) := owI_pcall fun w vs h => by
  obtain ⟨v, rfl, h1⟩ := rpl1 h
  exact (ref10_Last_any v l e w (rdX_of h1) he).mono fun e' w' ⟨v', he, ho, hb⟩ => ⟨v', _, _, he, ⟨rfl, rfl⟩, ho, fun u hu => by obtain ⟨z, _, rfl⟩ := List.mem_map.1 hu; rfl, hb⟩
theorem refFollow_good (l : List Rx) (e : E) (i : Int) (he : WfX l e) : PCall Try.prog 70 [slX l, I i] (· = slI (folR e i)) := owI_pcall fun w vs h => by
  obtain ⟨v, u, rfl, h1, h2⟩ := rpl2 h
  rw [rpu h2]
  exact (ref10_Follow_any v l e i w (rdX_of h1) he).mono fun e' w' ⟨v', he, ho, hb⟩ => ⟨v', _, _, he, ⟨rfl, rfl⟩, ho, fun u hu => by obtain ⟨z, _, rfl⟩ := List.mem_map.1 hu; rfl, hb⟩
theorem refSets_ok (l : List Rx) : PCall Try.prog 66 [slX l] (· = slS (setsL l)) :=
  L.PCallOwn.roK (t := 56) (R := fun n us => n = (setsL l).length ∧ us = (setsL l).flatMap setCells) (fun w vs h => by
    obtain ⟨v, rfl, h1⟩ := rpl1 h
    exact (ref10_Sets_any v l w (rdX_of h1)).mono fun e' w' ⟨v', he, ho, hb⟩ => ⟨v', _, _, he, ⟨rfl, rfl⟩, ho, fun u hu => by
      obtain ⟨z, _, hz⟩ := List.mem_flatMap.1 hu
      simp [setCells] at hz
      rcases hz with rfl | rfl | rfl | rfl <;> rfl, hb⟩) ((setsL l).map encS) (fun n us ⟨h1, h2⟩ => ⟨by simp [h1], by
        rw [h2, setCs_map]
        generalize setsL l = m
        induction m with
        | nil => rfl
        | cons x m ih => simp only [List.flatMap_cons, List.map_append, setCs] at *; rw [ih]; rfl⟩) (fun y hy => by obtain ⟨z, _, rfl⟩ := List.mem_map.1 hy; rfl) (by decide) (fun y hy => by
          obtain ⟨z, _, rfl⟩ := List.mem_map.1 hy
          exact .agg _ (fun c hc => by simp at hc; rcases hc with rfl | rfl | rfl | rfl <;> exact .u _))

/-! what spot tells -/
theorem sp_of {l : List Rx} {e : E} (he : WfX l e) : spSets l = setsT e ∧ spFirst l = firstT e 0 ∧ spLast l = lastT e 0 ∧ spFree l = freeT e ∧ ∀ i, spFollow l i = folR e i := by
  have hc := he.check
  obtain ⟨_, rfl⟩ := he
  obtain ⟨fol, hr, hf⟩ := runS_post e
  refine ⟨?_, ?_, ?_, ?_, fun i => ?_⟩
  · unfold spSets; rw [if_pos hc, hr]
  · unfold spFirst topS; rw [if_pos hc, hr]; rfl
  · unfold spLast topS; rw [if_pos hc, hr]; rfl
  · unfold spFree topS; rw [if_pos hc, hr]; rfl
  · have htn : (topS (post e)).n = nset e := by unfold topS; rw [hr]; rfl
    unfold folR
    by_cases hi : 0 ≤ i ∧ i < nset e
    · rw [if_pos hi]
      unfold spFollow
      rw [if_pos ⟨hc, hi.1, by rw [htn]; exact hi.2⟩, hr]
      obtain ⟨u, rfl⟩ : ∃ u : Nat, i = (u : Int) := ⟨i.toNat, by omega⟩
      have hu : u < fol.length := by rw [hf.len]; omega
      obtain ⟨r, m⟩ := hf.new u _ (by omega) (List.getElem?_eq_getElem hu)
      simp only [Int.toNat_natCast, List.getElem?_eq_getElem hu, Option.getD_some]
      refine rise_ext r ?_ fun j => ?_
      · unfold folL
        refine List.Pairwise.sublist List.filter_sublist ?_
        rw [List.pairwise_map]
        exact List.pairwise_lt_range.imp fun h => by omega
      · rw [m]
        simp only [folL, List.mem_filter, List.mem_map, List.mem_range]
        constructor
        · intro h
          have := (fol_in e _ _ _ h).2
          exact ⟨⟨j.toNat, by omega, by omega⟩, (folB_iff e _ _ _).2 h⟩
        · rintro ⟨_, h⟩
          exact (folB_iff e _ _ _).1 h
    · rw [if_neg hi]; unfold spFollow; rw [if_neg (fun h => hi ⟨h.2.1, by rw [← htn]; exact h.2.2⟩)]
end Go.Proofs.Ythcckhpogmlgjaa

/-
  Chapter 10's reference over pure values, whatever the steps.
-/
namespace Go.Proofs.Ythcckhpogmlgjaa
open Go Go.RowKit L
set_option linter.unusedVariables false
set_option linter.unusedSimpArgs false

set_option maxRecDepth 20000 in
theorem refFirst_ok (l : List Rx) : PCall Try.prog 71 [slX l] (· = slI (spFirst l)) := by
  by_cases hl : checkL l = 0
  · obtain ⟨e, he⟩ := wfx_of l hl
    have h := sp_of he
    first | rw [h.2.1] | skip
    first | rw [h.2.2.1] | skip
    exact refFirst_good l e he
  · rw [show spFirst l = [] by unfold spFirst; rw [if_neg hl]]
    refine PCall.intro' Try.func71 rfl Try.ntmps71 (by simp) fun W => ?_
    refine PC.seq fun K hK => ?_
    refine PC.region ?_
    repeat (refine PL.k rfl fun KK hKK => ?_; simp [go_sem, stepK]; refine hKK _ ?_; clear hKK KK)
    refine PL.done hK ?_; clear hK
    refine PC.seq fun K hK => ?_
    refine PC.seq fun K2 hK2 => ?_
    refine PC.region ?_
    repeat (refine PL.k rfl fun KK hKK => ?_; simp [go_sem, stepK]; refine hKK _ ?_; clear hKK KK)
    refine PL.call (qs := [slX l]) rfl rfl (by kernel_rfl) (ref7Check_ok l) (by simp [go_sem]) (by simp [go_sem]) ?_ ?_
    · simp [go_sem, slX_noP, View.noP]
    repeat (refine PL.k rfl fun KK hKK => ?_; simp [go_sem, stepK, hl]; refine hKK _ ?_; clear hKK KK)
    refine PL.done hK2 ?_; clear hK2
    refine PC.condT (by simp [go_sem, hl]) ?_
    refine PC.seq fun K hK => ?_
    refine PC.region ?_
    refine PL.buildSliceR (d := 6) rfl rfl rfl (by simp) selem_30 rfl (by omega) (ips := []) (by simp [go_sem]) (by simp [litOk]) (ps := []) rfl ?_
    repeat (refine PL.k rfl fun KK hKK => ?_; simp [go_sem, stepK]; refine hKK _ ?_; clear hKK KK)
    refine PL.done hK ?_; clear hK
    refine PC.ret ?_
    refine fin (.inr rfl) ?_ (noP_slI _)
    simp [resP, resP1, Try.results71, go_sem, slI]

set_option maxRecDepth 20000 in
theorem refLast_ok (l : List Rx) : PCall Try.prog 67 [slX l] (· = slI (spLast l)) := by
  by_cases hl : checkL l = 0
  · obtain ⟨e, he⟩ := wfx_of l hl
    have h := sp_of he
    first | rw [h.2.1] | skip
    first | rw [h.2.2.1] | skip
    exact refLast_good l e he
  · rw [show spLast l = [] by unfold spLast; rw [if_neg hl]]
    refine PCall.intro' Try.func67 rfl Try.ntmps67 (by simp) fun W => ?_
    refine PC.seq fun K hK => ?_
    refine PC.region ?_
    repeat (refine PL.k rfl fun KK hKK => ?_; simp [go_sem, stepK]; refine hKK _ ?_; clear hKK KK)
    refine PL.done hK ?_; clear hK
    refine PC.seq fun K hK => ?_
    refine PC.seq fun K2 hK2 => ?_
    refine PC.region ?_
    repeat (refine PL.k rfl fun KK hKK => ?_; simp [go_sem, stepK]; refine hKK _ ?_; clear hKK KK)
    refine PL.call (qs := [slX l]) rfl rfl (by kernel_rfl) (ref7Check_ok l) (by simp [go_sem]) (by simp [go_sem]) ?_ ?_
    · simp [go_sem, slX_noP, View.noP]
    repeat (refine PL.k rfl fun KK hKK => ?_; simp [go_sem, stepK, hl]; refine hKK _ ?_; clear hKK KK)
    refine PL.done hK2 ?_; clear hK2
    refine PC.condT (by simp [go_sem, hl]) ?_
    refine PC.seq fun K hK => ?_
    refine PC.region ?_
    refine PL.buildSliceR (d := 6) rfl rfl rfl (by simp) selem_30 rfl (by omega) (ips := []) (by simp [go_sem]) (by simp [litOk]) (ps := []) rfl ?_
    repeat (refine PL.k rfl fun KK hKK => ?_; simp [go_sem, stepK]; refine hKK _ ?_; clear hKK KK)
    refine PL.done hK ?_; clear hK
    refine PC.ret ?_
    refine fin (.inr rfl) ?_ (noP_slI _)
    simp [resP, resP1, Try.results67, go_sem, slI]

set_option maxRecDepth 20000 in
theorem refFollow_ok (l : List Rx) (i : Int) : PCall Try.prog 70 [slX l, I i] (· = slI (spFollow l i)) := by
  by_cases hl : checkL l = 0
  · obtain ⟨e, he⟩ := wfx_of l hl
    rw [(sp_of he).2.2.2.2 i]
    exact refFollow_good l e i he
  · rw [show spFollow l i = [] by unfold spFollow; rw [if_neg (fun h => hl h.1)]]
    have hS : setsL l = [] := by unfold setsL; rw [if_neg hl]
    have hS2 := refSets_ok l
    rw [hS] at hS2
    refine PCall.intro' Try.func70 rfl Try.ntmps70 (by simp) fun W => ?_
    refine PC.seq fun K hK => ?_
    refine PC.region ?_
    repeat (refine PL.k rfl fun KK hKK => ?_; simp [go_sem, stepK]; refine hKK _ ?_; clear hKK KK)
    refine PL.done hK ?_; clear hK
    refine PC.seq fun K hK => ?_
    refine PC.region ?_
    refine PL.buildSliceR (d := 8) rfl rfl rfl (by simp) selem_30 rfl (by omega) (ips := []) (by simp [go_sem]) (by simp [litOk]) (ps := []) rfl ?_
    repeat (refine PL.k rfl fun KK hKK => ?_; simp [go_sem, stepK]; refine hKK _ ?_; clear hKK KK)
    refine PL.done hK ?_; clear hK
    refine PC.seq fun K hK => ?_
    refine PC.region ?_
    repeat (refine PL.k rfl fun KK hKK => ?_; simp [go_sem, stepK]; refine hKK _ ?_; clear hKK KK)
    refine PL.callB (qs := [slX l]) rfl rfl (by kernel_rfl) hS2 (by simp [go_sem]) ?_ ?_ ?_
    · simp [go_sem, slX_noP]
    · simp [go_sem, slX_noP, View.noP]
    repeat (refine PL.k rfl fun KK hKK => ?_; simp [go_sem, stepK, slS]; refine hKK _ ?_; clear hKK KK)
    refine PL.done hK ?_; clear hK
    refine PC.seq fun K hK => ?_
    refine PC.seq fun K2 hK2 => ?_
    refine PC.region ?_
    repeat (refine PL.k rfl fun KK hKK => ?_; simp [go_sem, stepK]; refine hKK _ ?_; clear hKK KK)
    refine PL.done hK2 ?_; clear hK2
    refine PC.block ?_
    refine PC.loop (fun m F' H' => F' 5 = .sl 1 [] ∧ F' 6 = I 0 ∧ F' 7 = I 0) (m := 0) ⟨by simp [go_sem], by simp [go_sem, slS], by simp [go_sem]⟩ fun m F' H' hI => ?_
    obtain ⟨f5, f6, f7⟩ := hI
    refine PC.seq fun K2 hK2 => ?_
    refine PC.seq fun K3 hK3 => ?_
    refine PC.region ?_
    repeat (refine PL.k rfl fun KK hKK => ?_; simp [go_sem, stepK, f6, f7]; refine hKK _ ?_; clear hKK KK)
    refine PL.done hK3 ?_; clear hK3
    refine PC.condF (by simp [go_sem]) ?_
    refine PC.exit ?_
    refine hK _ _ ?_
    refine PC.seq fun K hK => ?_
    refine PC.region ?_
    repeat (refine PL.k rfl fun KK hKK => ?_; simp [go_sem, stepK, f5]; refine hKK _ ?_; clear hKK KK)
    refine PL.done hK ?_; clear hK
    refine PC.ret ?_
    refine fin (.inr rfl) ?_ (noP_slI _)
    simp [resP, resP1, Try.results70, go_sem, slI]
end Go.Proofs.Ythcckhpogmlgjaa

/-
  The law SpotTells over pure values.
-/
namespace Go.Proofs.Ythcckhpogmlgjaa
open Go Go.RowKit L
set_option linter.unusedVariables false
set_option linter.unusedSimpArgs false

theorem sameInts_ok (l m : List Int) (hl : l.length ≤ 4000000) (hm : m.length ≤ 4000000) : PCall Try.prog 15 [slI l, slI m] (· = B (decide (l = m))) := fun Z w vs hz _ h => by
  obtain ⟨v, u, rfl, h1, h2⟩ := rpl2 h
  exact (ref9_SameInts_any v u l m w (rd_of (fun _ => rfl) h1) (rd_of (fun _ => rfl) h2) hl hm).mono fun e w' ⟨he, n, hw⟩ => ⟨_, _, he, rfl, .u _, .u _, by subst hw; exact below_drewN (Below.refl _ _) n⟩

/-- the chapter's example -/
def e0 : E := .cat (.star (.alt (.set 0 8589934592 0 0) (.set 0 17179869184 0 0))) (.set 0 34359738368 0 0)
theorem wf0 : WfX (post e0) e0 := ⟨by decide, rfl⟩
set_option maxRecDepth 100000 in
theorem read_ok : PCall Try.prog 28 [.u (.string { data := #[40, 97, 124, 98, 41, 42, 99] })] (· = .tup [slX (post e0), I 7, I 0]) :=
  funE_sound (P := Try.prog) (more := fun _ _ => none) (fun _ _ _ h => by cases h) mixed (fuel := 100000) (r := .ro (.tup [slX (post e0), I 7, I 0])) (by kernel_rfl)

section
variable {P : Program} {W : Env} {n : Nat} {F : PFrame} {H : PHeap} {o : Oper} {l : List Oper} {ops : Array Oper} {K : PFrame → PHeap → Prop}
/-- a call of a named function that is called just if a guard says so -/
theorem PL.callBg {f : FuncId} {args : Array Operand} {ts : Array TypeId} {qs : List PV} {p0 : PV} {j d : Nat} {want : Bool} (hg : o.guard = some (j, want)) (hj : (ops[j]?).bind (·.dst) = some d) (ho : o.op = .call ⟨.value (.func f), args, ts⟩) (hF : F d = .u (.bool want)) (hf : goBody P f = true) (hc : PCall P f qs (· = p0)) (hd : dstOk n o) (hn : ∀ p ∈ args.toList.map (evP F), NoP p) (hv : ViewL PHeap.empty (args.toList.map (evP F)) qs)
    (h : PL P W n ops l (F.put o.dst p0) H K) : PL P W n ops (o :: l) F H K :=
  PL.peg hg hj hF (PE.callB hd ho (target_func f args ts) hf hv hn hc fun p e => by subst e; exact h)
theorem PL.buildSliceRg {t e : TypeId} {k b len d : Nat} {z : Value} {parts : Array (Nat × Operand)} {ips : List (Nat × PV)} {ps : List PV} {j dj : Nat} {want : Bool} (hg : o.guard = some (j, want)) (hj : (ops[j]?).bind (·.dst) = some dj) (ho : o.op = .buildSlice t len parts) (hF : F dj = .u (.bool want)) (hd : o.dst = some d) (hdn : d < n) (ht : selem P t = some (e, k, b, z)) (hz : z.cells.toList.all Value.oneCell' = true) (hbig : len * k ≤ 16777216)
    (hp : (parts.toList.map fun x => (x.1, evP F x.2)) = ips) (hlit : litOk H k len ips = true) (hc : ips.map (·.2) = ps)
    (h : PL P W n ops l (F.put (some d) (.sl k ps)) H K) : PL P W n ops (o :: l) F H K := by
  subst hp; subst hc
  refine PL.peg hg hj hF (PE.quiet (by intro d' hd'; rw [hd] at hd'; cases hd'; exact hdn) (PQ.buildSlice ho ht hz hbig hlit) ?_)
  rw [hd]
  simpa only [List.map_map, Function.comp_def] using h
end

set_option maxRecDepth 20000 in
set_option maxHeartbeats 1000000 in
theorem knows10_ok : PCall Try.prog 7 [] (· = B true) := by
  have h0 := sp_of wf0
  have s1 : spSets (post e0) = setsT e0 := h0.1
  have s2 : spFirst (post e0) = [0, 1, 2] := h0.2.1.trans (by decide)
  have s3 : spLast (post e0) = [2] := h0.2.2.1.trans (by decide)
  have s4 : spFree (post e0) = false := h0.2.2.2.1.trans (by decide)
  have s5 : spFollow (post e0) 0 = [0, 1, 2] := (h0.2.2.2.2 0).trans (by decide)
  have c1 := Sets_ok (post e0)
  have c2 := First_ok (post e0)
  have c3 := Last_ok (post e0)
  have c4 := Free_ok (post e0)
  have c5 := Follow_ok (post e0) 0
  rw [s1] at c1; rw [s2] at c2; rw [s3] at c3; rw [s4] at c4; rw [s5] at c5
  have nX := slX_noP (post e0)
  refine PCall.intro' Try.func7 rfl Try.ntmps7 (by simp) fun W => ?_
  refine PC.seq fun K hK => ?_
  refine PC.region ?_
  repeat (refine PL.k rfl fun KK hKK => ?_; simp [go_sem, stepK]; refine hKK _ ?_; clear hKK KK)
  refine PL.done hK ?_; clear hK
  refine PC.seq fun K hK => ?_
  refine PC.region ?_
  refine PL.callB (qs := [.u (.string { data := #[40, 97, 124, 98, 41, 42, 99] })]) rfl rfl (by kernel_rfl) read_ok (by simp [go_sem]) ?_ ?_ ?_
  · simp [go_sem]
  · simp [go_sem]
  generalize hl : post e0 = l0 at *
  repeat (refine PL.k rfl fun KK hKK => ?_; simp [go_sem, stepK]; refine hKK _ ?_; clear hKK KK)
  refine PL.done hK ?_; clear hK
  refine PC.seq fun K hK => ?_
  refine PC.region ?_
  repeat (refine PL.k rfl fun KK hKK => ?_; simp [go_sem, stepK]; refine hKK _ ?_; clear hKK KK)
  refine PL.callB (qs := [slX l0]) rfl rfl (by kernel_rfl) c1 (by simp [go_sem]) ?_ ?_ ?_
  · simp [go_sem, nX]
  · simp [go_sem, nX]
  have hlen : ∀ H, lenP Try.prog H 28 (slS (setsT e0)) = some (I 3) := fun H => by simp [slS, go_sem, e0, setsT]
  repeat (refine PL.k rfl fun KK hKK => ?_; simp [go_sem, stepK, hlen]; refine hKK _ ?_; clear hKK KK)
  (refine PL.g rfl rfl fun KK hKK => ?_; simp (disch := omega) [go_sem, L.stepG]; refine hKK _ ?_; clear hKK KK)
  refine PL.callBg (qs := [slX l0]) rfl rfl rfl (by simp [go_sem]) (by kernel_rfl) c2 (by simp [go_sem]) ?_ ?_ ?_
  · simp [go_sem, nX]
  · simp [go_sem, nX]
  refine PL.buildSliceRg (d := 16) rfl rfl rfl (by simp [go_sem]) rfl (by simp) selem_30 rfl (by omega) (ips := [(0, I 0), (1, I 1), (2, I 2)]) (by simp [go_sem]) (by simp [litOk, go_sem, PV.cells, List.range, List.range.loop]) (ps := [I 0, I 1, I 2]) rfl ?_
  refine PL.callBg (qs := [slI [0, 1, 2], slI [0, 1, 2]]) rfl rfl rfl (by simp [go_sem]) (by kernel_rfl) (sameInts_ok _ _ (by simp) (by simp)) (by simp [go_sem]) ?_ ?_ ?_
  · simp [go_sem, noP_slI]
  · simp [go_sem, slI]
  repeat (refine PL.k rfl fun KK hKK => ?_; simp [go_sem, stepK]; refine hKK _ ?_; clear hKK KK)
  (refine PL.g rfl rfl fun KK hKK => ?_; simp (disch := omega) [go_sem, L.stepG]; refine hKK _ ?_; clear hKK KK)
  refine PL.callBg (qs := [slX l0]) rfl rfl rfl (by simp [go_sem]) (by kernel_rfl) c3 (by simp [go_sem]) ?_ ?_ ?_
  · simp [go_sem, nX]
  · simp [go_sem, nX]
  refine PL.buildSliceRg (d := 22) rfl rfl rfl (by simp [go_sem]) rfl (by simp) selem_30 rfl (by omega) (ips := [(0, I 2)]) (by simp [go_sem]) (by simp [litOk, go_sem, PV.cells, List.range, List.range.loop]) (ps := [I 2]) rfl ?_
  refine PL.callBg (qs := [slI [2], slI [2]]) rfl rfl rfl (by simp [go_sem]) (by kernel_rfl) (sameInts_ok _ _ (by simp) (by simp)) (by simp [go_sem]) ?_ ?_ ?_
  · simp [go_sem, noP_slI]
  · simp [go_sem, slI]
  repeat (refine PL.k rfl fun KK hKK => ?_; simp [go_sem, stepK]; refine hKK _ ?_; clear hKK KK)
  (refine PL.g rfl rfl fun KK hKK => ?_; simp (disch := omega) [go_sem, L.stepG]; refine hKK _ ?_; clear hKK KK)
  refine PL.callBg (qs := [slX l0, I 0]) rfl rfl rfl (by simp [go_sem]) (by kernel_rfl) c5 (by simp [go_sem]) ?_ ?_ ?_
  · simp [go_sem, nX]
  · simp [go_sem, nX]
  refine PL.buildSliceRg (d := 28) rfl rfl rfl (by simp [go_sem]) rfl (by simp) selem_30 rfl (by omega) (ips := [(0, I 0), (1, I 1), (2, I 2)]) (by simp [go_sem]) (by simp [litOk, go_sem, PV.cells, List.range, List.range.loop]) (ps := [I 0, I 1, I 2]) rfl ?_
  refine PL.callBg (qs := [slI [0, 1, 2], slI [0, 1, 2]]) rfl rfl rfl (by simp [go_sem]) (by kernel_rfl) (sameInts_ok _ _ (by simp) (by simp)) (by simp [go_sem]) ?_ ?_ ?_
  · simp [go_sem, noP_slI]
  · simp [go_sem, slI]
  repeat (refine PL.k rfl fun KK hKK => ?_; simp [go_sem, stepK]; refine hKK _ ?_; clear hKK KK)
  (refine PL.g rfl rfl fun KK hKK => ?_; simp (disch := omega) [go_sem, L.stepG]; refine hKK _ ?_; clear hKK KK)
  refine PL.callBg (qs := [slX l0]) rfl rfl rfl (by simp [go_sem]) (by kernel_rfl) c4 (by simp [go_sem]) ?_ ?_ ?_
  · simp [go_sem, nX]
  · simp [go_sem, nX]
  (refine PL.g rfl rfl fun KK hKK => ?_; simp (disch := omega) [go_sem, L.stepG]; refine hKK _ ?_; clear hKK KK)
  repeat (refine PL.k rfl fun KK hKK => ?_; simp [go_sem, stepK]; refine hKK _ ?_; clear hKK KK)
  refine PL.done hK ?_; clear hK
  refine PC.ret ?_
  refine fin (.inr rfl) ?_ (.u _)
  simp [resP, resP1, Try.results7, go_sem]
end Go.Proofs.Ythcckhpogmlgjaa

/-
  The law SpotTells over pure values: true, whatever the steps.
-/
namespace Go.Proofs.Ythcckhpogmlgjaa
open Go Go.RowKit L
set_option linter.unusedVariables false
set_option linter.unusedSimpArgs false

theorem sets_same (l : List Rx) : setsL l = spSets l := by
  by_cases hl : checkL l = 0
  · obtain ⟨e, he⟩ := wfx_of l hl
    rw [(sp_of he).1, setsL_of he]
  · unfold setsL spSets; rw [if_neg hl, if_neg hl]

theorem sp_len (l : List Rx) : (spSets l).length ≤ 1000 ∧ (spFirst l).length ≤ 1000 ∧ (spLast l).length ≤ 1000 ∧ ∀ i, (spFollow l i).length ≤ 1000 := by
  by_cases hl : checkL l = 0
  · obtain ⟨e, he⟩ := wfx_of l hl
    have h := sp_of he
    have hn : nset e ≤ 512 := by have := nset_le e; have h2 := he.1; obtain ⟨h3, h4⟩ := he; rw [← h4] at this; omega
    have h1 := firstT_len e 0
    have h2 := lastT_len e 0
    rw [h.1, h.2.1, h.2.2.1, setsT_len]
    refine ⟨by omega, by omega, by omega, fun i => ?_⟩
    rw [h.2.2.2.2]
    unfold folR
    split
    · have := folL_len e i (nset e); omega
    · simp
  · unfold spSets spFirst spLast spFollow
    rw [if_neg hl, if_neg hl, if_neg hl]
    refine ⟨by simp, by simp, by simp, fun i => by rw [if_neg (fun h => hl h.1)]; simp⟩

theorem PQ.neqSet {W : Env} {F : PFrame} {H : PHeap} {o : Oper} {x y : Operand} {tt : TypeId} (a b : Rx) (ho : o.op = .binOp .neq 56 x y tt) (hx : evP F x = encS a) (hy : evP F y = encS b) : PQ Try.prog W o F H (B (!setEq a.s0 a.s1 a.s2 a.s3 b.s0 b.s1 b.s2 b.s3)) :=
  PQ.of_run fun V ac w hr hh => ⟨.bool (!setEq a.s0 a.s1 a.s2 a.s3 b.s0 b.s1 b.s2 b.s3), by
    have h1 := (hh x (by rw [ho]; simp [Op.operands])).val2 (u := .agg #[.int .u64 a.s0, .int .u64 a.s1, .int .u64 a.s2, .int .u64 a.s3]) (by rw [hx]; rfl)
    have h2 := (hh y (by rw [ho]; simp [Op.operands])).val2 (u := .agg #[.int .u64 b.s0, .int .u64 b.s1, .int .u64 b.s2, .int .u64 b.s3]) (by rw [hy]; rfl)
    have hg := run_eqGuard_agg (P := Try.prog) w .neq 56 x y #[.int .u64 a.s0, .int .u64 a.s1, .int .u64 a.s2, .int .u64 a.s3] #[.int .u64 b.s0, .int .u64 b.s1, .int .u64 b.s2, .int .u64 b.s3] (by kernel_rfl)
    have he : (Op.equal 56 (.agg #[.int .u64 a.s0, .int .u64 a.s1, .int .u64 a.s2, .int .u64 a.s3]) (.agg #[.int .u64 b.s0, .int .u64 b.s1, .int .u64 b.s2, .int .u64 b.s3])).run Try.prog w = _ := run_eqSet' w a.s0 a.s1 a.s2 a.s3 b.s0 b.s1 b.s2 b.s3
    simp only [execOp, ho, h1, h2]
    simp [Sem.run_bind, hg, binOp, he], .u _⟩

end Go.Proofs.Ythcckhpogmlgjaa

/-
  Chapter 7's reference over pure values: Cat, Alt of two expressions.
-/
namespace Go.Proofs.Ythcckhpogmlgjaa
open Go Go.RowKit L
set_option linter.unusedVariables false
set_option linter.unusedSimpArgs false

theorem PL.appendP {P : Program} {W : Env} {n : Nat} {F : PFrame} {H : PHeap} {o : Oper} {l : List Oper} {ops : Array Oper} {K : PFrame → PHeap → Prop} {s x : Operand} {t e : TypeId} {k b d id ver m m2 : Nat} {z : Value} {cs cs2 : List PV} {px : PV} (hg : o.guard = none) (ho : o.op = .call { callee := .builtin .append, args := #[s, x], argTypes := #[t, t] }) (hd : o.dst = some d) (hdn : d < n) (ht : selem P t = some (e, k, b, z))
    (hs : evP F s = .ps id ver) (hr : H id = ⟨ver, some (.row e k m cs)⟩) (hp : evP F x = px) (hx : srcP H k px = some (m2, cs2)) (hleaf : ∀ p ∈ cs2, leafOk H p = true) (h63 : m + m2 ≤ maxLen) (hbytes : (m + m2) * b ≤ 140737488355328)
    (h : ∀ ver' H', H' id = ⟨ver', some (.row e k (m + m2) (cs ++ cs2))⟩ → (∀ j, j ≠ id → H' j = H j) → PL P W n ops l (F.put (some d) (.ps id ver')) H' K) : PL P W n ops (o :: l) F H K := by
  subst hp
  refine PL.pe hg (PE.append (cs := cs) ho hd hdn ht hs (by simp [liveRow, hr]) hx hleaf h63 hbytes ?_)
  rw [hd]
  exact absH (h _)

def rxCs (l : List Rx) : List PV := (l.map encX).flatMap PV.cells
theorem rxCs_leaf (H : PHeap) (l : List Rx) : ∀ p ∈ rxCs l, leafOk H p = true := fun p hp => by
  obtain ⟨y, hy, hp⟩ := List.mem_flatMap.1 hp
  obtain ⟨x, _, rfl⟩ := List.mem_map.1 hy
  simp [encX, PV.cells] at hp
  rcases hp with rfl | rfl | rfl | rfl | rfl <;> rfl
theorem rxCs_app (l m : List Rx) : rxCs (l ++ m) = rxCs l ++ rxCs m := by simp [rxCs]
theorem srcX (H : PHeap) (l : List Rx) : srcP H 5 (slX l) = some (l.length, rxCs l) := by simp [srcP, slX, rxCs]
theorem rxView {H : PHeap} {l : List Rx} {id v : Nat} (h : H id = ⟨v, some (.row 58 5 l.length (rxCs l))⟩) : View H (.ps id v) (slX l) := by
  refine View.row (t := 58) (k := 5) (n := l.length) (cs := rxCs l) (by simp [liveRow, h]) (l.map encX) (by simp) (fun y hy => by obtain ⟨z, _, rfl⟩ := List.mem_map.1 hy; rfl) fun i p q h1 h2 => ?_
  have h2' : (rxCs l)[i]? = some q := h2
  rw [h1] at h2'
  cases h2'
  obtain ⟨y, hy, hx⟩ := List.mem_flatMap.1 (List.mem_of_getElem? h1)
  obtain ⟨x, _, rfl⟩ := List.mem_map.1 hy
  refine View.noP ?_
  simp [encX, PV.cells] at hx
  rcases hx with rfl | rfl | rfl | rfl | rfl <;> exact .u _

def manyS (a b : List Rx) (k : Int) : Nat → List Rx
  | 0 => []
  | 1 => a
  | _ => a ++ b ++ [⟨k, 0, 0, 0, 0⟩]

set_option maxRecDepth 20000 in
set_option maxHeartbeats 1000000 in
theorem many_ok (a b : List Rx) (k : Int) (ha : a.length ≤ 1000) (hb : b.length ≤ 1000) : PCall Try.prog 30 [.sl 1 [slX a, slX b], I k] (· = slX (a ++ b ++ [⟨k, 0, 0, 0, 0⟩])) := by
  refine PCall.intro' Try.func30 rfl Try.ntmps30 (by simp) fun W => ?_
  refine PC.seq fun K hK => ?_
  refine PC.region ?_
  repeat (refine PL.k rfl fun KK hKK => ?_; simp [go_sem, stepK]; refine hKK _ ?_; clear hKK KK)
  refine PL.done hK ?_; clear hK
  refine PC.seq fun K hK => ?_
  refine PC.region ?_
  refine PL.buildSliceA 0 (d := 7) rfl rfl rfl (by simp) selem_22 rfl (by omega) (by unfold maxLen; omega) (ips := []) (by simp [go_sem]) (by simp [litOk]) (cs := []) rfl fun v0 H0 b0 o0 => ?_
  repeat (refine PL.k rfl fun KK hKK => ?_; simp [go_sem, stepK]; refine hKK _ ?_; clear hKK KK)
  refine PL.done hK ?_; clear hK
  refine PC.seq fun K hK => ?_
  refine PC.seq fun K2 hK2 => ?_
  refine PC.region ?_
  repeat (refine PL.k rfl fun KK hKK => ?_; simp [go_sem, stepK]; refine hKK _ ?_; clear hKK KK)
  refine PL.done hK2 ?_; clear hK2
  refine PC.block ?_
  refine PC.loop (fun m F H' => ∃ (i v : Nat), i ≤ 2 ∧ m = 2 - i ∧ F 0 = .sl 1 [slX a, slX b] ∧ F 1 = I k ∧ F 5 = .ps 0 v ∧ F 6 = I i ∧ H' 0 = ⟨v, some (.row 58 5 (manyS a b k i).length (rxCs (manyS a b k i)))⟩) (m := 2) ⟨0, v0, by omega, by omega, by simp [go_sem], by simp [go_sem], by simp [go_sem], by simp [go_sem], b0⟩ fun m F H' hI => ?_
  obtain ⟨i, v, hi, hm, f0, f1, f5, f6, h0⟩ := hI
  have h3 : i = 0 ∨ i = 1 ∨ i = 2 := by omega
  rcases h3 with rfl | rfl | rfl
  · refine PC.seq fun K2 hK2 => ?_
    refine PC.seq fun K3 hK3 => ?_
    refine PC.region ?_
    repeat (refine PL.k rfl fun KK hKK => ?_; simp [go_sem, stepK, f0, f6]; refine hKK _ ?_; clear hKK KK)
    refine PL.done hK3 ?_; clear hK3
    refine PC.condT (by simp [go_sem]) ?_
    refine PC.skip (hK2 _ _ ?_); clear hK2
    refine PC.seq fun K2 hK2 => ?_
    refine PC.block ?_
    refine PC.seq fun K3 hK3 => ?_
    refine PC.region ?_
    repeat (refine PL.k rfl fun KK hKK => ?_; simp [go_sem, stepK, f0, f5, f6]; refine hKK _ ?_; clear hKK KK)
    refine PL.appendP (d := 19) (id := 0) (ver := v) (m := (manyS a b k 0).length) (m2 := a.length) (cs := rxCs (manyS a b k 0)) (cs2 := rxCs a) (px := slX a) rfl rfl rfl (by simp) selem_22 (by simp [go_sem, f5]) h0 (by simp [go_sem]) (srcX _ _) (rxCs_leaf _ _) (by simp [manyS, maxLen]; omega) (by simp [manyS]; omega) fun v1 H1 b1 o1 => ?_
    repeat (refine PL.k rfl fun KK hKK => ?_; simp [go_sem, stepK]; refine hKK _ ?_; clear hKK KK)
    refine PL.done hK3 ?_; clear hK3
    refine PC.seq fun K3 hK3 => ?_
    refine PC.region ?_
    repeat (refine PL.k rfl fun KK hKK => ?_; simp [go_sem, stepK, f6]; refine hKK _ ?_; clear hKK KK)
    refine PL.done hK3 ?_; clear hK3
    refine PC.condF (by simp [go_sem]) ?_
    refine PC.skip (hK2 _ _ ?_); clear hK2
    refine PC.region ?_
    repeat (refine PL.k rfl fun KK hKK => ?_; simp [go_sem, stepK, f6]; refine hKK _ ?_; clear hKK KK)
    refine PL.nil ⟨1, by omega, 1, v1, by omega, by omega, by simp [go_sem, f0], by simp [go_sem, f1], by simp [go_sem], by simp [go_sem], by rw [b1]; simp [manyS, rxCs]⟩
  · refine PC.seq fun K2 hK2 => ?_
    refine PC.seq fun K3 hK3 => ?_
    refine PC.region ?_
    repeat (refine PL.k rfl fun KK hKK => ?_; simp [go_sem, stepK, f0, f6]; refine hKK _ ?_; clear hKK KK)
    refine PL.done hK3 ?_; clear hK3
    refine PC.condT (by simp [go_sem]) ?_
    refine PC.skip (hK2 _ _ ?_); clear hK2
    refine PC.seq fun K2 hK2 => ?_
    refine PC.block ?_
    refine PC.seq fun K3 hK3 => ?_
    refine PC.region ?_
    repeat (refine PL.k rfl fun KK hKK => ?_; simp [go_sem, stepK, f0, f5, f6]; refine hKK _ ?_; clear hKK KK)
    refine PL.appendP (d := 19) (id := 0) (ver := v) (m := (manyS a b k 1).length) (m2 := b.length) (cs := rxCs (manyS a b k 1)) (cs2 := rxCs b) (px := slX b) rfl rfl rfl (by simp) selem_22 (by simp [go_sem, f5]) h0 (by simp [go_sem]) (srcX _ _) (rxCs_leaf _ _) (by simp [manyS, maxLen]; omega) (by simp [manyS]; omega) fun v1 H1 b1 o1 => ?_
    repeat (refine PL.k rfl fun KK hKK => ?_; simp [go_sem, stepK]; refine hKK _ ?_; clear hKK KK)
    refine PL.done hK3 ?_; clear hK3
    refine PC.seq fun K3 hK3 => ?_
    refine PC.region ?_
    repeat (refine PL.k rfl fun KK hKK => ?_; simp [go_sem, stepK, f6]; refine hKK _ ?_; clear hKK KK)
    refine PL.done hK3 ?_; clear hK3
    refine PC.condT (by simp [go_sem]) ?_
    refine PC.region ?_
    repeat (refine PL.k rfl fun KK hKK => ?_; simp [go_sem, stepK, f1]; refine hKK _ ?_; clear hKK KK)
    refine PL.buildSliceR (d := 25) rfl rfl rfl (by simp) selem_22 rfl (by omega) (ips := [(0, encX ⟨k, 0, 0, 0, 0⟩)]) (by simp [go_sem]; rfl) (by simp [litOk, go_sem, encX, W64, PV.cells]) (ps := [encX ⟨k, 0, 0, 0, 0⟩]) rfl ?_
    refine PL.appendP (d := 26) (id := 0) (ver := v1) (m := (manyS a b k 1).length + b.length) (m2 := 1) (cs := rxCs (manyS a b k 1) ++ rxCs b) (cs2 := rxCs [⟨k, 0, 0, 0, 0⟩]) (px := slX [⟨k, 0, 0, 0, 0⟩]) rfl rfl rfl (by simp) selem_22 (by simp [go_sem]) b1 (by simp [go_sem]; rfl) (srcX _ _) (rxCs_leaf _ _) (by simp [manyS, maxLen]; omega) (by simp [manyS]; omega) fun v2 H2 b2 o2 => ?_
    repeat (refine PL.k rfl fun KK hKK => ?_; simp [go_sem, stepK]; refine hKK _ ?_; clear hKK KK)
    refine PL.done hK2 ?_; clear hK2
    refine PC.region ?_
    repeat (refine PL.k rfl fun KK hKK => ?_; simp [go_sem, stepK, f6]; refine hKK _ ?_; clear hKK KK)
    refine PL.nil ⟨0, by omega, 2, v2, by omega, by omega, by simp [go_sem, f0], by simp [go_sem, f1], by simp [go_sem], by simp [go_sem], by rw [b2]; simp [manyS, rxCs_app]; omega⟩
  · refine PC.seq fun K2 hK2 => ?_
    refine PC.seq fun K3 hK3 => ?_
    refine PC.region ?_
    repeat (refine PL.k rfl fun KK hKK => ?_; simp [go_sem, stepK, f0, f6]; refine hKK _ ?_; clear hKK KK)
    refine PL.done hK3 ?_; clear hK3
    refine PC.condF (by simp [go_sem]) ?_
    refine PC.exit (hK _ _ ?_); clear hK
    refine PC.seq fun K hK => ?_
    refine PC.region ?_
    repeat (refine PL.k rfl fun KK hKK => ?_; simp [go_sem, stepK, f5]; refine hKK _ ?_; clear hKK KK)
    refine PL.done hK ?_; clear hK
    refine PC.ret ?_
    refine ⟨.inr rfl, .ps 0 v, slX (a ++ b ++ [⟨k, 0, 0, 0, 0⟩]), ?_, rxView h0, slX_noP _, rfl⟩
    simp [resP, resP1, Try.results30, go_sem]

set_option maxRecDepth 20000 in
theorem Cat_ok (a b : List Rx) (ha : a.length ≤ 1000) (hb : b.length ≤ 1000) : PCall Try.prog 8 [.sl 1 [slX a, slX b]] (· = slX (a ++ b ++ [⟨3, 0, 0, 0, 0⟩])) := by
  refine PCall.intro' Try.func8 rfl Try.ntmps8 (by simp) fun W => ?_
  refine PC.seq fun K hK => ?_
  refine PC.region ?_
  repeat (refine PL.k rfl fun KK hKK => ?_; simp [go_sem, stepK]; refine hKK _ ?_; clear hKK KK)
  refine PL.done hK ?_; clear hK
  refine PC.seq fun K hK => ?_
  refine PC.seq fun K2 hK2 => ?_
  refine PC.region ?_
  repeat (refine PL.k rfl fun KK hKK => ?_; simp [go_sem, stepK]; refine hKK _ ?_; clear hKK KK)
  refine PL.done hK2 ?_; clear hK2
  refine PC.condF (by simp [go_sem]) ?_
  refine PC.skip (hK _ _ ?_); clear hK
  refine PC.seq fun K hK => ?_
  refine PC.region ?_
  repeat (refine PL.k rfl fun KK hKK => ?_; simp [go_sem, stepK]; refine hKK _ ?_; clear hKK KK)
  refine PL.callB (qs := [.sl 1 [slX a, slX b], I 3]) rfl rfl (by kernel_rfl) (many_ok a b 3 ha hb) (by simp [go_sem]) ?_ ?_ ?_
  · simp [go_sem, slX_noP]
  · simp [go_sem, slX_noP]
  repeat (refine PL.k rfl fun KK hKK => ?_; simp [go_sem, stepK]; refine hKK _ ?_; clear hKK KK)
  refine PL.done hK ?_; clear hK
  refine PC.ret ?_
  refine fin (.inr rfl) ?_ (slX_noP _)
  simp [resP, resP1, Try.results8, go_sem]

set_option maxRecDepth 20000 in
theorem Alt_ok (a b : List Rx) (ha : a.length ≤ 1000) (hb : b.length ≤ 1000) : PCall Try.prog 9 [.sl 1 [slX a, slX b]] (· = slX (a ++ b ++ [⟨4, 0, 0, 0, 0⟩])) := by
  refine PCall.intro' Try.func9 rfl Try.ntmps9 (by simp) fun W => ?_
  refine PC.seq fun K hK => ?_
  refine PC.region ?_
  repeat (refine PL.k rfl fun KK hKK => ?_; simp [go_sem, stepK]; refine hKK _ ?_; clear hKK KK)
  refine PL.done hK ?_; clear hK
  refine PC.seq fun K hK => ?_
  refine PC.seq fun K2 hK2 => ?_
  refine PC.region ?_
  repeat (refine PL.k rfl fun KK hKK => ?_; simp [go_sem, stepK]; refine hKK _ ?_; clear hKK KK)
  refine PL.done hK2 ?_; clear hK2
  refine PC.condF (by simp [go_sem]) ?_
  refine PC.skip (hK _ _ ?_); clear hK
  refine PC.seq fun K hK => ?_
  refine PC.region ?_
  repeat (refine PL.k rfl fun KK hKK => ?_; simp [go_sem, stepK]; refine hKK _ ?_; clear hKK KK)
  refine PL.callB (qs := [.sl 1 [slX a, slX b], I 4]) rfl rfl (by kernel_rfl) (many_ok a b 4 ha hb) (by simp [go_sem]) ?_ ?_ ?_
  · simp [go_sem, slX_noP]
  · simp [go_sem, slX_noP]
  repeat (refine PL.k rfl fun KK hKK => ?_; simp [go_sem, stepK]; refine hKK _ ?_; clear hKK KK)
  refine PL.done hK ?_; clear hK
  refine PC.ret ?_
  refine fin (.inr rfl) ?_ (slX_noP _)
  simp [resP, resP1, Try.results9, go_sem]
end Go.Proofs.Ythcckhpogmlgjaa

/-
  Chapter 10's reference: Has, over pure values.
-/
namespace Go.Proofs.Ythcckhpogmlgjaa
open Go Go.RowKit L
set_option linter.unusedVariables false
set_option linter.unusedSimpArgs false

set_option maxRecDepth 20000 in
set_option maxHeartbeats 400000 in
theorem Has_ok (l : List Int) (n : Int) (hl : l.length ≤ 4000000) : PCall Try.prog 14 [.sl 1 (l.map I), I n] (· = B (decide (n ∈ l))) := by
  refine PCall.intro' Try.func14 rfl Try.ntmps14 (by simp) fun W => ?_
  refine PC.seq fun K hK => ?_
  refine PC.region ?_
  repeat (refine PL.k rfl fun KK hKK => ?_; simp [go_sem, stepK]; refine hKK _ ?_; clear hKK KK)
  refine PL.done hK ?_; clear hK
  refine PC.seq fun K hK => ?_
  refine PC.seq fun K2 hK2 => ?_
  refine PC.region ?_
  repeat (refine PL.k rfl fun KK hKK => ?_; simp [go_sem, stepK]; refine hKK _ ?_; clear hKK KK)
  refine PL.done hK2 ?_; clear hK2
  refine PC.block ?_
  refine PC.loop (fun m F H => ∃ k : Nat, k ≤ l.length ∧ m = l.length - k ∧ F 0 = .sl 1 (l.map I) ∧ F 1 = I n ∧ F 5 = I k ∧ n ∉ l.take k) (m := l.length) ⟨0, by simp [go_sem]⟩ fun m F H hI => ?_
  obtain ⟨k, hk, hm, h0, h1, h5, hn⟩ := hI
  by_cases hlt : k < l.length
  · have hx : l[k]? = some l[k] := List.getElem?_eq_getElem hlt
    refine PC.seq fun K2 hK2 => ?_
    refine PC.seq fun K3 hK3 => ?_
    refine PC.region ?_
    repeat (refine PL.k rfl fun KK hKK => ?_; simp [go_sem, stepK, h0, h1, h5, hlt]; refine hKK _ ?_; clear hKK KK)
    refine PL.done hK3 ?_; clear hK3
    refine PC.condT (by simp [go_sem]) ?_
    refine PC.skip (hK2 _ _ ?_); clear hK2
    refine PC.seq fun K2 hK2 => ?_
    refine PC.block ?_
    refine PC.seq fun K3 hK3 => ?_
    refine PC.region ?_
    by_cases he : l[k] = n
    · repeat (refine PL.k rfl fun KK hKK => ?_; simp [go_sem, stepK, h0, h1, h5, hlt, he]; refine hKK _ ?_; clear hKK KK)
      refine PL.done hK3 ?_; clear hK3
      refine PC.condT (by simp [go_sem]) ?_
      refine PC.seq fun K3 hK3 => ?_
      refine PC.region ?_
      repeat (refine PL.k rfl fun KK hKK => ?_; simp [go_sem, stepK]; refine hKK _ ?_; clear hKK KK)
      refine PL.done hK3 ?_; clear hK3
      refine PC.ret ?_
      have hm : n ∈ l := he ▸ List.getElem_mem hlt
      simp [inBlockP, thenP, resP, resP1, Try.results14, go_sem, hm]
    · repeat (refine PL.k rfl fun KK hKK => ?_; simp [go_sem, stepK, h0, h1, h5, hlt, he]; refine hKK _ ?_; clear hKK KK)
      refine PL.done hK3 ?_; clear hK3
      refine PC.condF (by simp [go_sem]) ?_
      refine PC.skip (hK2 _ _ ?_); clear hK2
      refine PC.region ?_
      repeat (refine PL.k rfl fun KK hKK => ?_; simp (disch := omega) [go_sem, stepK, h0, h1, h5]; refine hKK _ ?_; clear hKK KK)
      refine PL.nil ⟨l.length - (k + 1), by omega, k + 1, by omega, by omega, ?_, ?_, ?_, ?_⟩
      · simp [go_sem, h0]
      · simp [go_sem, h1]
      · simp [go_sem]
      · rw [List.take_succ_eq_append_getElem hlt]; intro h; rw [List.mem_append] at h; rcases h with h | h; exact hn h; simp at h; exact he h.symm
  · refine PC.seq fun K2 hK2 => ?_
    refine PC.seq fun K3 hK3 => ?_
    refine PC.region ?_
    repeat (refine PL.k rfl fun KK hKK => ?_; simp [go_sem, stepK, h0, h1, h5, hlt]; refine hKK _ ?_; clear hKK KK)
    refine PL.done hK3 ?_; clear hK3
    refine PC.condF (by simp [go_sem]) ?_
    refine PC.exit ?_
    refine hK _ _ ?_
    refine PC.seq fun K3 hK3 => ?_
    refine PC.region ?_
    repeat (refine PL.k rfl fun KK hKK => ?_; simp [go_sem, stepK]; refine hKK _ ?_; clear hKK KK)
    refine PL.done hK3 ?_; clear hK3
    refine PC.ret ?_
    have hm : n ∉ l := by rwa [List.take_of_length_le (by omega)] at hn
    simp [inBlockP, thenP, resP, resP1, Try.results14, go_sem, hm]
end Go.Proofs.Ythcckhpogmlgjaa

/-
  Plain code: computations that may stop short (none), with as many rounds as they are given; when they end (Tot). Nothing here names a function of the program.
-/
namespace Go.Proofs.Ythcckhpogmlgjaa.L
open Go
set_option linter.unusedVariables false
set_option linter.unusedSimpArgs false

abbrev G (α : Type) := Nat → Option α

def G.pure {α : Type} (a : α) : G α := fun _ => some a
def G.lift {α : Type} (o : Option α) : G α := fun _ => o
def G.bind {α β : Type} (m : G α) (f : α → G β) : G β := fun n => (m n).bind fun a => f a n
def G.cond {α : Type} (b : Bool) (x y : G α) : G α := fun n => match b with | true => x n | false => y n
def loopF {σ α : Type} (B : σ → Option (σ ⊕ α)) : Nat → σ → Option α
  | 0, _ => none
  | k + 1, s => match B s with
    | none => none
    | some (.inl s') => loopF B k s'
    | some (.inr a) => some a
def G.loop {σ α : Type} (body : σ → G (σ ⊕ α)) (s : σ) : G α := fun n => loopF (fun s => body s n) n s

theorem G.bind_some {α β : Type} {m : G α} {f : α → G β} {n : Nat} {r : β} (h : G.bind m f n = some r) : ∃ a, m n = some a ∧ f a n = some r := by
  unfold G.bind at h
  cases hm : m n with
  | none => rw [hm] at h; cases h
  | some a => rw [hm] at h; exact ⟨a, rfl, h⟩
theorem G.pure_some {α : Type} {a r : α} {n : Nat} (h : G.pure a n = some r) : a = r := by cases h; rfl
theorem G.lift_some {α : Type} {o : Option α} {r : α} {n : Nat} (h : G.lift o n = some r) : o = some r := h
theorem G.cond_some {α : Type} {b : Bool} {x y : G α} {n : Nat} {r : α} (h : G.cond b x y n = some r) : (b = true ∧ x n = some r) ∨ (b = false ∧ y n = some r) := by
  cases b
  · exact .inr ⟨rfl, h⟩
  · exact .inl ⟨rfl, h⟩
/-- a loop's rounds, its body by a name -/
theorem G.loop_some {σ α : Type} {body : σ → G (σ ⊕ α)} {s : σ} {n : Nat} {r : α} (h : G.loop body s n = some r) : ∃ B : σ → Option (σ ⊕ α), (∀ s, B s = body s n) ∧ loopF B n s = some r := ⟨_, fun _ => rfl, h⟩
theorem loopF_zero {σ α : Type} {B : σ → Option (σ ⊕ α)} {s : σ} {r : α} (h : loopF B 0 s = some r) : False := by cases h
theorem loopF_some {σ α : Type} {B : σ → Option (σ ⊕ α)} {k : Nat} {s : σ} {r : α} (h : loopF B k s = some r) : ∃ k', k = k' + 1 ∧ ∃ x, B s = some x ∧ (match x with | .inl s' => loopF B k' s' = some r | .inr a => a = r) := by
  cases k with
  | zero => cases h
  | succ k =>
    refine ⟨k, rfl, ?_⟩
    rw [loopF] at h
    cases hb : B s with
    | none => rw [hb] at h; cases h
    | some x =>
      rw [hb] at h
      refine ⟨x, rfl, ?_⟩
      cases x with
      | inl s' => exact h
      | inr a => cases h; rfl

/-- it ends, with something that Q holds of -/
def Tot {α : Type} (x : G α) (Q : α → Prop) : Prop := ∃ a N, (∀ n, N ≤ n → x n = some a) ∧ Q a
theorem Tot.mono {α : Type} {x : G α} {Q Q' : α → Prop} (h : Tot x Q) (hq : ∀ a, Q a → Q' a) : Tot x Q' := by
  obtain ⟨a, N, h1, h2⟩ := h
  exact ⟨a, N, h1, hq a h2⟩
theorem Tot.pure {α : Type} {a : α} {Q : α → Prop} (h : Q a) : Tot (G.pure a) Q := ⟨a, 0, fun _ _ => rfl, h⟩
theorem Tot.lift {α : Type} {o : Option α} {a : α} {Q : α → Prop} (ho : o = some a) (h : Q a) : Tot (G.lift o) Q := ⟨a, 0, fun _ _ => ho, h⟩
theorem Tot.bind {α β : Type} {m : G α} {f : α → G β} {Q : β → Prop} (h : Tot m fun a => Tot (f a) Q) : Tot (G.bind m f) Q := by
  obtain ⟨a, N, h1, b, M, h2, hq⟩ := h
  refine ⟨b, max N M, fun n hn => ?_, hq⟩
  unfold G.bind
  rw [h1 n (by omega)]
  exact h2 n (by omega)
/-- a part that is known -/
theorem Tot.bindE {α β : Type} {m : G α} {f : α → G β} {Q : β → Prop} {a : α} (hm : Tot m (· = a)) (h : Tot (f a) Q) : Tot (G.bind m f) Q := .bind (hm.mono fun b hb => hb ▸ h)
theorem Tot.cond {α : Type} {b : Bool} {x y : G α} {Q : α → Prop} (h1 : b = true → Tot x Q) (h2 : b = false → Tot y Q) : Tot (G.cond b x y) Q := by
  cases b
  · exact h2 rfl
  · exact h1 rfl
theorem Tot.loop {σ α : Type} {body : σ → G (σ ⊕ α)} {Q : α → Prop} (J : σ → Prop) (μ : σ → Nat)
    (h : ∀ s, J s → Tot (body s) fun r => match r with | .inl s' => J s' ∧ μ s' < μ s | .inr a => Q a) {s : σ} (h0 : J s) : Tot (G.loop body s) Q := by
  have key : ∀ (m : Nat) (s : σ), μ s < m → J s → ∃ a N, (∀ n, N ≤ n → ∀ k, N ≤ k → loopF (fun s => body s n) k s = some a) ∧ Q a := by
    intro m
    induction m with
    | zero => intro s h; omega
    | succ m ih =>
      intro s hm hJ
      obtain ⟨r, N, h1, h2⟩ := h s hJ
      cases r with
      | inl s' =>
        obtain ⟨a, M, h3, h4⟩ := ih s' (by omega) h2.1
        refine ⟨a, max N (M + 1), fun n hn k hk => ?_, h4⟩
        obtain ⟨k, rfl⟩ : ∃ k', k = k' + 1 := ⟨k - 1, by omega⟩
        rw [loopF, h1 n (by omega)]
        exact h3 n (by omega) k (by omega)
      | inr a =>
        refine ⟨a, max N 1, fun n hn k hk => ?_, h2⟩
        obtain ⟨k, rfl⟩ : ∃ k', k = k' + 1 := ⟨k - 1, by omega⟩
        rw [loopF, h1 n (by omega)]
  obtain ⟨a, N, h1, h2⟩ := key (μ s + 1) s (by omega) h0
  exact ⟨a, N, fun n hn => h1 n hn n hn, h2⟩
/-- the fuel that is enough -/
theorem Tot.run {α : Type} {x : G α} {a : α} (h : Tot x (· = a)) : ∃ n, x n = some a := by
  obtain ⟨b, N, h1, h2⟩ := h
  exact ⟨N, h2 ▸ h1 N (Nat.le_refl _)⟩

/-! simp's own words -/
theorem G.bp {α β : Type} (a : α) (f : α → G β) : G.bind (G.pure a) f = f a := rfl
theorem G.ct {α : Type} (x y : G α) : G.cond true x y = x := rfl
theorem G.cf {α : Type} (x y : G α) : G.cond false x y = y := rfl
theorem G.lp {α : Type} (a : α) : G.lift (some a) = G.pure a := rfl

/-! what operations come to -/
def w64 (z : Int) : Int := IntKind.i64.wrap z
theorem w64_of {z : Int} (h1 : -9223372036854775808 ≤ z) (h2 : z ≤ 9223372036854775807) : w64 z = z := i64_wrap h1 h2
def idx {α : Type} (l : List α) (z : Int) : Option α := if 0 ≤ z then l[z.toNat]? else none
theorem idx_some {α : Type} {l : List α} {z : Int} {x : α} (h : idx l z = some x) : 0 ≤ z ∧ l[z.toNat]? = some x := by
  unfold idx at h; split at h
  · exact ⟨by assumption, h⟩
  · cases h
theorem idx_nat {α : Type} {l : List α} {k : Nat} {x : α} (h : l[k]? = some x) : idx l (k : Int) = some x := by unfold idx; simp [h]
end Go.Proofs.Ythcckhpogmlgjaa.L

/-
  Single steps of a walk over pure values, each by its own lemma: what the slots hold is told by equations. Nothing here names a function of the program.
-/
namespace Go.Proofs.Ythcckhpogmlgjaa.L
open Go Go.RowKit
set_option linter.unusedVariables false
set_option linter.unusedSimpArgs false

/-- told when c holds -/
def gv (c : Bool) (p : PV) : PV := match c with | true => p | false => .u undef
theorem gvp {c : Bool} {x p : PV} (hc : c = true) (h : x = gv c p) : x = p := by subst hc; exact h
theorem G.cond_pos {α : Type} {b : Bool} {x y : G α} {n : Nat} {r : α} (h : G.cond b x y n = some r) (hb : b = true) : x n = some r := by subst hb; exact h
theorem and_fst {a b : Bool} (h : (a && b) = true) : a = true := by cases a <;> simp_all
theorem and_snd {a b : Bool} (h : (a && b) = true) : b = true := by cases a <;> simp_all

section
variable {P : Program} {W : Env} {n : Nat} {H : PHeap} {F : PFrame} {ops : Array Oper} {o : Oper} {l : List Oper}

theorem dst_of {d : Nat} {op : Op} {ty : Nat} {pos : String} {af : Array Edge} {g : Option (Nat × Bool)} (h : d < n) : dstOk n ⟨some d, op, ty, pos, af, g⟩ := fun t ht => by cases ht; exact h

/-- a quiet operation -/
theorem PL.q {K : PFrame → PHeap → Prop} {p : PV} (hg : o.guard = none) (hd : dstOk n o) (hp : pstep P H F o = some p) (h : PL P W n ops l (F.put o.dst p) H K) : PL P W n ops (o :: l) F H K :=
  PL.cons (by unfold wantedP; rw [hg]) (PE.quiet hd (pstep_sound hp) h)
theorem QF.q {Q : PFrame → Prop} {p : PV} (hg : o.guard = none) (hd : dstOk n o) (hp : pstep P H F o = some p) (h : wpQF P W n ops H Q l (F.put o.dst p)) : wpQF P W n ops H Q (o :: l) F :=
  ⟨hd, .inl ⟨by unfold wantedP; rw [hg], p, pstep_sound hp, h⟩⟩
/-- the same for what else is known of a quiet operation -/
theorem PL.qq {K : PFrame → PHeap → Prop} {p : PV} (hg : o.guard = none) (hd : dstOk n o) (hp : PQ P W o F H p) (h : PL P W n ops l (F.put o.dst p) H K) : PL P W n ops (o :: l) F H K :=
  PL.cons (by unfold wantedP; rw [hg]) (PE.quiet hd hp h)
theorem QF.qq {Q : PFrame → Prop} {p : PV} (hg : o.guard = none) (hd : dstOk n o) (hp : PQ P W o F H p) (h : wpQF P W n ops H Q l (F.put o.dst p)) : wpQF P W n ops H Q (o :: l) F :=
  ⟨hd, .inl ⟨by unfold wantedP; rw [hg], p, hp, h⟩⟩
theorem wanted_gv {j d : Nat} {want : Bool} (hg : o.guard = some (j, want)) (hj : (ops[j]?).bind (·.dst) = some d) {c b : Bool} (hF : F d = gv c (.u (.bool b))) : wantedP ops o F = some (c && (b == want)) := by
  unfold wantedP; rw [hg]; simp only [hj, hF]
  cases c
  · rfl
  · rfl
/-- a guarded quiet operation -/
theorem PL.gq {K : PFrame → PHeap → Prop} {p : PV} {j d : Nat} {want c b c' : Bool} (hg : o.guard = some (j, want)) (hj : (ops[j]?).bind (·.dst) = some d) (hF : F d = gv c (.u (.bool b))) (hc : (c && (b == want)) = c') (hd : dstOk n o) (hp : c' = true → PQ P W o F H p) (h : PL P W n ops l (F.put o.dst (gv c' p)) H K) : PL P W n ops (o :: l) F H K := by
  have hw := wanted_gv (o := o) hg hj hF
  rw [hc] at hw
  cases c'
  · exact PL.skip hw hd h
  · exact PL.cons hw (PE.quiet hd (hp rfl) h)
theorem QF.gq {Q : PFrame → Prop} {p : PV} {j d : Nat} {want c b c' : Bool} (hg : o.guard = some (j, want)) (hj : (ops[j]?).bind (·.dst) = some d) (hF : F d = gv c (.u (.bool b))) (hc : (c && (b == want)) = c') (hd : dstOk n o) (hp : c' = true → PQ P W o F H p) (h : wpQF P W n ops H Q l (F.put o.dst (gv c' p))) : wpQF P W n ops H Q (o :: l) F := by
  have hw := wanted_gv (o := o) hg hj hF
  rw [hc] at hw
  cases c'
  · exact ⟨hd, .inr ⟨hw, h⟩⟩
  · exact ⟨hd, .inl ⟨hw, p, hp rfl, h⟩⟩
theorem gc_t (b : Bool) : (true && (b == true)) = b := by cases b <;> rfl
theorem gc_f (b : Bool) : (true && (b == false)) = !b := by cases b <;> rfl
theorem gc_ct (c b : Bool) : (c && (b == true)) = (c && b) := by cases b <;> rfl
theorem gc_cf (c b : Bool) : (c && (b == false)) = (c && !b) := by cases b <;> rfl
theorem PC.absF {c : Code} {Q : Exit → PFrame → PHeap → Prop} (M : PFrame → Prop) (h1 : M F) (h2 : ∀ F, M F → PC P W n c F H Q) : PC P W n c F H Q := h2 F h1
theorem PC.condTb {Q : Exit → PFrame → PHeap → Prop} {c : Operand} {x y : Code} {b : Bool} (hc : evP F c = .u (.bool b)) (hb : b = true) (h : PC P W n x F H Q) : PC P W n (.cond c x y) F H Q := PC.condT (by rw [hc, hb]) h
theorem PC.condFb {Q : Exit → PFrame → PHeap → Prop} {c : Operand} {x y : Code} {b : Bool} (hc : evP F c = .u (.bool b)) (hb : b = false) (h : PC P W n y F H Q) : PC P W n (.cond c x y) F H Q := PC.condF (by rw [hc, hb]) h

/-- no goto here: a scope and its labels say nothing -/
def noGotoP (Q : Exit → PFrame → PHeap → Prop) : Exit → PFrame → PHeap → Prop
  | .goto _, _, _ => False
  | e, F, H => Q e F H
theorem PC.scope {c : Code} {Q : Exit → PFrame → PHeap → Prop} (h : PC P W n c F H (noGotoP Q)) : PC P W n (.scope c) F H Q := fun V a w Q' hr hQ =>
  wp_scope_straight (h V a w _ hr fun e F' H' V' a' w' hq hr' => by
    cases e <;> first | exact hQ _ _ _ _ _ _ hq hr' | exact hq.elim)
theorem PC.label {i : Nat} {Q : Exit → PFrame → PHeap → Prop} (h : Q .normal F H) : PC P W n (.label i) F H Q := fun V a w Q' hr hQ => wp_label (hQ _ _ _ _ _ _ h hr)

/-! calls -/
theorem am0 : ([] : List Operand).map (evP F) = [] := rfl
theorem am {x : Operand} {xs : List Operand} {p : PV} {ps : List PV} (h : evP F x = p) (hs : xs.map (evP F) = ps) : (x :: xs).map (evP F) = p :: ps := by rw [List.map_cons, h, hs]
theorem nop0 : ∀ p ∈ ([] : List PV), NoP p := fun p h => by cases h
theorem nopc {p : PV} {ps : List PV} (h : NoP p) (hs : ∀ p ∈ ps, NoP p) : ∀ q ∈ p :: ps, NoP q := fun q hq => by
  rcases List.mem_cons.1 hq with e | hq
  · rw [e]; exact h
  · exact hs q hq
theorem ViewL.noPs {ps : List PV} (h : ∀ p ∈ ps, NoP p) : ViewL PHeap.empty ps ps := ⟨rfl, fun i p q h1 h2 => by
  rw [h1] at h2; cases h2
  exact View.noP (h p (List.mem_of_getElem? h1))⟩
/-- a call of a named function, all told without the heap -/
theorem callq {f : FuncId} {d : Option Nat} {args : Array Operand} {ts : Array TypeId} {ty : Nat} {pos : String} {af : Array Edge} {g : Option (Nat × Bool)} {qs : List PV} {p0 : PV} (hf : goBody P f = true) (ha : args.toList.map (evP F) = qs) (hn : ∀ p ∈ qs, NoP p) (hc : PCall P f qs (· = p0)) : PQ P W ⟨d, .call ⟨.value (.func f), args, ts⟩, ty, pos, af, g⟩ F H p0 :=
  PQ.callB rfl (by rw [target_func, ha]) hf (ViewL.noPs hn) hn hc
/-- a call of a function value -/
theorem callv {f : FuncId} {x : Operand} {A B : List PV} {d : Option Nat} {args : Array Operand} {ts : Array TypeId} {ty : Nat} {pos : String} {af : Array Edge} {g : Option (Nat × Bool)} {qs : List PV} {p0 : PV} (hx : evP F x = .fn (.func f) A B) (hf : goBody P f = true) (ha : args.toList.map (evP F) = qs) (hn : ∀ p ∈ A ++ qs ++ B, NoP p) (hc : PCall P f (A ++ qs ++ B) (· = p0)) : PQ P W ⟨d, .call ⟨.value x, args, ts⟩, ty, pos, af, g⟩ F H p0 :=
  PQ.callB rfl (by simp only [target, hx, ha]) hf (ViewL.noPs hn) hn hc
theorem resT1 {fn : Func} {s : Nat} {p : PV} (hr : fn.results = #[.tmp s]) (h : F s = p) : resP P fn F H = some p := by
  unfold resP; rw [hr]; simp [resP1, h]
theorem resTn {fn : Func} {ss : List Nat} {ps : List PV} (hr : fn.results = (ss.map .tmp).toArray) (h2 : 2 ≤ ss.length) (h : ss.map F = ps) : resP P fn F H = some (.tup ps) := by
  have hm : ∀ (l : List Nat), (l.map ResultVar.tmp).mapM (resP1 P H F) = some (l.map F) := by
    intro l
    induction l with
    | nil => rfl
    | cons x xs ih => rw [List.map_cons, List.mapM_cons, ih]; rfl
  have hl : fn.results.toList = ss.map .tmp := by rw [hr]
  unfold resP
  rw [hl]
  match ss, h2 with
  | a :: b :: r, _ =>
    rw [List.map_cons, List.map_cons]
    simp only
    rw [← List.map_cons, ← List.map_cons, hm, h]; rfl
end

/-! single operations -/
section
variable {P : Program} {H : PHeap} {F : PFrame} {d ty : Nat} {pos : String} {af : Array Edge} {g : Option (Nat × Bool)} {x y : Operand} {t t' : Nat} {k : IntKind} {a b : Int}

theorem st_mv {p : PV} (hx : evP F x = p) : pstep P H F ⟨some d, .move x, ty, pos, af, g⟩ = some p := congrArg some hx
theorem st_as {p : PV} (hx : evP F x = p) : pstep P H F ⟨some d, .assign x, ty, pos, af, g⟩ = some p := congrArg some hx
theorem st_and {c : Operand} {p q : Bool} (hc : evP F c = .u (.bool p)) (hx : evP F x = gv p (.u (.bool q))) (hy : evP F y = .u (.bool false)) : pstep P H F ⟨some d, .pick c x y, ty, pos, af, g⟩ = some (.u (.bool (p && q))) := by
  rw [pstep_pick, hc, hx, hy, pickP_b]
  cases p <;> rfl
theorem st_or {c : Operand} {p q : Bool} (hc : evP F c = .u (.bool p)) (hx : evP F x = .u (.bool true)) (hy : evP F y = gv (!p) (.u (.bool q))) : pstep P H F ⟨some d, .pick c x y, ty, pos, af, g⟩ = some (.u (.bool (p || q))) := by
  rw [pstep_pick, hc, hx, hy, pickP_b]
  cases p <;> rfl
/-- the same inside a guard -/
theorem st_andG {c : Operand} {w p q : Bool} (hw : w = true) (hc : evP F c = .u (.bool p)) (hx : evP F x = gv (w && p) (.u (.bool q))) (hy : evP F y = .u (.bool false)) : pstep P H F ⟨some d, .pick c x y, ty, pos, af, g⟩ = some (.u (.bool (p && q))) := by
  subst hw; exact st_and hc hx hy
theorem st_orG {c : Operand} {w p q : Bool} (hw : w = true) (hc : evP F c = .u (.bool p)) (hx : evP F x = .u (.bool true)) (hy : evP F y = gv (w && !p) (.u (.bool q))) : pstep P H F ⟨some d, .pick c x y, ty, pos, af, g⟩ = some (.u (.bool (p || q))) := by
  subst hw; exact st_or hc hx hy

/-- y is no nil -/
def plainY (P : Program) (t : Nat) : Operand → Bool
  | .const (.slice none 0 0) => false
  | .const (.pointer none) => false
  | _ => true
theorem binQ_plain {op : BinOp} (hy : plainY P t y = true) : binQ P H F op t x y = binP P op t x y (evP F x) (evP F y) := by
  unfold binQ
  split
  · simp [plainY] at hy
  · simp [plainY] at hy
  · rfl
theorem st_bin {op : BinOp} {p q r : PV} (hy : plainY P t y = true) (h1 : evP F x = p) (h2 : evP F y = q) (h : binP P op t x y p q = some r) : pstep P H F ⟨some d, .binOp op t x y t', ty, pos, af, g⟩ = some r := by
  rw [pstep_binOp, binQ_plain hy, h1, h2, h]
theorem b_addw : binP P .add t x y (.u (.int .i64 a)) (.u (.int .i64 b)) = some (.u (.int .i64 (w64 (a + b)))) := binP_addW
theorem b_subw : binP P .sub t x y (.u (.int .i64 a)) (.u (.int .i64 b)) = some (.u (.int .i64 (w64 (a - b)))) := binP_subW
theorem b_mulw : binP P .mul t x y (.u (.int .i64 a)) (.u (.int .i64 b)) = some (.u (.int .i64 (w64 (a * b)))) := binP_mulW
theorem b_eqB (p q : Bool) (ht : P.underlying t = some .bool) : binP P .eql t x y (.u (.bool p)) (.u (.bool q)) = some (.u (.bool (p == q))) := by
  have he : (Op.equal t (.bool p) (.bool q)).val P = some (p == q) := by
    unfold Op.equal Op.maxDepth Op.equalIn underlying
    simp only [val_bind, program, Sem.val, ht, Option.bind, val_pure]
  simp [binP, PV.val2, eqGuard, binOp, val_bind, val_pure, val_map, he, ofV]
theorem b_neB (p q : Bool) (ht : P.underlying t = some .bool) : binP P .neq t x y (.u (.bool p)) (.u (.bool q)) = some (.u (.bool (p != q))) := by
  have he : (Op.equal t (.bool p) (.bool q)).val P = some (p == q) := by
    unfold Op.equal Op.maxDepth Op.equalIn underlying
    simp only [val_bind, program, Sem.val, ht, Option.bind, val_pure]
  simp [binP, PV.val2, eqGuard, binOp, val_bind, val_pure, val_map, he, ofV, bne]
theorem st_not {p : Bool} (hx : evP F x = .u (.bool p)) : pstep P H F ⟨some d, .unOp .not t x, ty, pos, af, g⟩ = some (.u (.bool (!p))) := by rw [pstep_unOp, hx, unP_not]
theorem st_conv {kx : IntKind} (hs : (ikind P t).isSome = true) (hd : ikind P t' = some k) (hx : evP F x = .u (.int kx a)) : pstep P H F ⟨some d, .convert t t' x, ty, pos, af, g⟩ = some (.u (.int k (k.wrap a))) := by rw [pstep_convert, hx, convP_int hs hd]
theorem st_conv64 {kx : IntKind} (hs : (ikind P t).isSome = true) (hd : ikind P t' = some .i64) (hx : evP F x = .u (.int kx a)) : pstep P H F ⟨some d, .convert t t' x, ty, pos, af, g⟩ = some (.u (.int .i64 (w64 a))) := st_conv hs hd hx
theorem st_min {ts : Array Nat} (hx : evP F x = .u (.int k a)) (hy : evP F y = .u (.int k b)) : pstep P H F ⟨some d, .call { callee := .builtin .min, args := #[x, y], argTypes := ts }, ty, pos, af, g⟩ = some (.u (.int k (min a b))) := by
  rw [pstep_min, hx, hy]
  simp [bltP, PV.val2, Builtin.min_, Builtin.min2, val_pure, ofV]
  split <;> omega
theorem st_max {ts : Array Nat} (hx : evP F x = .u (.int k a)) (hy : evP F y = .u (.int k b)) : pstep P H F ⟨some d, .call { callee := .builtin .max, args := #[x, y], argTypes := ts }, ty, pos, af, g⟩ = some (.u (.int k (max a b))) := by
  rw [pstep_max, hx, hy]
  simp [bltP, PV.val2, Builtin.max_, Builtin.max2, val_pure, ofV]
  split <;> omega
theorem st_len {α : Type} {kk : Nat} {rep : α → PV} {xs : List α} (ht : isSlice P t = true) (hx : evP F x = .sl kk (xs.map rep)) : pstep P H F ⟨some d, .call { callee := .builtin .len, args := #[x], argTypes := #[t] }, ty, pos, af, g⟩ = some (.u (.int .i64 xs.length)) := by
  rw [pstep_len, hx, lenP_sl _ ht, List.length_map]
theorem st_lenS {s : ByteArray} (ht : isStr P t = true) (hx : evP F x = .u (.string s)) : pstep P H F ⟨some d, .call { callee := .builtin .len, args := #[x], argTypes := #[t] }, ty, pos, af, g⟩ = some (.u (.int .i64 s.size)) := by
  rw [pstep_len, hx, lenP_str _ ht]
theorem st_lenO {e kk id m : Nat} {q : PV} {cs : List PV} (ht : isSlice P t = true) (ho : OwnS H e kk id q m cs) (hx : evP F x = q) : pstep P H F ⟨some d, .call { callee := .builtin .len, args := #[x], argTypes := #[t] }, ty, pos, af, g⟩ = some (.u (.int .i64 m)) := by
  rw [pstep_len, hx, ho.len ht]
/-- an element of a slice that is only read -/
theorem st_idxA {α : Type} {kk : Nat} {rep : α → PV} {xs : List α} {kd : IntKind} {z : Int} {v : α} (he : esz P t = some kk) (hx : evP F x = .sl kk (xs.map rep)) (hy : evP F y = .u (.int kd z)) (hv : idx xs z = some v) : pstep P H F ⟨some d, .indexAddr t x y, ty, pos, af, g⟩ = some (.rp (rep v).cells) := by
  obtain ⟨h0, h1⟩ := idx_some hv
  rw [pstep_indexAddr, hx, hy, indexAddrP_sl he _ _ h0, List.getElem?_map, h1]; rfl
theorem st_ld1 {p : PV} {cs : List PV} (ht : asz P t = some (false, 1)) (hx : evP F x = .rp (p :: cs)) : pstep P H F ⟨some d, .load t x, ty, pos, af, g⟩ = some p := by
  rw [pstep_load, hx, loadAtP_rp, ht]; rfl
theorem st_ldA {kk : Nat} {cs : List PV} (ht : asz P t = some (true, kk)) (hx : evP F x = .rp cs) (hl : cs.length = kk) : pstep P H F ⟨some d, .load t x, ty, pos, af, g⟩ = some (.agg cs) := by
  rw [pstep_load, hx, loadAtP_rp, ht]
  show loadP true kk cs = _
  rw [loadP_true _ _ (by omega), List.take_of_length_le (by omega)]
/-- a box of the call's own -/
theorem st_ldB {id off v T kk : Nat} {ag : Bool} {cs : List PV} {p : PV} (ht : asz P t = some (ag, kk)) (hx : evP F x = .pp id off v) (hb : H id = ⟨v, some (.box T cs)⟩) (hp : loadP ag kk (cs.drop off) = some p) : pstep P H F ⟨some d, .load t x, ty, pos, af, g⟩ = some p := by
  rw [pstep_load, hx, loadAtP_pp, ht]
  show (liveCells H id v).elim none _ = _
  rw [liveCells_def, hb, lcP_box, if_pos rfl]; exact hp
theorem st_faB {id o off v T kk fi ft : Nat} {ag : Bool} {cs : List PV} (hf : fof P t fi = some (off, ft)) (ht : asz P ft = some (ag, kk)) (hk : kk ≠ 0) (hx : evP F x = .pp id o v) (hb : H id = ⟨v, some (.box T cs)⟩) : pstep P H F ⟨some d, .fieldAddr t x fi, ty, pos, af, g⟩ = some (.pp id (o + off) v) := by
  rw [pstep_fieldAddr, hx, fieldAddrP_pp, hf]
  show (asz P ft).elim none _ = _
  rw [ht]
  show (if kk = 0 then none else _) = _
  rw [if_neg hk, liveCells_def, hb, lcP_box, if_pos rfl]; rfl
theorem st_faR {off kk fi ft : Nat} {ag : Bool} {cs : List PV} (hf : fof P t fi = some (off, ft)) (ht : asz P ft = some (ag, kk)) (hk : kk ≠ 0) (hx : evP F x = .rp cs) : pstep P H F ⟨some d, .fieldAddr t x fi, ty, pos, af, g⟩ = some (.rp (cs.drop off)) := by
  rw [pstep_fieldAddr, hx, fieldAddrP_rp, hf]
  show (asz P ft).elim none _ = _
  rw [ht]
  show (if kk = 0 then none else _) = _
  rw [if_neg hk]
theorem st_fld {off kk fi ft : Nat} {ag : Bool} {cs : List PV} {p : PV} (hf : fof P t fi = some (off, ft)) (ht : asz P ft = some (ag, kk)) (hx : evP F x = .agg cs) (hp : loadP ag kk (cs.drop off) = some p) : pstep P H F ⟨some d, .field t x fi, ty, pos, af, g⟩ = some p := by
  rw [pstep_field, hx, fieldP_agg, hf]
  show partP P ft cs off = _
  rw [partP_s, ht]; exact hp
theorem st_idxS {s : ByteArray} {kd : IntKind} {z : Int} {c : UInt8} (ht : isStr P t = true) (hx : evP F x = .u (.string s)) (hy : evP F y = .u (.int kd z)) (h0 : 0 ≤ z) (hc : s[z.toNat]? = some c) : pstep P H F ⟨some d, .index t x y, ty, pos, af, g⟩ = some (.u (.int .u8 c.toNat)) := by
  rw [pstep_index, hx, hy, indexP_str ht _ _ h0, hc]; rfl
theorem st_ext {cs : List PV} {p : PV} {i : Nat} (hx : evP F x = .tup cs) (hp : cs[i]? = some p) : pstep P H F ⟨some d, .extract x i, ty, pos, af, g⟩ = some p := by
  rw [pstep_extract, hx]; exact hp
theorem st_nilB {id off v T : Nat} {cs : List PV} (hx : evP F x = .pp id off v) (hb : H id = ⟨v, some (.box T cs)⟩) : pstep P H F ⟨some d, .nilCheck x, ty, pos, af, g⟩ = some (.pp id off v) := by
  rw [pstep_nilCheck, hx, nilP_pp, liveCells_def, hb, lcP_box, if_pos rfl]; rfl
theorem st_nilR {cs : List PV} (hx : evP F x = .rp cs) : pstep P H F ⟨some d, .nilCheck x, ty, pos, af, g⟩ = some (.rp cs) := by rw [pstep_nilCheck, hx, nilP_rp]
theorem st_nilF {f : Nat} {A B : List PV} (hx : evP F x = .fn (.func f) A B) : pstep P H F ⟨some d, .nilCheck x, ty, pos, af, g⟩ = some (.fn (.func f) A B) := by rw [pstep_nilCheck, hx, nilP_fn]
theorem st_fun {f : Fn} {A B : Array Operand} {ps qs : List PV} (hA : A.toList.map (evP F) = ps) (hB : B.toList.map (evP F) = qs) : pstep P H F ⟨some d, .makeFunc f A B, ty, pos, af, g⟩ = some (.fn f ps qs) := by rw [pstep_makeFunc, hA, hB]
end
end Go.Proofs.Ythcckhpogmlgjaa.L

/-
  Rows of a call's own, arrays and places in them, as plain code changes them: single steps.
-/
namespace Go.Proofs.Ythcckhpogmlgjaa
open Go Go.RowKit L
set_option linter.unusedVariables false
set_option linter.unusedSimpArgs false

abbrev iK (k : IntKind) (z : Int) : PV := .u (.int k z)

/-! arrays -/
abbrev Arr (n : Nat) (α : Type) := {l : List α // l.length = n}
def arV {α : Type} {n : Nat} (rep : α → PV) (a : Arr n α) : PV := .agg (a.1.map rep)
def arZ {α : Type} (n : Nat) (z : α) : Arr n α := ⟨List.replicate n z, List.length_replicate ..⟩
theorem arV_noP {α : Type} {n : Nat} {rep : α → PV} (a : Arr n α) (h : ∀ x, NoP (rep x)) : NoP (arV rep a) := .agg _ fun c hc => by obtain ⟨z, _, rfl⟩ := List.mem_map.1 hc; exact h z
theorem arV_len {α : Type} {n : Nat} (rep : α → PV) (a : Arr n α) (h : ∀ x, (rep x).cells = [rep x]) : (arV rep a).cells.length = n := by simp [arV, PV.cells, a.2]
theorem arV_ok {α : Type} {n : Nat} (H : PHeap) (rep : α → PV) (a : Arr n α) (h : ∀ x, leafOk H (rep x) = true) : okC H (arV rep a) = true := by simp [arV, okC, h]
theorem nopa {ps qs : List PV} (hp : ∀ p ∈ ps, NoP p) (hq : ∀ p ∈ qs, NoP p) : ∀ p ∈ ps ++ qs, NoP p := fun p h => (List.mem_append.1 h).elim (hp p) (hq p)
theorem nop_cells {p : PV} (h : NoP p) : ∀ c ∈ p.cells, NoP c := fun c hc => h.cell hc
theorem lf1 {α : Type} {rep : α → PV} {H : PHeap} (h : ∀ x, (rep x).cells = [rep x]) (h2 : ∀ x, leafOk H (rep x) = true) : ∀ x, ∀ c ∈ (rep x).cells, leafOk H c = true := fun x c hc => by rw [h x] at hc; simp at hc; subst hc; exact h2 x
theorem lfa {α : Type} {rep : α → PV} {H : PHeap} (h : ∀ x, (rep x).cells.all (leafOk H) = true) : ∀ x, ∀ c ∈ (rep x).cells, leafOk H c = true := fun x c hc => List.all_eq_true.1 (h x) c hc

theorem arV_lf {α : Type} {n : Nat} (H : PHeap) (rep : α → PV) (a : Arr n α) (h : ∀ x, leafOk H (rep x) = true) : (arV rep a).cells.all (leafOk H) = true := by simp [arV, PV.cells, h]
theorem len_app {A L : List PV} {m k : Nat} (h : A.length = m) (h2 : L.length = k) : (PV.agg (A ++ L)).cells.length = m + k := by simp [PV.cells, h, h2]
theorem all_app {A L : List PV} {f : PV → Bool} (h : A.all f = true) (h2 : L.all f = true) : (PV.agg (A ++ L)).cells.all f = true := by simp only [PV.cells, List.all_append, h, h2]; rfl
theorem ld_l {A L : List PV} {m : Nat} (h : A.length = m) : loadP true m ((A ++ L).drop 0) = some (.agg A) := by
  simp [loadP, ← h]
theorem ld_all {A : List PV} {m : Nat} (h : A.length = m) : loadP true m (A.drop 0) = some (.agg A) := by
  simp [loadP, ← h]
theorem ld_r {A L : List PV} {m i : Nat} {ag : Bool} {k : Nat} {p : PV} (h : A.length = m) (hp : loadP ag k (L.drop i) = some p) : loadP ag k ((A ++ L).drop (m + i)) = some p := by
  subst h
  rw [List.drop_append, List.drop_of_length_le (by omega), List.nil_append]
  simpa using hp
theorem ldAll {cs : List PV} {k : Nat} (h : cs.length = k) : loadP true k (cs.drop 0) = some (.agg cs) := ld_all h

/-! what may stop short -/
def app {α : Type} (b : Nat) (xs ys : List α) : Option (List α) := if (xs.length + ys.length) * b ≤ 140737488355328 ∧ xs.length + ys.length ≤ maxLen then some (xs ++ ys) else none
theorem app_some {α : Type} {b : Nat} {xs ys zs : List α} (h : app b xs ys = some zs) : xs.length + ys.length ≤ maxLen ∧ (xs.length + ys.length) * b ≤ 140737488355328 ∧ zs = xs ++ ys := by
  unfold app at h; split at h
  · rename_i hc; cases h; exact ⟨hc.2, hc.1, rfl⟩
  · cases h
theorem app_of {α : Type} {b : Nat} {xs ys : List α} (h : (xs.length + ys.length) * b ≤ 140737488355328) (h2 : xs.length + ys.length ≤ 140737488355328) : app b xs ys = some (xs ++ ys) := by
  unfold app; rw [if_pos ⟨h, Nat.le_trans h2 (by decide)⟩]
def mkS {α : Type} (b : Nat) (z : α) (n : Int) : Option (List α) := if 0 ≤ n ∧ b * n.toNat ≤ 281474976710656 ∧ n.toNat ≤ maxLen then some (List.replicate n.toNat z) else none
theorem mkS_of {α : Type} {b n : Nat} {z : α} (h : b * n ≤ 281474976710656) (h2 : n ≤ 281474976710656) : mkS b z (n : Int) = some (List.replicate n z) := by
  unfold mkS; rw [if_pos ⟨by omega, by simpa using h, Nat.le_trans (by simpa using h2) (by decide)⟩]; simp
def slcL {α : Type} (xs : List α) (lo hi : Int) : Option (List α) := if 0 ≤ lo ∧ 0 ≤ hi ∧ lo.toNat ≤ hi.toNat ∧ hi.toNat ≤ xs.length then some ((xs.take hi.toNat).drop lo.toNat) else none
def slcS (s : ByteArray) (lo hi : Int) : Option ByteArray := if 0 ≤ lo ∧ 0 ≤ hi ∧ lo.toNat ≤ hi.toNat ∧ hi.toNat ≤ s.size then some (s.extract lo.toNat hi.toNat) else none
def sidx (s : ByteArray) (z : Int) : Option Int := if 0 ≤ z then (s[z.toNat]?).map fun c => (c.toNat : Int) else none
theorem sidx_some {s : ByteArray} {z x : Int} (h : sidx s z = some x) : 0 ≤ z ∧ ∃ c, s[z.toNat]? = some c ∧ x = (c.toNat : Int) := by
  unfold sidx at h; split at h
  · rename_i h0
    cases hc : s[z.toNat]? with
    | none => rw [hc] at h; cases h
    | some c => rw [hc] at h; cases h; exact ⟨h0, c, rfl, rfl⟩
  · cases h
def verOf : PV → Nat
  | .ps _ v => v
  | _ => 0

section
variable {P : Program} {W : Env} {n : Nat} {H : PHeap} {F : PFrame} {ops : Array Oper} {o : Oper} {l : List Oper} {K : PFrame → PHeap → Prop}
variable {d ty : Nat} {pos : String} {af : Array Edge} {g : Option (Nat × Bool)} {x y : Operand} {t t' : Nat}

/-! nil, told as an empty list that is only read -/
theorem PQ.nil {o : Oper} {k : Nat} (h : o.op = .move (.const (.slice none 0 0)) ∨ o.op = .assign (.const (.slice none 0 0))) : PQ P W o F H (.sl k []) :=
  PQ.of_run fun V a w hr hh => ⟨.slice none 0 0, by rcases h with h | h <;> simp [execOp, h] <;> rfl, .nil _ _ _⟩
theorem nil_mv {k : Nat} : PQ P W ⟨some d, .move (.const (.slice none 0 0)), ty, pos, af, g⟩ F H (.sl k []) := PQ.nil (.inl rfl)
theorem nil_as {k : Nat} : PQ P W ⟨some d, .assign (.const (.slice none 0 0)), ty, pos, af, g⟩ F H (.sl k []) := PQ.nil (.inr rfl)

/-- a variable that is only read afterwards -/
theorem PQ.boxR {o : Oper} {v : PV} (ho : o.op = .box t x) (hv : evP F x = v) (hok : okC H v = true) : PQ P W o F H (.rp v.cells) := fun V a w hr hx => by
  subst hv
  have hrv := Rp.eval (P := P) (F := F) (a := a) (Z := W.Z) (H := H) (V := V) (w := w) x fun t ht => hx t (by rw [ho, ht]; simp [Op.operands])
  obtain ⟨hR, h1⟩ := hrv.cells hr hok
  have hex : (execOp a.eval o).run P w = .ok (.value (.pointer (some ⟨w.heap.size, 0, none⟩))) (w.alloc (.cells (a.eval x).cells t)) := by
    simp only [execOp, ho]
    simp [Instr.box, newVar, newRow]
  have hb : Below w.heap.size w (w.alloc (.cells (a.eval x).cells t)) := (Below.refl _ _).alloc (Nat.le_refl _) _
  refine wp_value hex ⟨_, rfl, ?_, hb⟩
  have hlen := hR.1
  refine Rp.rp _ w.heap.size 0 (fun i => ((a.eval x).cells[i]?).getD undef) (fun hz => ?_) (by simp) (fun i p hi => ?_) (fun i p hi => ?_)
  · rcases hz with hz | ⟨id, h3, h4⟩
    · have := Env.z_lt hr _ hz; omega
    · have := (hr.own_lt h3 h4).2; omega
  · have hlt := (List.getElem?_eq_some_iff.1 hi).1
    have hia : i < (a.eval x).cells.size := by simpa [hlen] using hlt
    rw [Nat.zero_add]
    simp only [World.cell?]
    rw [heap_alloc_new]
    simp [hia]
  · have hlt := (List.getElem?_eq_some_iff.1 hi).1
    have hia : i < (a.eval x).cells.size := by simpa [hlen] using hlt
    have : ((a.eval x).cells[i]?).getD undef = (a.eval x).cells[i] := by simp [hia]
    rw [this]
    exact (hR.2 i p _ hi (by simp [hia])).grow hb
theorem box_r {v : PV} {T : Nat} (hv : evP F x = v) (hok : okC H v = true) : PQ P W ⟨some d, .box T x, ty, pos, af, g⟩ F H (.rp v.cells) := PQ.boxR rfl hv hok
/-- an element of an array that is only read -/
theorem st_idxR {α : Type} {m : Nat} {rep : α → PV} {a : Arr m α} {kd : IntKind} {z : Int} {v : α} (he : arr P t = some (m, 1)) (hx : evP F x = .rp (arV rep a).cells) (hy : evP F y = .u (.int kd z)) (hv : idx a.1 z = some v) : pstep P H F ⟨some d, .indexAddr t x y, ty, pos, af, g⟩ = some (.rp ((arV rep a).cells.drop (z.toNat * 1))) := by
  obtain ⟨h0, h1⟩ := idx_some hv
  obtain ⟨hlt, _⟩ := List.getElem?_eq_some_iff.1 h1
  rw [pstep_indexAddr, hx, hy, indexAddrP_rp _ _ h0, he]
  show (if z.toNat < m then _ else none) = _
  rw [if_pos (a.2 ▸ hlt)]
theorem ld_arr {α : Type} {m : Nat} {rep : α → PV} {a : Arr m α} {z : Int} {v : α} (hv : idx a.1 z = some v) : loadP false 1 ((arV rep a).cells.drop (z.toNat * 1)) = some (rep v) := by
  obtain ⟨h0, h1⟩ := idx_some hv
  simp [loadP, arV, PV.cells, h1]
theorem st_idxV {α : Type} {m e : Nat} {rep : α → PV} {a : Arr m α} {kd : IntKind} {z : Int} {v : α} (h1 : asz P e = some (false, 1)) (he : arr P t = some (m, 1)) (hae : aelem P t = some e) (hx : evP F x = arV rep a) (hy : evP F y = .u (.int kd z)) (hv : idx a.1 z = some v) : pstep P H F ⟨some d, .index t x y, ty, pos, af, g⟩ = some (rep v) := by
  have hl := ld_arr (rep := rep) hv
  obtain ⟨h0, h2⟩ := idx_some hv
  obtain ⟨hlt, _⟩ := List.getElem?_eq_some_iff.1 h2
  rw [pstep_index, hx, hy]
  unfold arV
  rw [indexP_agg _ _ h0, he]
  show (aelem P t).elim none _ = _
  rw [hae]
  show (if z.toNat < m then _ else none) = _
  rw [if_pos (a.2 ▸ hlt), partP_s, h1]
  exact hl
theorem st_idxS2 {s : ByteArray} {kd : IntKind} {z v : Int} (ht : isStr P t = true) (hx : evP F x = .u (.string s)) (hy : evP F y = .u (.int kd z)) (hv : sidx s z = some v) : pstep P H F ⟨some d, .index t x y, ty, pos, af, g⟩ = some (.u (.int .u8 v)) := by
  obtain ⟨h0, c, hc, rfl⟩ := sidx_some hv
  exact st_idxS ht hx hy h0 hc
theorem slcL_some {α : Type} {xs ys : List α} {lo hi : Int} (h : slcL xs lo hi = some ys) : (0 ≤ lo ∧ 0 ≤ hi ∧ lo.toNat ≤ hi.toNat ∧ hi.toNat ≤ xs.length) ∧ ys = (xs.take hi.toNat).drop lo.toNat := by
  unfold slcL at h; split at h
  · rename_i hc; cases h; exact ⟨hc, rfl⟩
  · cases h
theorem slcS_some {s u : ByteArray} {lo hi : Int} (h : slcS s lo hi = some u) : (0 ≤ lo ∧ 0 ≤ hi ∧ lo.toNat ≤ hi.toNat ∧ hi.toNat ≤ s.size) ∧ u = s.extract lo.toNat hi.toNat := by
  unfold slcS at h; split at h
  · rename_i hc; cases h; exact ⟨hc, rfl⟩
  · cases h
theorem st_slcL' {α : Type} {rep : α → PV} {kk : Nat} {xs ys : List α} {lo hi : Option Operand} {l h : Int} (he : esz P t = some kk) (hx : evP F x = .sl kk (xs.map rep)) (hl : (lo = none ∧ l = 0) ∨ ∃ q, lo = some q ∧ ∃ kd, evP F q = .u (.int kd l)) (hh : (hi = none ∧ h = xs.length) ∨ ∃ q, hi = some q ∧ ∃ kd, evP F q = .u (.int kd h)) (hs : slcL xs l h = some ys) : pstep P H F ⟨some d, .slice t x lo hi none, ty, pos, af, g⟩ = some (.sl kk (ys.map rep)) := by
  obtain ⟨⟨h0, h1, h2, h3⟩, rfl⟩ := slcL_some hs
  have bl : boundP 0 (lo.map (evP F)) = some l.toNat := by
    rcases hl with ⟨rfl, rfl⟩ | ⟨q, rfl, kd, e⟩
    · rfl
    · simp only [Option.map, e, boundP, h0, if_true]
  have bh : boundP (xs.map rep).length (hi.map (evP F)) = some h.toNat := by
    rcases hh with ⟨rfl, rfl⟩ | ⟨q, rfl, kd, e⟩
    · simp [boundP]
    · simp only [Option.map, e, boundP, h1, if_true]
  rw [pstep_slice, hx]
  simp only [sliceP, bl, bh]
  rw [if_pos ⟨he, h2, by simpa using h3⟩, List.map_drop, List.map_take]
theorem st_slcLL {α : Type} {rep : α → PV} {kk : Nat} {xs ys : List α} {q : Operand} {l : Int} {kd : IntKind} (he : esz P t = some kk) (hx : evP F x = .sl kk (xs.map rep)) (hl : evP F q = .u (.int kd l)) (hs : slcL xs l xs.length = some ys) : pstep P H F ⟨some d, .slice t x (some q) none none, ty, pos, af, g⟩ = some (.sl kk (ys.map rep)) := st_slcL' he hx (.inr ⟨q, rfl, kd, hl⟩) (.inl ⟨rfl, rfl⟩) hs
theorem st_slcLH {α : Type} {rep : α → PV} {kk : Nat} {xs ys : List α} {q : Operand} {h : Int} {kd : IntKind} (he : esz P t = some kk) (hx : evP F x = .sl kk (xs.map rep)) (hh : evP F q = .u (.int kd h)) (hs : slcL xs 0 h = some ys) : pstep P H F ⟨some d, .slice t x none (some q) none, ty, pos, af, g⟩ = some (.sl kk (ys.map rep)) := st_slcL' he hx (.inl ⟨rfl, rfl⟩) (.inr ⟨q, rfl, kd, hh⟩) hs
theorem st_slcLLH {α : Type} {rep : α → PV} {kk : Nat} {xs ys : List α} {q q2 : Operand} {l h : Int} {kd kd2 : IntKind} (he : esz P t = some kk) (hx : evP F x = .sl kk (xs.map rep)) (hl : evP F q = .u (.int kd l)) (hh : evP F q2 = .u (.int kd2 h)) (hs : slcL xs l h = some ys) : pstep P H F ⟨some d, .slice t x (some q) (some q2) none, ty, pos, af, g⟩ = some (.sl kk (ys.map rep)) := st_slcL' he hx (.inr ⟨q, rfl, kd, hl⟩) (.inr ⟨q2, rfl, kd2, hh⟩) hs
theorem st_slcS' {s u : ByteArray} {lo hi : Option Operand} {l h : Int} (he : isStr P t = true) (hx : evP F x = .u (.string s)) (hl : (lo = none ∧ l = 0) ∨ ∃ q, lo = some q ∧ ∃ kd, evP F q = .u (.int kd l)) (hh : (hi = none ∧ h = s.size) ∨ ∃ q, hi = some q ∧ ∃ kd, evP F q = .u (.int kd h)) (hs : slcS s l h = some u) : pstep P H F ⟨some d, .slice t x lo hi none, ty, pos, af, g⟩ = some (.u (.string u)) := by
  obtain ⟨⟨h0, h1, h2, h3⟩, rfl⟩ := slcS_some hs
  have bl : boundP 0 (lo.map (evP F)) = some l.toNat := by
    rcases hl with ⟨rfl, rfl⟩ | ⟨q, rfl, kd, e⟩
    · rfl
    · simp only [Option.map, e, boundP, h0, if_true]
  have bh : boundP s.size (hi.map (evP F)) = some h.toNat := by
    rcases hh with ⟨rfl, rfl⟩ | ⟨q, rfl, kd, e⟩
    · simp [boundP]
    · simp only [Option.map, e, boundP, h1, if_true]
  rw [pstep_slice, hx]
  simp only [sliceP, bl, bh]
  rw [if_pos ⟨he, h2, h3⟩]
theorem st_slcSL {s u : ByteArray} {q : Operand} {l : Int} {kd : IntKind} (he : isStr P t = true) (hx : evP F x = .u (.string s)) (hl : evP F q = .u (.int kd l)) (hs : slcS s l s.size = some u) : pstep P H F ⟨some d, .slice t x (some q) none none, ty, pos, af, g⟩ = some (.u (.string u)) := st_slcS' he hx (.inr ⟨q, rfl, kd, hl⟩) (.inl ⟨rfl, rfl⟩) hs
theorem st_slcSH {s u : ByteArray} {q : Operand} {h : Int} {kd : IntKind} (he : isStr P t = true) (hx : evP F x = .u (.string s)) (hh : evP F q = .u (.int kd h)) (hs : slcS s 0 h = some u) : pstep P H F ⟨some d, .slice t x none (some q) none, ty, pos, af, g⟩ = some (.u (.string u)) := st_slcS' he hx (.inl ⟨rfl, rfl⟩) (.inr ⟨q, rfl, kd, hh⟩) hs
theorem st_slcSLH {s u : ByteArray} {q q2 : Operand} {l h : Int} {kd kd2 : IntKind} (he : isStr P t = true) (hx : evP F x = .u (.string s)) (hl : evP F q = .u (.int kd l)) (hh : evP F q2 = .u (.int kd2 h)) (hs : slcS s l h = some u) : pstep P H F ⟨some d, .slice t x (some q) (some q2) none, ty, pos, af, g⟩ = some (.u (.string u)) := st_slcS' he hx (.inr ⟨q, rfl, kd, hl⟩) (.inr ⟨q2, rfl, kd2, hh⟩) hs

/-! literals -/
theorem bm0 : ([] : List (Nat × Operand)).map (fun x => (x.1, evP F x.2)) = [] := rfl
theorem bm {i : Nat} {x : Operand} {xs : List (Nat × Operand)} {p : PV} {ps : List (Nat × PV)} (h : evP F x = p) (hs : xs.map (fun x => (x.1, evP F x.2)) = ps) : ((i, x) :: xs).map (fun x => (x.1, evP F x.2)) = (i, p) :: ps := by rw [List.map_cons, hs]; simp only [h]
theorem rm {s : Nat} {ss : List Nat} {p : PV} {ps : List PV} (h : F s = p) (hs : ss.map F = ps) : (s :: ss).map F = p :: ps := by rw [List.map_cons, h, hs]
theorem st_bld {ps : Array (Nat × Operand)} {ips : List (Nat × PV)} {p : PV} (hp : ps.toList.map (fun x => (x.1, evP F x.2)) = ips) (h : buildP P H t ips = some p) : pstep P H F ⟨some d, .build t ps, ty, pos, af, g⟩ = some p := by rw [pstep_build, hp, h]
theorem lit_q {α : Type} {rep : α → PV} {xs : List α} {e k b len : Nat} {z : Value} {ps : Array (Nat × Operand)} {ips : List (Nat × PV)} (ht : selem P t = some (e, k, b, z)) (hz : z.cells.toList.all Value.oneCell' = true) (hbig : len * k ≤ 16777216) (hp : ps.toList.map (fun x => (x.1, evP F x.2)) = ips) (hlit : litOk H k len ips = true) (hc : ips.map (·.2) = xs.map rep) : PQ P W ⟨some d, .buildSlice t len ps, ty, pos, af, g⟩ F H (.sl k (xs.map rep)) := by
  subst hp
  have := PQ.buildSlice (W := W) (F := F) (H := H) (o := ⟨some d, .buildSlice t len ps, ty, pos, af, g⟩) rfl ht hz hbig hlit
  rw [List.map_map] at hc
  rw [← hc]
  exact this
/-- an own row made by a literal -/
theorem PL.litO {α : Type} {rep : α → PV} {xs : List α} {e k b len d : Nat} {z : Value} {parts : Array (Nat × Operand)} {ips : List (Nat × PV)} (id : Nat) (hg : o.guard = none) (ho : o.op = .buildSlice t len parts) (hd : o.dst = some d) (hdn : d < n) (ht : selem P t = some (e, k, b, z)) (hz : z.cells.toList.all Value.oneCell' = true) (hbig : len * k ≤ 16777216) (hp : (parts.toList.map fun x => (x.1, evP F x.2)) = ips) (hlit : litOk H k len ips = true) (hc : ips.map (·.2) = xs.map rep)
    (h : ∀ q H', ownL e k rep H' id q xs → (∀ j, j ≠ id → H' j = H j) → PL P W n ops l (F.put (some d) q) H' K) : PL P W n ops (o :: l) F H K := by
  have hl := hlit
  simp only [litOk, Bool.and_eq_true, decide_eq_true_eq] at hl
  have hlen : xs.length = len := by
    have h1 := congrArg List.length hl.1
    have h2 := congrArg List.length hc
    simp at h1 h2; omega
  have hk : ∀ p ∈ ips, p.2.cells.length = k := fun p hp => by
    have := List.all_eq_true.1 hl.2 p hp
    simp only [Bool.and_eq_true, decide_eq_true_eq] at this
    exact this.1
  have hfl : ((xs.map rep).flatMap PV.cells).length = len * k := by
    rw [← hc, L.flat_length (k := k) _ (fun y hy => by obtain ⟨p, hp, rfl⟩ := List.mem_map.1 hy; exact hk p hp)]
    rw [hc, List.length_map, hlen]
  refine PL.buildSliceA (cs := (xs.map rep).flatMap PV.cells) id hg ho hd hdn ht hz hbig (Nat.le_trans (Nat.le_of_eq hlen.symm) ?_) hp hlit (by rw [hc]) fun ver H' b1 o1 => h _ H' ?_ o1
  · by_cases hk0 : k = 0
    · obtain ⟨_, _, _, _, _, _, _, hpos⟩ := selem_spec ht
      omega
    · have : len ≤ len * k := Nat.le_mul_of_pos_right _ (by omega)
      rw [hlen]
      exact Nat.le_trans (Nat.le_trans this hbig) (by decide)
  · have h1 := OwnS.row (k := k) b1 hfl
    unfold ownL
    rw [hlen]; exact h1

/-! rows of the call's own -/
theorem ownL.at {α : Type} {e k id : Nat} {rep : α → PV} {q : PV} {xs : List α} {z : Int} {v : α} (h : ownL e k rep H id q xs) (hv : idx xs z = some v) : q = .ps id (verOf q) ∧ H id = ⟨verOf q, some (.row e k xs.length ((xs.map rep).flatMap PV.cells))⟩ := by
  obtain ⟨h0, h1⟩ := idx_some hv
  obtain ⟨hlt, _⟩ := List.getElem?_eq_some_iff.1 h1
  obtain ⟨ver, rfl, hH⟩ := OwnS.pos h (by omega)
  exact ⟨rfl, hH⟩
theorem st_ldRp {cs : List PV} {ag : Bool} {kk : Nat} {p : PV} (ht : asz P t = some (ag, kk)) (hx : evP F x = .rp cs) (hp : loadP ag kk cs = some p) : pstep P H F ⟨some d, .load t x, ty, pos, af, g⟩ = some p := by
  rw [pstep_load, hx, loadAtP_rp, ht]; exact hp
theorem st_idxO {α : Type} {e kk id : Nat} {rep : α → PV} {q : PV} {xs : List α} {kd : IntKind} {z : Int} {v : α} (he : esz P t = some kk) (ho : ownL e kk rep H id q xs) (hx : evP F x = q) (hy : evP F y = .u (.int kd z)) (hv : idx xs z = some v) : pstep P H F ⟨some d, .indexAddr t x y, ty, pos, af, g⟩ = some (.pp id (z.toNat * kk) (verOf q)) := by
  obtain ⟨hq, hH⟩ := ho.at hv
  obtain ⟨h0, h1⟩ := idx_some hv
  obtain ⟨hlt, _⟩ := List.getElem?_eq_some_iff.1 h1
  rw [pstep_indexAddr, hx, hy]
  generalize hw : verOf q = w at *
  rw [hq, indexAddrP_ps _ _ h0, liveRow_def, hH, lrP_row, if_pos rfl]
  show (if esz P t = some kk ∧ z.toNat < xs.length then _ else none) = _
  rw [if_pos ⟨he, hlt⟩]
theorem flat1 {α : Type} {rep : α → PV} (h : ∀ x, (rep x).cells = [rep x]) (xs : List α) : (xs.map rep).flatMap PV.cells = xs.map rep := cells1 h xs
theorem st_ldO {α : Type} {e id : Nat} {rep : α → PV} {q : PV} {xs : List α} {z : Int} {v : α} (ht : asz P t = some (false, 1)) (hx : evP F x = .pp id (z.toNat * 1) (verOf q)) (ho : ownL e 1 rep H id q xs) (hv : idx xs z = some v) (h1 : ∀ x, (rep x).cells = [rep x] := by exact fun _ => rfl) : pstep P H F ⟨some d, .load t x, ty, pos, af, g⟩ = some (rep v) := by
  obtain ⟨hq, hH⟩ := ho.at hv
  obtain ⟨h0, hz⟩ := idx_some hv
  rw [pstep_load, hx, loadAtP_pp, ht]
  show (liveCells H id (verOf q)).elim none _ = _
  rw [liveCells_def, hH, lcP_row, if_pos rfl]
  show loadP false 1 _ = _
  rw [loadP_false, flat1 h1, List.getElem?_drop, List.getElem?_map]
  simp [hz]
theorem PL.stO {α : Type} {e id : Nat} {rep : α → PV} {q : PV} {xs : List α} {z : Int} {u v : α} (hg : o.guard = none) (ho : o.op = .store t x y) (hd : dstOk n o) (hx : evP F x = .pp id (z.toNat * 1) (verOf q)) (hr : ownL e 1 rep H id q xs) (ht : asz P t = some (false, 1)) (hv : idx xs z = some u) (hy : evP F y = rep v) (hk : ∀ x, (rep x).cells = [rep x])
    (h : ∀ H', ownL e 1 rep H' id q (xs.set z.toNat v) → (∀ j, j ≠ id → H' j = H j) → PL P W n ops l (F.put o.dst (.u undef)) H' K) (hok : okC H (rep v) = true := by rfl) : PL P W n ops (o :: l) F H K := by
  obtain ⟨hq, hH⟩ := hr.at hv
  obtain ⟨h0, hz⟩ := idx_some hv
  obtain ⟨hlt, _⟩ := List.getElem?_eq_some_iff.1 hz
  refine PL.storeR (cs' := (xs.set z.toNat v).map rep) hg ho hd hx hH ht hy hok (hk v) rfl (by rw [flat1 hk]; simp; omega) ?_ fun H' b1 o1 => h H' ?_ o1
  · rw [flat1 hk, Nat.mul_one]
    simp only [setMany, List.length_singleton]
    apply List.ext_getElem?
    intro i
    have := setMany_get (xs.map rep) [rep v] z.toNat (by simp; omega) i
    unfold setMany at this
    simp only [List.length_singleton] at this
    rw [this, List.getElem?_map (f := rep) (l := xs.set z.toNat v), List.getElem?_set]
    by_cases e : z.toNat = i
    · subst e; simp [hlt]
    · rw [if_neg (by omega), if_neg e, List.getElem?_map]
  · unfold ownL
    have := OwnS.row (k := 1) b1 (by simp)
    rw [flat1 hk, List.length_set]
    rw [hq]
    exact this
theorem PL.appG {α : Type} {rep : α → PV} {e k b d id : Nat} {z : Value} {q : PV} {xs ys zs : List α} (hg : o.guard = none) (ho : o.op = .call { callee := .builtin .append, args := #[x, y], argTypes := #[t, t] }) (hd : o.dst = some d) (hdn : d < n) (ht : selem P t = some (e, k, b, z))
    (hs : evP F x = q) (hr : ownL e k rep H id q xs) (hp : evP F y = .sl k (ys.map rep)) (hk : ∀ x, (rep x).cells.length = k) (hleaf : ∀ x, ∀ c ∈ (rep x).cells, leafOk H c = true) (hz : app b xs ys = some zs)
    (h : ∀ q' H', ownL e k rep H' id q' zs → (∀ j, j ≠ id → H' j = H j) → PL P W n ops l (F.put (some d) q') H' K) : PL P W n ops (o :: l) F H K := by
  obtain ⟨h1, h2, rfl⟩ := app_some hz
  exact PL.appendL hg ho hd hdn ht hs hr hp hk hleaf h1 h2 h
theorem rep_flat {α : Type} {rep : α → PV} (hk : ∀ x, (rep x).cells = [rep x]) (m : Nat) (z : α) : ((List.replicate m z).map rep).flatMap PV.cells = List.replicate m (rep z) := by rw [flat1 hk, List.map_replicate]
theorem PL.mkS {α : Type} {rep : α → PV} {e b d : Nat} {zv : Value} {z : α} {xs : List α} {k : IntKind} {m : Int} (id : Nat) (hg : o.guard = none) (ho : o.op = .makeSlice t x x) (hd : o.dst = some d) (hdn : d < n) (ht : selem P t = some (e, 1, b, zv)) (h1z : zv.oneCell' = true) (hrep : rep z = .u zv) (hx : evP F x = .u (.int k m)) (hz : mkS b z m = some xs)
    (h : ∀ q' H', ownL e 1 rep H' id q' xs → (∀ j, j ≠ id → H' j = H j) → PL P W n ops l (F.put (some d) q') H' K) (hk : ∀ x, (rep x).cells = [rep x] := by exact fun _ => rfl) : PL P W n ops (o :: l) F H K := by
  unfold Proofs.Ythcckhpogmlgjaa.mkS at hz
  split at hz
  · rename_i hc
    cases hz
    have hm : m = ((m.toNat : Nat) : Int) := by omega
    rw [hm] at hx
    refine PL.makeSliceA id hg ho hd hdn ht h1z hx hx hc.2.2 hc.2.1 fun ver H' b1 o1 => h _ H' ?_ o1
    unfold ownL
    rw [rep_flat hk, hrep, List.length_replicate]
    exact OwnS.row (k := 1) b1 (by simp)
  · cases hz
end
end Go.Proofs.Ythcckhpogmlgjaa

/-
  A queue: an own row, taken from an element on, and appended to.
-/
namespace Go.Proofs.Ythcckhpogmlgjaa
open Go Go.RowKit L
set_option linter.unusedVariables false
set_option linter.unusedSimpArgs false
section
variable {P : Program} {W : Env} {n : Nat} {H : PHeap} {F : PFrame} {ops : Array Oper} {o : Oper} {l : List Oper} {K : PFrame → PHeap → Prop}
variable {d ty : Nat} {pos : String} {af : Array Edge} {g : Option (Nat × Bool)} {x y : Operand} {t t' : Nat}

/-- xs, behind what was there -/
def ownQ' {α : Type} (e k : Nat) (rep : α → PV) (H : PHeap) (id : Nat) (q : PV) (xs : List α) : Prop :=
  ∃ off ver pre, q = .qs id off k ver ∧ pre.length = off ∧ H id = ⟨ver, some (.row e k (off + xs.length) (((pre ++ xs).map rep).flatMap PV.cells))⟩
theorem ownQ'.mono {α : Type} {e k id : Nat} {rep : α → PV} {H' : PHeap} {q : PV} {xs : List α} (h : ownQ' e k rep H id q xs) (he : H' id = H id) : ownQ' e k rep H' id q xs := by
  obtain ⟨off, ver, pre, h1, h2, h3⟩ := h
  exact ⟨off, ver, pre, h1, h2, he.trans h3⟩

theorem HRel.q_shape {V : Nat → Value} {w : World} (hr : HRel P W H V w) {id ver e k m : Nat} {cs : List PV} (hH : H id = ⟨ver, some (.row e k m cs)⟩) :
    (m = 0 ∧ V id = .slice none 0 0) ∨ ∃ b cap cur, V id = .slice (some ⟨b, 0, none⟩) m cap ∧ W.w.heap.size ≤ b ∧ w.heap[b]? = some (.cells cur e (0, 0)) ∧ m ≤ cap ∧ cap ≤ maxLen ∧ cur.size = cap * k := by
  obtain ⟨vals, ho, _⟩ := hr.row id e k m cs (by rw [hH])
  rcases ho.2 with ⟨e1, h0⟩ | ⟨b, cap, cur, e1, h1, h2, h3, h4, h5, _⟩
  · exact .inl ⟨h0, e1⟩
  · exact .inr ⟨b, cap, cur, e1, h1, h2, h3, h4, h5⟩

/-- 's[z:]', s an own row that is not empty -/
theorem PQ.sliceFrom {lo : Operand} {id ver e k m : Nat} {kd : IntKind} {z : Int} {cs : List PV} {o : Oper} (ho : o.op = .slice t x (some lo) none none) (ht : esz P t = some k) (hx : evP F x = .ps id ver) (hH : H id = ⟨ver, some (.row e k m cs)⟩) (hy : evP F lo = .u (.int kd z)) (h0 : 0 ≤ z) (hz : z.toNat ≤ m) : PQ P W o F H (.qs id z.toNat k ver) :=
  PQ.of_run fun V a w hr hh => by
    obtain ⟨e', ti, hu, hti, rfl⟩ := esz_spec ht
    have hxv := hh x (by rw [ho]; simp [Op.operands])
    have hyv := hh lo (by rw [ho]; simp [Op.operands])
    rw [hx] at hxv
    rw [hy] at hyv
    have e1 : a.eval x = V id := by
      generalize a.eval x = q at hxv
      cases hxv with
      | ps _ _ _ hvv hq => exact hq (by rw [hH]; rfl) (by rw [hH])
    have e2 : a.eval lo = .int kd z := by generalize a.eval lo = q at hyv; cases hyv; rfl
    rcases HRel.q_shape hr hH with ⟨rfl, hV⟩ | ⟨b, cap, cur, hV, _, _, hc, _, _⟩
    · have hz0 : z.toNat = 0 := by omega
      have hbd := run_sliceBounds (P := P) (w := w) (isS := true) (len := 0) (cap := 0) (l := 0) (h := 0) (lo := some (.int kd z)) (hi := none) (.inr ⟨kd, z, rfl, h0, hz0⟩) (.inl ⟨rfl, rfl⟩) (Nat.le_refl _) (Nat.le_refl _)
      refine ⟨.slice none 0 0, ?_, ?_⟩
      · simp only [execOp, ho]
        simp [e1, e2, hV, Instr.sliceAt, Instr.slice, run_underlying hu, hbd, sizeOf, typeInfo, hti]
      · rw [hz0]
        exact .qs id 0 _ ver _ (by rw [hH]; exact Nat.le_refl _) fun _ _ => ⟨none, 0, 0, none, hV, rfl, Nat.le_refl _, Nat.le_refl _, .inl ⟨rfl, rfl⟩⟩
    · have hbd := run_sliceBounds (P := P) (w := w) (isS := true) (len := m) (cap := cap) (l := z.toNat) (h := m) (lo := some (.int kd z)) (hi := none) (.inr ⟨kd, z, rfl, h0, rfl⟩) (.inl ⟨rfl, rfl⟩) hz hc
      by_cases hcz : cap = z.toNat
      · refine ⟨.slice (some ⟨b, 0, none⟩) (m - z.toNat) (cap - z.toNat), ?_, ?_⟩
        · simp only [execOp, ho]
          simp [e1, e2, hV, Instr.sliceAt, Instr.slice, run_underlying hu, hbd, sizeOf, typeInfo, hti]
          simp [hcz]
        · exact .qs id _ _ ver _ (by rw [hH]; exact Nat.le_refl _) fun _ _ => ⟨_, m, cap, _, hV, rfl, hz, hc, .inr ⟨b, 0, rfl, rfl, .inr hcz⟩⟩
      · refine ⟨.slice (some ⟨b, z.toNat * ti.size, none⟩) (m - z.toNat) (cap - z.toNat), ?_, ?_⟩
        · simp only [execOp, ho]
          simp [e1, e2, hV, Instr.sliceAt, Instr.slice, run_underlying hu, hbd, sizeOf, typeInfo, hti, hcz, addr_add]
        · exact .qs id _ _ ver _ (by rw [hH]; exact Nat.le_refl _) fun _ _ => ⟨_, m, cap, _, hV, rfl, hz, hc, .inr ⟨b, _, rfl, rfl, .inl rfl⟩⟩
/-- 's[z:]', s a queue -/
theorem PQ.sliceFromQ {lo : Operand} {id off ver e k m : Nat} {kd : IntKind} {z : Int} {cs : List PV} {o : Oper} (ho : o.op = .slice t x (some lo) none none) (ht : esz P t = some k) (hx : evP F x = .qs id off k ver) (hH : H id = ⟨ver, some (.row e k m cs)⟩) (hy : evP F lo = .u (.int kd z)) (h0 : 0 ≤ z) (hz : off + z.toNat ≤ m) : PQ P W o F H (.qs id (off + z.toNat) k ver) :=
  PQ.of_run fun V a w hr hh => by
    obtain ⟨e', ti, hu, hti, rfl⟩ := esz_spec ht
    have hxv := hh x (by rw [ho]; simp [Op.operands])
    have hyv := hh lo (by rw [ho]; simp [Op.operands])
    rw [hx] at hxv
    rw [hy] at hyv
    have e1 : dropR off ti.size (V id) (a.eval x) := by
      generalize a.eval x = q at hxv
      cases hxv with
      | qs _ _ _ _ _ hvv hq => exact hq (by rw [hH]; rfl) (by rw [hH])
    have e2 : a.eval lo = .int kd z := by generalize a.eval lo = q at hyv; cases hyv; rfl
    obtain ⟨ad, mm, cap, ad', hV, hx1, hoff, hmc, hcase⟩ := e1
    have hmm : mm = m := by
      rcases HRel.q_shape hr hH with ⟨rfl, hV2⟩ | ⟨b, cap2, cur, hV2, _⟩ <;> rw [hV] at hV2 <;> cases hV2 <;> rfl
    subst hmm
    have hbd := run_sliceBounds (P := P) (w := w) (isS := true) (len := mm - off) (cap := cap - off) (l := z.toNat) (h := mm - off) (lo := some (.int kd z)) (hi := none) (.inr ⟨kd, z, rfl, h0, rfl⟩) (.inl ⟨rfl, rfl⟩) (by omega) (by omega)
    refine ⟨.slice (if cap - off = z.toNat then ad' else ad'.map (·.add (z.toNat * ti.size))) (mm - off - z.toNat) (cap - off - z.toNat), ?_, ?_⟩
    · simp only [execOp, ho]
      simp [hx1, e2, Instr.sliceAt, Instr.slice, run_underlying hu, hbd, sizeOf, typeInfo, hti]
    · refine .qs id _ _ ver _ (by rw [hH]; exact Nat.le_refl _) fun _ _ => ⟨ad, mm, cap, _, hV, by rw [show mm - off - z.toNat = mm - (off + z.toNat) by omega, show cap - off - z.toNat = cap - (off + z.toNat) by omega], hz, hmc, ?_⟩
      rcases hcase with ⟨r1, r2⟩ | ⟨b, oo, r1, r2, r3⟩
      · left; subst r2; refine ⟨r1, ?_⟩; split <;> rfl
      · right
        subst r2
        by_cases hc : cap - off = z.toNat
        · exact ⟨b, oo, r1, by rw [if_pos hc], .inr (by omega)⟩
        · refine ⟨b, oo + z.toNat * ti.size, r1, by rw [if_neg hc]; simp [addr_add], ?_⟩
          rcases r3 with r3 | r3
          · left; rw [r3, Nat.add_mul]
          · right; omega
theorem st_lenQ' {α : Type} {e kk id : Nat} {rep : α → PV} {q : PV} {xs : List α} (ht : isSlice P t = true) (ho : ownQ' e kk rep H id q xs) (hx : evP F x = q) : PQ P W ⟨some d, .call { callee := .builtin .len, args := #[x], argTypes := #[t] }, ty, pos, af, g⟩ F H (.u (.int .i64 xs.length)) :=
  PQ.of_run fun V a w hr hh => by
    obtain ⟨off, ver, pre, hq, hp, hH⟩ := ho
    have hxv := hh x (by simp [Op.operands, Call.operands])
    rw [hx, hq] at hxv
    have e1 : dropR off kk (V id) (a.eval x) := by
      generalize a.eval x = q at hxv
      cases hxv with
      | qs _ _ _ _ _ hvv hq => exact hq (by rw [hH]; rfl) (by rw [hH])
    obtain ⟨ad, mm, cap, ad', hV, hx1, hoff, hmc, hcase⟩ := e1
    have hmm : mm = off + xs.length := by
      rcases HRel.q_shape hr hH with ⟨h0, hV2⟩ | ⟨b, cap2, cur, hV2, _⟩ <;> rw [hV] at hV2 <;> cases hV2
      · exact h0.symm
      · rfl
    refine ⟨.int .i64 xs.length, ?_, .u _⟩
    have := L.run_len_slice (P := P) ht ty ad' (mm - off) (cap - off) w
    rw [show mm - off = xs.length by omega] at this
    simp only [execOp, resolve, invoke, builtin, Sem.run_bind, Sem.run_pure, Result.andThen_ok, List.map_toArray, List.map_cons, List.map_nil, hx1, show mm - off = xs.length by omega, this]
/-- a place in a queue -/
theorem st_idxQ' {α : Type} {e kk id : Nat} {rep : α → PV} {q : PV} {xs : List α} {kd : IntKind} {z : Int} {v : α} (he : esz P t = some kk) (ho : ownQ' e kk rep H id q xs) (hx : evP F x = q) (hy : evP F y = .u (.int kd z)) (hv : idx xs z = some v) (hk : ∀ x, (rep x).cells.length = kk) :
    ∃ off ver, PQ P W ⟨some d, .indexAddr t x y, ty, pos, af, g⟩ F H (.pp id off ver) ∧ liveCells H id ver = some ((H id).body.elim [] fun b => match b with | .row _ _ _ cs => cs | .box _ cs => cs) ∧ ∀ j, j < kk → (((H id).body.elim [] fun b => match b with | .row _ _ _ cs => cs | .box _ cs => cs).drop off)[j]? = (rep v).cells[j]? := by
  obtain ⟨off, ver, pre, hq, hp, hH⟩ := ho
  obtain ⟨h0, h1⟩ := idx_some hv
  obtain ⟨hlt, hge⟩ := List.getElem?_eq_some_iff.1 h1
  refine ⟨(off + z.toNat) * kk, ver, ?_, ?_, ?_⟩
  · exact PQ.of_run fun V a w hr hh => by
      obtain ⟨e', ti, hu, hti, rfl⟩ := esz_spec he
      have hxv := hh x (by simp [Op.operands])
      have hyv := hh y (by simp [Op.operands])
      rw [hx, hq] at hxv
      rw [hy] at hyv
      have e1 : dropR off ti.size (V id) (a.eval x) := by
        generalize a.eval x = q at hxv
        cases hxv with
        | qs _ _ _ _ _ hvv hq => exact hq (by rw [hH]; rfl) (by rw [hH])
      have e2 : a.eval y = .int kd z := by generalize a.eval y = q at hyv; cases hyv; rfl
      obtain ⟨ad, mm, cap, ad', hV, hx1, hoff, hmc, hcase⟩ := e1
      rcases HRel.q_shape hr hH with ⟨h0, hV2⟩ | ⟨b, cap2, cur, hV2, _⟩
      · omega
      · rw [hV] at hV2
        cases hV2
        rcases hcase with ⟨r1, _⟩ | ⟨b', oo, r1, r2, r3⟩
        · cases r1
        · cases r1
          subst r2
          have hoo : oo = off * ti.size := by rcases r3 with r3 | r3; exact r3; omega
          have := L.run_indexAt_slice (P := P) hu hti w b oo (off + xs.length - off) (cap - off) kd z h0 (by omega)
          refine ⟨.pointer (some ⟨b, oo + z.toNat * ti.size, none⟩), by simp only [execOp]; rw [hx1, e2]; simp only [Nat.add_sub_cancel_left] at this ⊢; simp [this], ?_⟩
          rw [hoo, ← Nat.add_mul]
          exact .pp id _ ver _ (by rw [hH]; exact Nat.le_refl _) fun _ _ => ⟨b, by rw [hV]; rfl, rfl⟩
  · rw [liveCells_def, hH, lcP_row, if_pos rfl]; rfl
  · intro j hj
    rw [hH]
    show ((((pre ++ xs).map rep).flatMap PV.cells).drop ((off + z.toNat) * kk))[j]? = _
    rw [List.getElem?_drop]
    have hfa := flat_at (k := kk) (xs := (pre ++ xs).map rep) (fun y hy => by obtain ⟨u, _, rfl⟩ := List.mem_map.1 hy; exact hk u) (off + z.toNat) j (rep v) (by rw [List.getElem?_map, ← hp, List.getElem?_append_right (by omega)]; simp [h1]) hj
    exact hfa

theorem room_off {w : World} {t ty e : TypeId} {i : TypeInfo} (ht : P.underlying t = some (.slice e)) (hi : P.info? e = some i)
    {g off m cap : Nat} {cur : Array Value} (hg : w.heap[g]? = some (.cells cur e (0, 0))) (hoff : off ≤ m)
    {a : Addr} {m2 c : Nat} {news : List Value} (hl : news.length = m2 * i.size) (hnews : ∀ j u, news[j]? = some u → w.cell? (a.add j) = some u) (h1 : ∀ u ∈ news, u.oneCell' = true)
    (hroom : m + m2 ≤ cap) (hfit : m * i.size + news.length ≤ cur.size) :
    (Builtin.append_ #[t, t] ty #[.slice (some ⟨g, off * i.size, none⟩) (m - off) (cap - off), .slice (some a) m2 c]).run P w =
      .ok (.slice (some ⟨g, off * i.size, none⟩) (m - off + m2) (cap - off)) (w.setRow g (cur.toList.take (m * i.size) ++ news ++ cur.toList.drop (m * i.size + news.length)).toArray) := by
  have hf := run_firstCells_some (P := P) w i.size m2 a m2 c news hl hnews
  have hst := run_storeCells_at P g (m * i.size) e news 0 cur w hg (by simpa using hfit) h1
  simp only [Nat.add_zero] at hst
  have hadd : off * i.size + (m - off) * i.size = m * i.size := by rw [← Nat.add_mul]; congr 1; omega
  have hroom' : m - off + m2 ≤ cap - off := by omega
  simp [Builtin.append_, run_underlying ht, sizeOf, typeInfo, hi, Builtin.lenOf, hroom', hf, addr_add, hadd, hst]
theorem grown_own {w : World} {base : Nat} {e : TypeId} {i : TypeInfo} {z : Value} (hzs : z.cells.size = i.size) {n m old : Nat} (ho : old < n + m) {xs news : List Value} (hxs : xs.length = n * i.size) (hl : news.length = m * i.size) (h63 : n + m ≤ maxLen) (hbase : base ≤ w.heap.size) (row : Option Nat) :
    (w.drew.alloc (.cells (xs.toArray ++ news.toArray ++ Builtin.zeroCells z.cells (grownCap w (n + m) old e - (n + m))) e)).ownsRow base e i.size
        (.slice (some ⟨w.heap.size, 0, none⟩) (n + m) (grownCap w (n + m) old e)) (n + m) (xs ++ news) ∧
      w.grownBy (w.drew.alloc (.cells (xs.toArray ++ news.toArray ++ Builtin.zeroCells z.cells (grownCap w (n + m) old e - (n + m))) e)) row := by
  have hge := grownCap_ge w (n + m) old e
  have hcm : grownCap w (n + m) old e ≤ maxLen := grownCap_le_maxLen w (n + m) old e h63
  have hlen : (xs ++ news).length = (n + m) * i.size := by rw [List.length_append, hxs, hl, Nat.add_mul]
  refine ⟨⟨hlen, .inr ⟨w.heap.size, _, _, rfl, hbase, heap_alloc_new w.drew _, hge, hcm, ?_, ?_⟩⟩, ⟨rfl, rfl, rfl, by simp, fun k hk _ => heap_alloc_old w.drew _ hk⟩⟩
  · simp only [Array.size_append, List.size_toArray, size_zeroCells, hzs, hxs, hl, ← Nat.add_mul]
    congr 1
    omega
  · simp only [Array.toList_append, List.append_assoc]
    rw [← List.append_assoc, ← hlen]
    exact List.take_left

/-- 'append' to a queue: there is room, or a new row of what is left -/
theorem PE.appendQ {s x : Operand} {t e : TypeId} {k b d id off ver m m2 : Nat} {z : Value} {cs cs2 : List PV} {K : PV → PHeap → Prop} (ho : o.op = .call { callee := .builtin .append, args := #[s, x], argTypes := #[t, t] }) (hd : o.dst = some d) (hdn : d < n) (ht : selem P t = some (e, k, b, z))
    (hs : evP F s = .qs id off k ver) (hH : H id = ⟨ver, some (.row e k m cs)⟩) (hx : srcP H k (evP F x) = some (m2, cs2)) (hleaf : ∀ p ∈ cs2, leafOk H p = true) (h63 : m - off + m2 ≤ maxLen) (hbytes : (m - off + m2) * b ≤ 140737488355328)
    (hk1 : K (.qs id off k (ver + 1)) (H.set id ⟨ver + 1, some (.row e k (m + m2) (cs ++ cs2))⟩))
    (hk2 : K (.qs id 0 k (ver + 1)) (H.set id ⟨ver + 1, some (.row e k (m - off + m2) (cs.drop (off * k) ++ cs2))⟩)) : PE P W n o F H K := fun V a w hr => by
  obtain ⟨i, hu, hi, hzz, hsz, rfl, hzs, hpos⟩ := selem_spec ht
  have hb : (H id).body = some (.row e k m cs) := by rw [hH]
  have hve : (H id).ver = ver := by rw [hH]
  have hsv : dropR off k (V id) (a.eval s) := by
    have := Rp.eval (P := P) (F := F) (a := a) (Z := W.Z) (H := H) (V := V) (w := w) s fun t _ => hr.slot t
    rw [hs] at this
    generalize a.eval s = q at this
    cases this with
    | qs _ _ _ _ _ hvv hh => exact hh (by rw [hb]; rfl) hve
  obtain ⟨vals, hown, hR, h1⟩ := hr.heap.row id e k m cs hb
  obtain ⟨ad, c, hxv, hsrc⟩ := src_spec hr.heap (Rp.eval (P := P) (F := F) (a := a) x fun t _ => hr.slot t) hx
  have hsrc2 : ∃ news, RpL W.Z H V w cs2 news ∧ (∀ u ∈ news, u.oneCell' = true) ∧ ((m2 = 0 ∧ news = []) ∨ ∃ b, ad = some b ∧ news.length = m2 * k ∧ (∀ j u, news[j]? = some u → w.cell? (b.add j) = some u) ∧ ∀ u ∈ news, u.oneCell' = true) := by
    rcases hsrc with ⟨rfl, rfl⟩ | ⟨b, news, e1, e2, hRn, e4⟩
    · exact ⟨[], ⟨rfl, fun i p v h => by simp at h⟩, (fun u hu => by cases hu), .inl ⟨rfl, rfl⟩⟩
    · have hone : ∀ u ∈ news, u.oneCell' = true := fun u hu => by
        obtain ⟨j, hj, rfl⟩ := List.getElem_of_mem hu
        have hj2 : j < cs2.length := by rw [hRn.1]; exact hj
        exact (hRn.2 j _ _ (List.getElem?_eq_getElem hj2) (List.getElem?_eq_getElem hj)).leaf hr.heap (hleaf _ (List.getElem_mem hj2))
      exact ⟨news, hRn, hone, .inr ⟨b, e1, e2, e4, hone⟩⟩
  obtain ⟨news, hRn, hone, hs2⟩ := hsrc2
  have hob := ownBlock_blockOf hown
  obtain ⟨ad0, mm, cap, ad1, hV, hv1, hoff, hmc, hcase⟩ := hsv
  have hmm : mm = m := by
    rcases hown.2 with ⟨e1, h0⟩ | ⟨g', cap', cur', e1, _⟩ <;> rw [hV] at e1 <;> cases e1
    · exact h0.symm
    · rfl
  subst hmm
  -- what the two ways have in common
  have fin : ∀ (off' mn : Nat) (v' vf : Value) (w' : World) (csn : List PV) (vn : List Value),
      (execOp a.eval o).run P w = .ok (.value v') w' → w'.ownsRow W.w.heap.size e k vf mn vn → w.grownBy w' (V id).ownBlock →
      (∀ g, blockOf vf = some g → w.heap.size ≤ g ∨ blockOf (V id) = some g) → dropR off' k vf v' → RpL W.Z H V w csn vn → (∀ u ∈ vn, u.oneCell' = true) →
      K (.qs id off' k (ver + 1)) (H.set id ⟨ver + 1, some (.row e k mn csn)⟩) →
      o.wp P a w (fun a' w' => ∃ p H' V', K p H' ∧ Rel P W n (F.put o.dst p) H' V' a' w') (fun _ _ _ => False) := by
    intro off' mn v' vf w' csn vn hex hown' hgr hblk hdr hRc hc1 hk
    refine wp_value hex ⟨_, _, setV V id vf, hk, ?_⟩
    have hturn : Turn W H V w id ⟨ver + 1, some (.row e k mn csn)⟩ vf w' := by
      refine ⟨hr.heap.below.grown hgr hr.heap.below.size fun kk hk => ?_, hgr.size, fun bb hlt hn => hgr.block bb hlt fun e' => hn ⟨by rw [hb]; rfl, by rw [← hob]; exact e'.symm⟩, fun g hg => ?_, .inl (by show (H id).ver < ver + 1; omega)⟩
      · exact (hown.lt kk hk).1
      · rcases hblk g hg with h | h
        · exact .inl h
        · exact .inr ⟨by rw [hb]; rfl, h⟩
    rw [hd]
    refine hr.turn hturn (fun bd hbd => ?_) (some d) (fun t ht => by cases ht; exact hdn) ?_
    · cases hbd
      exact ⟨vn, hown', ⟨hRc.1, fun i p v h3 h4 => hturn.rp (hRc.2 i p v h3 h4)⟩, hc1⟩
    · refine .qs _ _ _ _ _ ?_ fun _ _ => ?_
      · simp [PHeap.set]
      · simpa [setV] using hdr
  have hRapp : RpL W.Z H V w (cs ++ cs2) (vals ++ news) := ⟨by simp [hR.1, hRn.1], fun i p v h3 h4 => by
    by_cases hi' : i < cs.length
    · rw [List.getElem?_append_left hi'] at h3
      rw [List.getElem?_append_left (by rw [← hR.1]; exact hi')] at h4
      exact hR.2 i p v h3 h4
    · rw [List.getElem?_append_right (by omega)] at h3
      rw [List.getElem?_append_right (by rw [← hR.1]; omega), ← hR.1] at h4
      exact hRn.2 _ p v h3 h4⟩
  have happ1 : ∀ u ∈ vals ++ news, u.oneCell' = true := fun u hu => by
    rcases List.mem_append.1 hu with hu | hu
    · exact h1 u hu
    · exact hone u hu
  have hcsl : cs.length = mm * k := by rw [hR.1, hown.1]
  have hexe : ∀ {v' w'}, (Builtin.append_ #[t, t] o.type #[.slice ad1 (mm - off) (cap - off), .slice ad m2 c]).run P w = .ok v' w' → (execOp a.eval o).run P w = .ok (.value v') w' := fun hrun => by
    unfold execOp
    simp only [ho, resolve, invoke, builtin, Sem.run_bind, Sem.run_pure, Result.andThen_ok, List.map_toArray, List.map_cons, List.map_nil, hv1, hxv, hrun]
  rcases hs2 with ⟨rfl, rfl⟩ | ⟨bb, rfl, hl, hc, h1n⟩
  · -- nothing is appended
    have hcs2 : cs2 = [] := List.eq_nil_of_length_eq_zero (by simpa using hRn.1)
    subst hcs2
    refine fin off mm (.slice ad1 (mm - off) (cap - off)) (V id) w (cs ++ []) (vals ++ []) (hexe ?_) (by simpa using hown) ⟨rfl, rfl, rfl, Nat.le_refl _, fun _ _ _ => rfl⟩ (fun g hg => .inr hg) ⟨_, _, _, _, hV, rfl, hoff, hmc, hcase⟩ (by simpa using hRapp) (by simpa using happ1) (by simpa using hk1)
    rcases hcase with ⟨rfl, rfl⟩ | ⟨bk, oo, rfl, rfl, _⟩
    · rcases hown.2 with ⟨e1, h0⟩ | ⟨g', cap', cur', e1, _⟩ <;> rw [hV] at e1 <;> cases e1
      cases ad <;> simp [Builtin.append_, run_underlying hu, sizeOf, typeInfo, hi, Builtin.lenOf, Builtin.firstCells, loadCells, loadCellsFrom]
    · have : mm - off ≤ cap - off := Nat.sub_le_sub_right hmc _
      cases ad <;> simp [Builtin.append_, run_underlying hu, sizeOf, typeInfo, hi, Builtin.lenOf, Builtin.firstCells, loadCells, loadCellsFrom, this, storeCells]
  · rcases hown.2 with ⟨e1, h0⟩ | ⟨g, cap', cur, e1, hbg, hg0, hcap, hcm, hcs, htake⟩
    · -- nil
      rw [hV] at e1
      cases e1
      have hoff0 : off = 0 := by omega
      subst hoff0
      have had : ad1 = none := by
        rcases hcase with ⟨_, r⟩ | ⟨_, _, r, _⟩
        · exact r
        · cases r
      subst had
      have hcs0 : cs = [] := List.eq_nil_of_length_eq_zero (by simpa using hcsl)
      subst hcs0
      have hv0 : vals = [] := List.eq_nil_of_length_eq_zero (by simpa using hown.1)
      subst hv0
      obtain ⟨v', w', hrun, h4, h5, h6⟩ := run_append_own (P := P) w W.w.heap.size t o.type e i z k i.bytes hu hi hzz hsz rfl hzs hpos (.slice none 0 0) 0 [] (World.ownsRow_nil _ _ _ _) bb m2 c news hl hc h1n (by omega) (by simpa using hbytes) hr.heap.below.size
      obtain ⟨v'', w'', hrun2, h42, _⟩ := run_append_own (P := P) w w.heap.size t o.type e i z k i.bytes hu hi hzz hsz rfl hzs hpos (.slice none 0 0) 0 [] (World.ownsRow_nil _ _ _ _) bb m2 c news hl hc h1n (by omega) (by simpa using hbytes) (Nat.le_refl _)
      rw [hrun] at hrun2
      cases hrun2
      have hfresh : ∀ g, blockOf v' = some g → w.heap.size ≤ g := fun g hg => by
        refine (h42.lt g ?_).1
        rw [ownBlock_blockOf h42]; exact hg
      have hdr : dropR 0 k v' v' := by
        rcases h4.2 with ⟨e1, e2⟩ | ⟨g', cap', cur', e1, _, _, e5, _⟩
        · exact ⟨none, 0, 0, none, e1, e1, Nat.le_refl _, Nat.le_refl _, .inl ⟨rfl, rfl⟩⟩
        · exact ⟨_, _, _, _, e1, e1, Nat.zero_le _, e5, .inr ⟨g', 0, rfl, rfl, .inl (by simp)⟩⟩
      exact fin 0 (0 - 0 + m2) v' v' w' _ ([] ++ news) (hexe hrun) (by simpa using h4) (by rw [hV]; exact h5) (fun g hg => .inl (hfresh g hg)) hdr (by simpa using hRapp) (by simpa using happ1) hk2
    · rw [hV] at e1
      cases e1
      obtain ⟨oo, rfl, hoo⟩ : ∃ oo, ad1 = some ⟨g, oo, none⟩ ∧ (oo = off * k ∨ cap = off) := by
        rcases hcase with ⟨r, _⟩ | ⟨b', o', r1, r2, r3⟩
        · cases r
        · cases r1; exact ⟨o', r2, r3⟩
      subst hsz
      by_cases hroom : mm + m2 ≤ cap
      · by_cases hm2 : m2 = 0
        · subst hm2
          have hn0 : news = [] := List.eq_nil_of_length_eq_zero (by simpa using hl)
          subst hn0
          have hcs2 : cs2 = [] := List.eq_nil_of_length_eq_zero (by simpa using hRn.1)
          subst hcs2
          refine fin off mm (.slice (some ⟨g, oo, none⟩) (mm - off) (cap - off)) (V id) w (cs ++ []) (vals ++ []) (hexe ?_) (by simpa using hown) ⟨rfl, rfl, rfl, Nat.le_refl _, fun _ _ _ => rfl⟩ (fun g hg => .inr hg) ⟨_, _, _, _, hV, rfl, hoff, hmc, hcase⟩ (by simpa using hRapp) (by simpa using happ1) (by simpa using hk1)
          have : mm - off ≤ cap - off := by omega
          simp [Builtin.append_, run_underlying hu, sizeOf, typeInfo, hi, Builtin.lenOf, Builtin.firstCells, loadCells, loadCellsFrom, this, storeCells]
        · have hoo' : oo = off * i.size := by rcases hoo with h | h; exact h; omega
          subst hoo'
          have hfit : mm * i.size + news.length ≤ cur.size := by rw [hl, hcs, ← Nat.add_mul]; exact Nat.mul_le_mul_right _ hroom
          have hr1 := room_off (P := P) (c := c) (ty := o.type) hu hi hg0 hoff hl hc h1n hroom hfit
          have hlen : (vals ++ news).length = (mm + m2) * i.size := by rw [List.length_append, hown.1, hl, Nat.add_mul]
          have heq : mm - off + m2 = mm + m2 - off := (Nat.sub_add_comm hoff).symm
          refine fin off (mm + m2) _ (.slice (some ⟨g, 0, none⟩) (mm + m2) cap) _ (cs ++ cs2) (vals ++ news) (hexe hr1) ⟨hlen, .inr ⟨g, cap, _, rfl, hbg, setRow_heap w g cur _ e _ hg0, hroom, hcm, ?_, ?_⟩⟩ ⟨rfl, rfl, rfl, by simp, fun k _ hk => setRow_other w g k _ (fun e => hk (by rw [hV]; simp [Value.ownBlock, e]))⟩ (fun g' hg' => .inr (by rw [hV]; exact hg')) ⟨_, _, _, _, rfl, by rw [heq], Nat.le_trans hoff (Nat.le_add_right _ _), hroom, .inr ⟨g, _, rfl, rfl, .inl rfl⟩⟩ hRapp happ1 hk1
          · simp only [List.size_toArray, List.length_append, List.length_take, List.length_drop, Array.length_toList]
            omega
          · rw [htake, ← hlen]
            exact List.take_left
      · have holds : ∀ j u, (vals.drop (off * i.size))[j]? = some u → w.cell? ((⟨g, oo, none⟩ : Addr).add j) = some u := fun j u hj => by
          by_cases he : cap = off
          · have hmo : mm = off := by omega
            have : (vals.drop (off * i.size)).length = 0 := by rw [List.length_drop, hown.1, hmo]; omega
            rw [List.eq_nil_of_length_eq_zero this] at hj; cases hj
          · have hoo' : oo = off * i.size := by rcases hoo with h | h; exact h; omega
            subst hoo'
            rw [List.getElem?_drop] at hj
            have := hown.cells (g := g) (by rw [hV]; rfl) _ _ hj
            rw [addr_add] at this
            rw [addr_add]
            simpa using this
        have hlo : (vals.drop (off * i.size)).length = (mm - off) * i.size := by rw [List.length_drop, hown.1, Nat.sub_mul]
        have h63' : ((mm - off + m2 : Nat) : Int) ≤ 9223372036854775807 := by simp only [maxLen] at h63; omega
        have hr1 := run_append_grow (P := P) w t o.type e i z hu hi hzz ⟨g, oo, none⟩ (mm - off) (cap - off) (vals.drop (off * i.size)) hlo holds bb m2 c news hl hc (by omega) h63' (growslice_fits (by omega) hbytes)
        obtain ⟨hg1, hg2⟩ := grown_own (w := w) (base := W.w.heap.size) (e := e) hzs (old := cap - off) (by omega) hlo hl h63 hr.heap.below.size (V id).ownBlock
        refine fin 0 (mm - off + m2) _ _ _ (cs.drop (off * i.size) ++ cs2) _ (hexe hr1) hg1 hg2 (fun g' hg' => .inl (by cases hg'; exact Nat.le_refl _)) ⟨_, _, _, _, rfl, rfl, Nat.zero_le _, grownCap_ge w _ _ e, .inr ⟨_, 0, rfl, rfl, .inl (by simp)⟩⟩ ⟨?_, fun i' p v h3 h4 => ?_⟩ (fun u hu => ?_) hk2
        · simp [hR.1, hRn.1]
        · by_cases hi' : i' < (cs.drop (off * i.size)).length
          · rw [List.getElem?_append_left hi', List.getElem?_drop] at h3
            rw [List.getElem?_append_left (by simpa [← hR.1] using hi'), List.getElem?_drop] at h4
            exact hR.2 _ p v h3 h4
          · rw [List.getElem?_append_right (by omega)] at h3
            have hle : (vals.drop (off * i.size)).length = (cs.drop (off * i.size)).length := by simp [hR.1]
            rw [List.getElem?_append_right (by omega), hle] at h4
            exact hRn.2 _ p v h3 h4
        · rcases List.mem_append.1 hu with hu | hu
          · exact h1 u (List.mem_of_mem_drop hu)
          · exact hone u hu

/-- an own row, or what is left of one -/
def ownQ {α : Type} (e k : Nat) (rep : α → PV) (H : PHeap) (id : Nat) (q : PV) (xs : List α) : Prop := ownL e k rep H id q xs ∨ ownQ' e k rep H id q xs
theorem ownQ.mono {α : Type} {e k id : Nat} {rep : α → PV} {H H' : PHeap} {q : PV} {xs : List α} (h : ownQ e k rep H id q xs) (he : H' id = H id) : ownQ e k rep H' id q xs := h.imp (fun h => h.mono he) (fun h => h.mono he)
theorem q_len {α : Type} {e kk id : Nat} {rep : α → PV} {q : PV} {xs : List α} (ht : isSlice P t = true) (ho : ownQ e kk rep H id q xs) (hx : evP F x = q) : PQ P W ⟨some d, .call { callee := .builtin .len, args := #[x], argTypes := #[t] }, ty, pos, af, g⟩ F H (.u (.int .i64 xs.length)) := by
  rcases ho with ho | ho
  · exact pstep_sound (st_lenO ht ho hx)
  · exact st_lenQ' ht ho hx
theorem flat_drop {α : Type} {rep : α → PV} {k : Nat} (hk : ∀ x, (rep x).cells.length = k) (xs : List α) {z j : Nat} {v : α} (hv : xs[z]? = some v) (hj : j < k) : (((xs.map rep).flatMap PV.cells).drop (z * k))[j]? = (rep v).cells[j]? := by
  rw [List.getElem?_drop]
  exact flat_at (k := k) (xs := xs.map rep) (fun y hy => by obtain ⟨u, _, rfl⟩ := List.mem_map.1 hy; exact hk u) z j (rep v) (by rw [List.getElem?_map, hv]; rfl) hj
theorem loadP_of {cs : List PV} {k : Nat} {c : List PV} (hc : c.length = k) (h : ∀ j, j < k → cs[j]? = c[j]?) : (∀ p, c = [p] → loadP false k cs = some p) ∧ loadP true k cs = some (.agg c) := by
  constructor
  · intro p hp
    subst hp
    have := h 0 (by simp at hc; omega)
    rw [loadP_false, this]; rfl
  · have hl : k ≤ cs.length := by
      by_cases h0 : k = 0
      · omega
      · have := h (k - 1) (by omega)
        rw [List.getElem?_eq_getElem (l := c) (by omega)] at this
        obtain ⟨hlt, _⟩ := List.getElem?_eq_some_iff.1 this
        omega
    rw [loadP_true _ _ hl]
    congr 2
    apply List.ext_getElem?
    intro i
    rw [List.getElem?_take]
    split
    · rename_i hi; exact h i hi
    · rename_i hi; rw [List.getElem?_eq_none (by omega)]
/-- a place in a queue, and what is there -/
theorem q_idx {α : Type} {e kk id : Nat} {rep : α → PV} {q : PV} {xs : List α} {kd : IntKind} {z : Int} {v : α} (he : esz P t = some kk) (hk : ∀ x, (rep x).cells.length = kk) (ho : ownQ e kk rep H id q xs) (hx : evP F x = q) (hy : evP F y = .u (.int kd z)) (hv : idx xs z = some v) :
    ∃ p, PQ P W ⟨some d, .indexAddr t x y, ty, pos, af, g⟩ F H p ∧ ∃ cs, (∀ t', loadAtP P H t' p = (asz P t').elim none fun r => loadP r.1 r.2 cs) ∧ (∀ pv, (rep v).cells = [pv] → loadP false kk cs = some pv) ∧ loadP true kk cs = some (.agg (rep v).cells) := by
  rcases ho with ho | ho
  · obtain ⟨hq, hH⟩ := ho.at hv
    obtain ⟨h0, h1⟩ := idx_some hv
    refine ⟨_, pstep_sound (st_idxO he ho hx hy hv), _, fun t' => by rw [loadAtP_pp, liveCells_def, hH, lcP_row, if_pos rfl]; rfl, ?_⟩
    exact loadP_of (hk v) fun j hj => flat_drop hk xs h1 hj
  · obtain ⟨off, ver, h1, h2, h3⟩ := st_idxQ' (ty := ty) (pos := pos) (af := af) (g := g) (d := d) (W := W) he ho hx hy hv hk
    refine ⟨_, h1, _, fun t' => by rw [loadAtP_pp, h2]; rfl, ?_⟩
    exact loadP_of (hk v) h3
theorem q_ld1 {p pv : PV} {kk : Nat} {cs : List PV} (ht : asz P t = some (false, kk)) (hx : evP F x = p) (h1 : ∀ t', loadAtP P H t' p = (asz P t').elim none fun r => loadP r.1 r.2 cs) (h2 : loadP false kk cs = some pv) : pstep P H F ⟨some d, .load t x, ty, pos, af, g⟩ = some pv := by
  rw [pstep_load, hx, h1, ht]; exact h2
theorem q_ldA {p pv : PV} {kk : Nat} {cs : List PV} (ht : asz P t = some (true, kk)) (hx : evP F x = p) (h1 : ∀ t', loadAtP P H t' p = (asz P t').elim none fun r => loadP r.1 r.2 cs) (h2 : loadP true kk cs = some pv) : pstep P H F ⟨some d, .load t x, ty, pos, af, g⟩ = some pv := by
  rw [pstep_load, hx, h1, ht]; exact h2
/-- 's[z:]' of a queue -/
theorem q_from {α : Type} {e kk id : Nat} {rep : α → PV} {q : PV} {xs ys : List α} {lo : Operand} {kd : IntKind} {z : Int} (he : esz P t = some kk) (hk : ∀ x, (rep x).cells.length = kk) (ho : ownQ e kk rep H id q xs) (hx : evP F x = q) (hy : evP F lo = .u (.int kd z)) (hs : slcL xs z xs.length = some ys) (hz : z ≠ 0) :
    ∃ p, PQ P W ⟨some d, .slice t x (some lo) none none, ty, pos, af, g⟩ F H p ∧ ownQ e kk rep H id p ys := by
  obtain ⟨⟨h0, _, h1, _⟩, rfl⟩ := slcL_some hs
  simp only [Int.toNat_natCast, List.take_length] at h1 ⊢
  have hzn : z.toNat ≠ 0 := by omega
  rcases ho with ho | ⟨off, ver, pre, hq, hp, hH⟩
  · obtain ⟨ver, hq, hH⟩ := OwnS.pos ho (by omega)
    subst hq
    refine ⟨_, PQ.sliceFrom rfl he hx hH hy h0 h1, .inr ⟨z.toNat, ver, xs.take z.toNat, rfl, by simp; omega, ?_⟩⟩
    rw [List.take_append_drop, List.length_drop, show z.toNat + (xs.length - z.toNat) = xs.length by omega]
    exact hH
  · subst hq
    refine ⟨_, PQ.sliceFromQ rfl he hx hH hy h0 (by omega), .inr ⟨off + z.toNat, ver, pre ++ xs.take z.toNat, rfl, by simp [hp]; omega, ?_⟩⟩
    rw [List.append_assoc, List.take_append_drop, List.length_drop, show off + z.toNat + (xs.length - z.toNat) = off + xs.length by omega]
    exact hH
theorem PL.appQ {α : Type} {rep : α → PV} {e k b d id : Nat} {z : Value} {q : PV} {xs ys zs : List α} (hg : o.guard = none) (ho : o.op = .call { callee := .builtin .append, args := #[x, y], argTypes := #[t, t] }) (hd : o.dst = some d) (hdn : d < n) (ht : selem P t = some (e, k, b, z))
    (hs : evP F x = q) (hr : ownQ e k rep H id q xs) (hp : evP F y = .sl k (ys.map rep)) (hk : ∀ x, (rep x).cells.length = k) (hleaf : ∀ x, ∀ c ∈ (rep x).cells, leafOk H c = true) (hz : app b xs ys = some zs)
    (h : ∀ q' H', ownQ e k rep H' id q' zs → (∀ j, j ≠ id → H' j = H j) → PL P W n ops l (F.put (some d) q') H' K) : PL P W n ops (o :: l) F H K := by
  obtain ⟨h1, h2, rfl⟩ := app_some hz
  rcases hr with hr | ⟨off, ver, pre, hq, hpl, hH⟩
  · exact PL.appendL hg ho hd hdn ht hs hr hp hk hleaf h1 h2 fun q' H' h3 h4 => h q' H' (.inl h3) h4
  · subst hq
    have hfl : ∀ (us : List α), ((us.map rep).flatMap PV.cells).length = us.length * k := fun us => by
      have := L.flat_length (k := k) (us.map rep) (fun y hy => by obtain ⟨z, _, rfl⟩ := List.mem_map.1 hy; exact hk z)
      simpa using this
    refine PL.pe hg (PE.appendQ (off := off) (m := off + xs.length) (m2 := ys.length) (cs2 := (ys.map rep).flatMap PV.cells) ho hd hdn ht hs hH (by rw [hp]; simp [srcP]) (fun p hp => ?_) (by omega) (by rw [show off + xs.length - off + ys.length = xs.length + ys.length by omega]; exact h2) ?_ ?_)
    · obtain ⟨y, hy, hc⟩ := List.mem_flatMap.1 hp
      obtain ⟨z, _, rfl⟩ := List.mem_map.1 hy
      exact hleaf z p hc
    · rw [hd]
      refine h _ _ (.inr ⟨off, ver + 1, pre, rfl, hpl, ?_⟩) fun j hj => by simp [PHeap.set, hj]
      simp [PHeap.set, Nat.add_assoc]
    · rw [hd]
      refine h _ _ (.inr ⟨0, ver + 1, [], rfl, rfl, ?_⟩) fun j hj => by simp [PHeap.set, hj]
      have e1 : (((pre ++ xs).map rep).flatMap PV.cells).drop (off * k) = (xs.map rep).flatMap PV.cells := by
        rw [List.map_append, List.flatMap_append, ← hpl, ← hfl pre]
        exact List.drop_left
      rw [e1]
      simp [PHeap.set]
/-- an operation of which only something is known -/
theorem PL.ex {R : PV → Prop} (hg : o.guard = none) (hd : dstOk n o) (h : ∃ p, PQ P W o F H p ∧ R p) (k : ∀ p, R p → PL P W n ops l (F.put o.dst p) H K) : PL P W n ops (o :: l) F H K := by
  obtain ⟨p, h1, h2⟩ := h
  exact PL.qq hg hd h1 (k p h2)
theorem QF.ex {Q : PFrame → Prop} {R : PV → Prop} (hg : o.guard = none) (hd : dstOk n o) (h : ∃ p, PQ P W o F H p ∧ R p) (k : ∀ p, R p → wpQF P W n ops H Q l (F.put o.dst p)) : wpQF P W n ops H Q (o :: l) F := by
  obtain ⟨p, h1, h2⟩ := h
  exact QF.qq hg hd h1 (k p h2)
end
end Go.Proofs.Ythcckhpogmlgjaa

/-
  What the library's slices does to rows of a call's own: Clone, Sort, Compact.
-/
namespace Go.Proofs.Ythcckhpogmlgjaa
open Go Go.RowKit L
set_option linter.unusedVariables false
set_option linter.unusedSimpArgs false

def small7 {α : Type} (xs : List α) (ys : List α) : Option (List α) := if xs.length ≤ 10000000 then some ys else none
theorem small7_some {α : Type} {xs ys zs : List α} (h : small7 xs ys = some zs) : xs.length ≤ 10000000 ∧ zs = ys := by
  unfold small7 at h; split at h
  · cases h; exact ⟨by assumption, rfl⟩
  · cases h

section
variable {P : Program} {W : Env} {n : Nat} {H : PHeap} {F : PFrame} {ops : Array Oper} {o : Oper} {l : List Oper} {K : PFrame → PHeap → Prop} {x : Operand} {ts : Array TypeId}

/-- a call's new row of numbers and the like -/
theorem PL.ownG {α : Type} {rep : α → PV} {enc : α → Value} {f : FuncId} {args : Array Operand} {e d : Nat} {qs : List PV} {xs : List α} (id : Nat) (hg : o.guard = none) (ho : o.op = .call ⟨.value (.func f), args, ts⟩) (hd : o.dst = some d) (hdn : d < n) (hf : goBody P f = true) (ha : args.toList.map (evP F) = qs) (hn : ∀ p ∈ qs, NoP p)
    (hc : PCallOwn P f qs e 1 (fun n us => n = xs.length ∧ us = xs.map enc)) (hrep : ∀ x, rep x = .u (enc x)) (h1 : ∀ x, (rep x).cells = [rep x])
    (h : ∀ q' H', ownL e 1 rep H' id q' xs → (∀ j, j ≠ id → H' j = H j) → PL P W n ops l (F.put (some d) q') H' K) : PL P W n ops (o :: l) F H K := by
  refine PL.pe hg (PE.callOwn (id := id) hd hdn ho (by rw [target_func, ha]) hf ⟨rfl, fun i p q h1 h2 => ?_⟩ hc fun m us hR hl => ?_)
  · rw [h1] at h2; cases h2
    exact View.noP (hn p (List.mem_of_getElem? h1))
  · obtain ⟨rfl, rfl⟩ := hR
    rw [hd]
    refine h _ _ ?_ fun j hj => by simp [PHeap.set, hj]
    have hb : (H.set id ⟨(H id).ver + 1, some (.row e 1 xs.length ((xs.map enc).map .u))⟩) id = ⟨(H id).ver + 1, some (.row e 1 xs.length ((xs.map enc).map .u))⟩ := by simp [PHeap.set]
    unfold ownL
    rw [flat1 h1]
    have : (xs.map enc).map PV.u = xs.map rep := by rw [List.map_map]; exact List.map_congr_left fun x _ => (hrep x).symm
    rw [this] at hb ⊢
    exact OwnS.row (k := 1) hb (by simp)

theorem us_of {Z : ZM} {V : Nat → Value} {w : World} {xs : List Int} {vals : List Value} (h : RpL Z H V w (xs.map I) vals) : vals = xs.map (.int .i64) := by
  apply List.ext_getElem?
  intro i
  have h1 := h.1
  simp only [List.length_map] at h1
  by_cases hi : i < xs.length
  · have e1 : (xs.map I)[i]? = some (I xs[i]) := by simp [hi]
    have e2 : vals[i]? = some vals[i] := List.getElem?_eq_getElem (by omega)
    have := rpu (h.2 i _ _ e1 e2)
    rw [e2, this]; simp [hi]
  · rw [List.getElem?_eq_none (by omega), List.getElem?_eq_none (by simp; omega)]
theorem rpl_us {V : Nat → Value} {w : World} (xs : List Int) : RpL W.Z H V w (xs.map I) (xs.map (.int .i64)) := by
  have := RpL.us (W := W) (H := H) (V := V) (w := w) (xs.map (Value.int .i64))
  rw [List.map_map] at this
  exact this
end

theorem sort_row (v : Value) (l : List Int) (B : Nat) (w : World) (hv : w.ownsRow B 3 1 v l.length (l.map (.int .i64))) (hl : l.length ≤ 10000000) :
    Calls Try.prog 52 #[v] w fun e w' => e = .returned (.tuple #[]) ∧ w'.ownsRow B 3 1 v l.length ((sortL l).map (.int .i64)) ∧ w.grownBy w' v.ownBlock := by
  have hlen : (sortL l).length = l.length := List.length_mergeSort l
  rcases hv.2 with ⟨rfl, h0⟩ | ⟨g, cap, cur, rfl, hb, hg, hnc, hcm, hcs, htake⟩
  · have e0 : l = [] := List.eq_nil_of_length_eq_zero h0
    subst e0
    exact (Try.slices_Sort_int_none none 0 w).mono fun e w' ⟨he, hw⟩ => by subst hw; exact ⟨he, by rw [show sortL [] = [] from by simp [sortL]]; exact World.ownsRow_nil _ _ _ _, ⟨rfl, rfl, rfl, Nat.le_refl _, fun _ _ _ => rfl⟩⟩
  · have hlt : g < w.heap.size := (Array.getElem?_eq_some_iff.1 hg).1
    obtain ⟨g', cap', e1, _, _, _, _, _, hH⟩ := Lib.holds_of_ownsRow (enc := Value.int .i64) hv (by simp)
    cases e1
    refine (Try.slices_Sort_int g 0 cap l w hH hlt (by omega)).mono ?_
    rintro e w' ⟨he, n, os, rfl⟩
    exact ⟨he, ownsRow_sortedI (n := n) (os := os) (ts := sortL l) hlen hb hg hnc hcm hcs, grownBy_sortedI _⟩
theorem compact_row (v : Value) (l : List Int) (B : Nat) (w : World) (hv : w.ownsRow B 3 1 v l.length (l.map (.int .i64))) (hl : l.length ≤ 10000000) :
    Calls Try.prog 53 #[v] w fun e w' => ∃ v', e = .returned v' ∧ w'.ownsRow B 3 1 v' (compactL l).length ((compactL l).map (.int .i64)) ∧ w.grownBy w' v.ownBlock ∧ ∀ g, blockOf v' = some g → blockOf v = some g := by
  have hle : (Lib.compact l).length ≤ l.length := Lib.compact_length_le l
  rcases hv.2 with ⟨rfl, h0⟩ | ⟨g, cap, cur, rfl, hb, hg, hnc, hcm, hcs, htake⟩
  · have e0 : l = [] := List.eq_nil_of_length_eq_zero h0
    subst e0
    exact (Try.slices_Compact_int_empty none 0 w).mono fun e w' ⟨he, hw⟩ => by subst hw; exact ⟨_, he, World.ownsRow_nil _ _ _ _, ⟨rfl, rfl, rfl, Nat.le_refl _, fun _ _ _ => rfl⟩, fun g hg => hg⟩
  · obtain ⟨g', cap', e1, _, _, _, _, _, hH⟩ := Lib.holds_of_ownsRow (enc := Value.int .i64) hv (by simp)
    cases e1
    refine (Try.slices_Compact_int g 0 cap l w hH (by omega) hnc).mono ?_
    rintro e w' ⟨he, q, rfl⟩
    refine ⟨_, he, ?_, ?_, fun g hg => hg⟩
    · have h := Lib.ownsRow_putRow (q := q) (k := (Lib.compact l).length) (ys := Lib.compact l ++ List.replicate (l.length - (Lib.compact l).length) 0) hv (by simp; omega) hle
      rw [List.take_left] at h
      exact h
    · refine ⟨rfl, rfl, rfl, by simp [Sort.putRow, Sort.mapBlock, Sort.ahead], fun k hk hne => ?_⟩
      have : g ≠ k := fun e => hne (by rw [← e]; rfl)
      simp [Sort.putRow, Sort.mapBlock, Sort.ahead, Array.getElem?_modify, this]

section
variable {W : Env} {n : Nat} {H : PHeap} {F : PFrame} {ops : Array Oper} {o : Oper} {l : List Oper} {K : PFrame → PHeap → Prop} {x : Operand} {ts : Array TypeId}
/-- a call that is handed one own row of numbers, turns it, and may hand it back -/
theorem PE.onInts {f : FuncId} {id ver d : Nat} {xs ys : List Int} {back : Bool} {k : PV → PHeap → Prop} (ho : o.op = .call ⟨.value (.func f), #[x], ts⟩) (hd : dstOk n o) (hf : goBody Try.prog f = true) (hx : evP F x = .ps id ver) (hH : H id = ⟨ver, some (.row 3 1 xs.length (xs.map I))⟩)
    (hc : ∀ (v : Value) (B : Nat) (w : World), w.ownsRow B 3 1 v xs.length (xs.map (.int .i64)) → Calls Try.prog f #[v] w fun e w' => ∃ r v', e = .returned r ∧ w'.ownsRow B 3 1 v' ys.length (ys.map (.int .i64)) ∧ w.grownBy w' v.ownBlock ∧ (∀ g, blockOf v' = some g → blockOf v = some g) ∧ (if back = true then r = v' else v' = v ∧ r = .tuple #[]))
    (hk : if back = true then k (.ps id (ver + 1)) (H.set id ⟨ver + 1, some (.row 3 1 ys.length (ys.map I))⟩) else k (.u (.tuple #[])) (H.set id ⟨ver, some (.row 3 1 ys.length (ys.map I))⟩)) : PE Try.prog W n o F H k := fun V a w hr => by
  have hb : (H id).body = some (.row 3 1 xs.length (xs.map I)) := by rw [hH]
  have hve : (H id).ver = ver := by rw [hH]
  obtain ⟨vals, hown, hR, h1⟩ := hr.heap.row id _ _ _ _ hb
  have hvals := us_of hR
  subst hvals
  have ht : target F ⟨.value (.func f), #[x], ts⟩ = some (f, [.ps id ver]) := by rw [target_func]; simp [hx]
  obtain ⟨vs, he, hRv⟩ := run_target (P := Try.prog) (W := W) (H := H) (V := V) (a := a) (w := w) ho ht hf fun x hx' => Rp.eval (P := Try.prog) x fun t ht => hr.slot t
  obtain ⟨v, rfl, hv⟩ := rpl1 hRv
  have hvV : v = V id := by
    cases hv with
    | ps _ _ _ hvv hh => exact hh (by rw [hb]; rfl) hve
  subst hvV
  have hob := ownBlock_blockOf hown
  refine wp_call he ((hc (V id) _ w hown).mono fun e w' ⟨r, v', h2, h3, h4, h5, h6⟩ => ⟨r, h2, ?_⟩)
  have hbase : ∀ nv, (H id).ver < nv ∨ (nv = (H id).ver ∧ v' = V id) → Turn W H V w id ⟨nv, some (.row 3 1 ys.length (ys.map I))⟩ v' w' := fun nv hnv => by
    refine ⟨hr.heap.below.grown h4 hr.heap.below.size fun kk hk => (hown.lt kk hk).1, h4.size, fun bb hlt hn => h4.block bb hlt fun e' => hn ⟨by rw [hb]; rfl, by rw [← hob]; exact e'.symm⟩, fun g hg => .inr ⟨by rw [hb]; rfl, h5 g hg⟩, ?_⟩
    rcases hnv with h | ⟨h, h'⟩
    · exact .inl h
    · exact .inr ⟨h, h', by rw [hb]; rfl⟩
  cases back
  · simp only [Bool.false_eq_true, if_false] at h6 hk
    obtain ⟨rfl, rfl⟩ := h6
    refine ⟨_, _, setV V id (V id), hk, hr.turn (hbase ver (.inr ⟨hve.symm, rfl⟩)) (fun bd hbd => ?_) o.dst hd (.u _)⟩
    cases hbd
    exact ⟨_, h3, rpl_us ys, fun u hu => by obtain ⟨z, _, rfl⟩ := List.mem_map.1 hu; rfl⟩
  · simp only [if_true] at h6 hk
    subst h6
    refine ⟨_, _, setV V id r, hk, hr.turn (hbase (ver + 1) (.inl (by omega))) (fun bd hbd => ?_) o.dst hd ?_⟩
    · cases hbd
      exact ⟨_, h3, rpl_us ys, fun u hu => by obtain ⟨z, _, rfl⟩ := List.mem_map.1 hu; rfl⟩
    · refine .ps _ _ _ ?_ fun _ _ => ?_
      · simp [PHeap.set]
      · simp [setV]
theorem ints_row {id ver : Nat} {xs : List Int} (h : H id = ⟨ver, some (.row 3 1 xs.length (xs.map I))⟩) : ownL 3 1 I H id (.ps id ver) xs := by
  unfold ownL
  rw [flat1 (fun _ => rfl)]
  exact OwnS.row (k := 1) h (by simp)
/-- a call that reads nil, and makes nothing -/
theorem PL.sortI {q : PV} {xs ys : List Int} (id : Nat) (hg : o.guard = none) (ho : o.op = .call ⟨.value (.func 52), #[x], ts⟩) (hd : dstOk n o) (hx : evP F x = q) (hr : ownL 3 1 I H id q xs) (hs : small7 xs (sortL xs) = some ys)
    (h : ∀ H', ownL 3 1 I H' id q ys → (∀ j, j ≠ id → H' j = H j) → PL Try.prog W n ops l (F.put o.dst (.u (.tuple #[]))) H' K) : PL Try.prog W n ops (o :: l) F H K := by
  obtain ⟨hl, rfl⟩ := small7_some hs
  have hlen : (sortL xs).length = xs.length := List.length_mergeSort xs
  rcases hr.2 with ⟨rfl, h0⟩ | ⟨ver, rfl, hH⟩
  · have e0 : xs = [] := List.eq_nil_of_length_eq_zero h0
    subst e0
    refine PL.pe hg ?_
    have hc : PCall Try.prog 52 [.u (.slice none 0 0)] (· = .u (.tuple #[])) := fun Z w vs hz _ hR => by
      obtain ⟨v, rfl, hv⟩ := rpl1 hR
      cases hv
      exact (Try.slices_Sort_int_none none 0 w).mono fun e w' ⟨he, hw⟩ => by subst hw; exact ⟨_, _, he, rfl, .u _, .u _, Below.refl _ _⟩
    refine PE.quiet hd (PQ.callB ho (by rw [target_func]; simp [hx]) (by kernel_rfl) (ViewL.noPs (nopc (.u _) nop0)) (nopc (.u _) nop0) hc) ?_
    exact h H (by rw [show sortL [] = [] from by simp [sortL]]; exact ownL.nil _ _) fun _ _ => rfl
  · rw [flat1 (fun _ => rfl)] at hH
    refine PL.pe hg (PE.onInts (d := 0) (back := false) (ys := sortL xs) ho hd (by kernel_rfl) hx hH (fun v B w hv => (sort_row v xs B w hv hl).mono fun e w' ⟨h1, h2, h3⟩ => ⟨_, v, h1, by rw [hlen]; exact h2, h3, fun g hg => hg, by simp⟩) ?_)
    simp only [Bool.false_eq_true, if_false]
    refine h _ (ints_row ?_) fun j hj => by simp [PHeap.set, hj]
    simp [PHeap.set]
theorem PL.compI {q : PV} {xs ys : List Int} {d : Nat} (id : Nat) (hg : o.guard = none) (ho : o.op = .call ⟨.value (.func 53), #[x], ts⟩) (hd : o.dst = some d) (hdn : d < n) (hx : evP F x = q) (hr : ownL 3 1 I H id q xs) (hs : small7 xs (compactL xs) = some ys)
    (h : ∀ q' H', ownL 3 1 I H' id q' ys → (∀ j, j ≠ id → H' j = H j) → PL Try.prog W n ops l (F.put (some d) q') H' K) : PL Try.prog W n ops (o :: l) F H K := by
  obtain ⟨hl, rfl⟩ := small7_some hs
  have hdk : dstOk n o := fun t ht => by rw [hd] at ht; cases ht; exact hdn
  rcases hr.2 with ⟨rfl, h0⟩ | ⟨ver, rfl, hH⟩
  · have e0 : xs = [] := List.eq_nil_of_length_eq_zero h0
    subst e0
    refine PL.pe hg ?_
    have hc : PCall Try.prog 53 [.u (.slice none 0 0)] (· = .u (.slice none 0 0)) := fun Z w vs hz _ hR => by
      obtain ⟨v, rfl, hv⟩ := rpl1 hR
      cases hv
      exact (Try.slices_Compact_int_empty none 0 w).mono fun e w' ⟨he, hw⟩ => by subst hw; exact ⟨_, _, he, rfl, .u _, .u _, Below.refl _ _⟩
    refine PE.quiet hdk (PQ.callB ho (by rw [target_func]; simp [hx]) (by kernel_rfl) (ViewL.noPs (nopc (.u _) nop0)) (nopc (.u _) nop0) hc) ?_
    rw [hd]
    exact h _ H (ownL.nil _ _) fun _ _ => rfl
  · rw [flat1 (fun _ => rfl)] at hH
    refine PL.pe hg (PE.onInts (d := 0) (back := true) (ys := compactL xs) ho hdk (by kernel_rfl) hx hH (fun v B w hv => (compact_row v xs B w hv hl).mono fun e w' ⟨v', h1, h2, h3, h4⟩ => ⟨v', v', h1, h2, h3, h4, by simp⟩) ?_)
    simp only [if_true]
    rw [hd]
    refine h _ _ (ints_row ?_) fun j hj => by simp [PHeap.set, hj]
    simp [PHeap.set]
/-- Clone of a list that is only read -/
theorem clone_own {xs : List Int} (hl : xs.length ≤ 10000000) : PCallOwn Try.prog 56 [slI xs] 3 1 (fun n us => n = xs.length ∧ us = xs.map (.int .i64)) := fun w vs h => by
  obtain ⟨v, rfl, hv⟩ := rpl1 h
  exact (clone_any v xs w (rd_of (fun _ => rfl) hv) hl).mono fun e w' ⟨v', h1, h2, h3⟩ => ⟨v', _, _, h1, ⟨rfl, rfl⟩, h2, fun u hu => by obtain ⟨z, _, rfl⟩ := List.mem_map.1 hu; rfl, h3⟩
theorem PL.cloneI {xs ys : List Int} {d : Nat} (id : Nat) (hg : o.guard = none) (ho : o.op = .call ⟨.value (.func 56), #[x], ts⟩) (hd : o.dst = some d) (hdn : d < n) (hx : evP F x = slI xs) (hs : small7 xs xs = some ys)
    (h : ∀ q' H', ownL 3 1 I H' id q' ys → (∀ j, j ≠ id → H' j = H j) → PL Try.prog W n ops l (F.put (some d) q') H' K) : PL Try.prog W n ops (o :: l) F H K := by
  obtain ⟨hl, rfl⟩ := small7_some hs
  exact PL.ownG id hg ho hd hdn (by kernel_rfl) (am hx am0) (nopc (noP_slI _) nop0) (clone_own hl) (fun _ => rfl) (fun _ => rfl) h
end
end Go.Proofs.Ythcckhpogmlgjaa

/-
  The functions that the law SpotBehind calls, as plain code with their contracts.
-/
namespace Go.Proofs.Ythcckhpogmlgjaa
open Go Go.RowKit L
set_option linter.unusedVariables false
set_option linter.unusedSimpArgs false

def guardO {α : Type} (p : Prop) [Decidable p] (a : α) : Option α := if p then some a else none
theorem guardO_some {α : Type} {p : Prop} [Decidable p] {a r : α} (h : guardO p a = some r) : p ∧ r = a := by
  unfold guardO at h; split at h
  · cases h; exact ⟨by assumption, rfl⟩
  · cases h
theorem guardO_of {α : Type} {p : Prop} [Decidable p] {a : α} (h : p) : guardO p a = some a := if_pos h

theorem nof0 : ∀ p ∈ ([] : List PV), NoF p := fun p h => by cases h
theorem nofc {p : PV} {ps : List PV} (h : NoF p) (hs : ∀ p ∈ ps, NoF p) : ∀ q ∈ p :: ps, NoF q := fun q hq => by
  rcases List.mem_cons.1 hq with e | hq
  · rw [e]; exact h
  · exact hs q hq
theorem noF_slX (l : List Rx) : NoF (slX l) := .sl _ _ fun c hc => by obtain ⟨z, _, rfl⟩ := List.mem_map.1 hc; exact .agg _ (fun c hc => by simp at hc; rcases hc with rfl | rfl | rfl | rfl | rfl <;> exact .u _)
section
variable {P : Program} {W : Env} {n : Nat} {H : PHeap} {F : PFrame} {ops : Array Oper} {o : Oper} {l : List Oper} {K : PFrame → PHeap → Prop} {x : Operand} {ts : Array TypeId}
/-- a call whose fresh row of numbers and the like becomes one of the caller's own -/
theorem PL.callG {α : Type} {rep : α → PV} {enc : α → Value} {f : FuncId} {args : Array Operand} {e d : Nat} {qs : List PV} {xs : List α} (id : Nat) (hg : o.guard = none) (ho : o.op = .call ⟨.value (.func f), args, ts⟩) (hd : o.dst = some d) (hdn : d < n) (hf : goBody P f = true) (ha : args.toList.map (evP F) = qs) (hn : ∀ p ∈ qs, NoF p)
    (hc : PCall P f qs (· = .fr e 1 (xs.map rep))) (hrep : ∀ x, rep x = .u (enc x))
    (h : ∀ q' H', ownL e 1 rep H' id q' xs → (∀ j, j ≠ id → H' j = H j) → PL P W n ops l (F.put (some d) q') H' K) : PL P W n ops (o :: l) F H K := by
  have h1 : ∀ x, (rep x).cells = [rep x] := fun x => by rw [hrep]; rfl
  refine PL.pe hg (PE.callF (id := id) hd hdn ho (by rw [target_func, ha]) hf hn hc (fun p hp => ?_) ?_)
  · rw [flat1 h1] at hp
    obtain ⟨z, _, rfl⟩ := List.mem_map.1 hp
    rw [hrep]; exact .u _
  · rw [hd]
    refine h _ _ ?_ fun j hj => by simp [PHeap.set, hj]
    have hb : (H.set id ⟨(H id).ver + 1, some (.row e 1 (xs.map rep).length ((xs.map rep).flatMap PV.cells))⟩) id = ⟨(H id).ver + 1, some (.row e 1 (xs.map rep).length ((xs.map rep).flatMap PV.cells))⟩ := by simp [PHeap.set]
    rw [List.length_map] at hb
    unfold ownL
    rw [List.length_map]
    exact OwnS.row (k := 1) hb (by rw [flat1 h1]; simp)
end

def g_ref07_Check (l : List Rx) : G Int := G.pure (checkL l)
theorem g_ref07_Check_w {nn : Nat} {l : List Rx} {r : Int} (h : g_ref07_Check l nn = some r) : PCall Try.prog 6 [slX l] (· = I r) := by cases h; exact ref7Check_ok l
def sl_slX (l : List (List Rx)) : PV := .sl 1 (l.map slX)
theorem sl_slX_noP (l : List (List Rx)) : NoP (sl_slX l) := .sl _ _ fun c hc => by obtain ⟨z, _, rfl⟩ := List.mem_map.1 hc; exact slX_noP _
def manyX (k : Int) : List (List Rx) → Option (List Rx)
  | [a, b] => guardO (a.length ≤ 1000 ∧ b.length ≤ 1000) (a ++ b ++ [⟨k, 0, 0, 0, 0⟩])
  | _ => none
def g_ref07_Cat (l : List (List Rx)) : G (List Rx) := G.lift (manyX 3 l)
theorem g_ref07_Cat_w {nn : Nat} {l : List (List Rx)} {r : List Rx} (h : g_ref07_Cat l nn = some r) : PCall Try.prog 8 [sl_slX l] (· = slX r) := by
  have h : manyX 3 l = some r := h
  match l, h with
  | [a, b], h => obtain ⟨h1, rfl⟩ := guardO_some h; exact Cat_ok a b h1.1 h1.2
def g_ref07_Alt (l : List (List Rx)) : G (List Rx) := G.lift (manyX 4 l)
theorem g_ref07_Alt_w {nn : Nat} {l : List (List Rx)} {r : List Rx} (h : g_ref07_Alt l nn = some r) : PCall Try.prog 9 [sl_slX l] (· = slX r) := by
  have h : manyX 4 l = some r := h
  match l, h with
  | [a, b], h => obtain ⟨h1, rfl⟩ := guardO_some h; exact Alt_ok a b h1.1 h1.2
def g_spot_Sets (l : List Rx) : G (List Rx) := G.pure (spSets l)
theorem g_spot_Sets_w {nn : Nat} {l r : List Rx} (h : g_spot_Sets l nn = some r) : PCall Try.prog 10 [slX l] (· = slS r) := by cases h; exact Sets_ok l
def g_spot_Last (l : List Rx) : G (List Int) := G.pure (spLast l)
theorem g_spot_Last_w {nn : Nat} {l : List Rx} {r : List Int} (h : g_spot_Last l nn = some r) : PCall Try.prog 11 [slX l] (· = slI r) := by cases h; exact Last_ok l
def g_spot_First (l : List Rx) : G (List Int) := G.pure (spFirst l)
theorem g_spot_First_w {nn : Nat} {l : List Rx} {r : List Int} (h : g_spot_First l nn = some r) : PCall Try.prog 12 [slX l] (· = slI r) := by cases h; exact First_ok l
theorem g_spot_First_f {nn : Nat} {l : List Rx} {r : List Int} (h : g_spot_First l nn = some r) : PCall Try.prog 12 [slX l] (· = .fr 3 1 (r.map I)) := by cases h; exact FirstF_ok l
def g_spot_Follow (l : List Rx) (i : Int) : G (List Int) := G.pure (spFollow l i)
theorem g_spot_Follow_w {nn : Nat} {l : List Rx} {i : Int} {r : List Int} (h : g_spot_Follow l i nn = some r) : PCall Try.prog 13 [slX l, I i] (· = slI r) := by cases h; exact Follow_ok l i
def g_spot_Free (l : List Rx) : G Bool := G.pure (spFree l)
theorem g_spot_Free_w {nn : Nat} {l : List Rx} {r : Bool} (h : g_spot_Free l nn = some r) : PCall Try.prog 16 [slX l] (· = B r) := by cases h; exact Free_ok l
def g_ref10_Has (l : List Int) (n : Int) : G Bool := G.lift (guardO (l.length ≤ 4000000) (decide (n ∈ l)))
theorem g_ref10_Has_w {nn : Nat} {l : List Int} {n : Int} {r : Bool} (h : g_ref10_Has l n nn = some r) : PCall Try.prog 14 [slI l, I n] (· = B r) := by
  obtain ⟨h1, rfl⟩ := guardO_some (G.lift_some h); exact Has_ok l n h1
def g_ref09_SameInts (l m : List Int) : G Bool := G.lift (guardO (l.length ≤ 4000000 ∧ m.length ≤ 4000000) (decide (l = m)))
theorem g_ref09_SameInts_w {nn : Nat} {l m : List Int} {r : Bool} (h : g_ref09_SameInts l m nn = some r) : PCall Try.prog 15 [slI l, slI m] (· = B r) := by
  obtain ⟨h1, rfl⟩ := guardO_some (G.lift_some h); exact sameInts_ok l m h1.1 h1.2
def g_law10_knows : G Bool := G.pure true
theorem g_law10_knows_w {nn : Nat} {r : Bool} (h : g_law10_knows nn = some r) : PCall Try.prog 7 [] (· = B r) := by cases h; exact knows10_ok
end Go.Proofs.Ythcckhpogmlgjaa

/-
  Plain code of functions of the program, and the proofs that they answer as it does. Printed by gen.py.
-/
namespace Go.Proofs.Ythcckhpogmlgjaa
open Go Go.RowKit L
set_option linter.unusedVariables false
set_option linter.unusedSimpArgs false



/-- facsimile/facsimilelaw10.SpotBehind -/
def g_law10_SpotBehind (a0 : (List Rx)) (a1 : (List Rx)) : G Bool :=
  G.bind (G.cond (!(decide (60 < (w64 ((a0.length : Int) + (a1.length : Int)))))) (g_ref07_Check a0) (G.pure 0)) fun x4 => G.bind (G.cond (!((decide (60 < (w64 ((a0.length : Int) + (a1.length : Int))))) || (decide (¬ x4 = 0)))) (g_ref07_Check a1) (G.pure 0)) fun x5 => G.cond (((decide (60 < (w64 ((a0.length : Int) + (a1.length : Int))))) || (decide (¬ x4 = 0))) || (decide (¬ x5 = 0))) (G.bind (g_law10_knows) fun x8 => G.pure x8) (G.bind (g_ref07_Cat ([a0, a1] : List (List Rx))) fun x10 => G.bind (g_ref07_Alt ([a0, a1] : List (List Rx))) fun x12 => G.bind (g_spot_Sets a0) fun x14 => G.bind (g_spot_Last a0) fun x16 => G.bind (g_spot_First a1) fun x17 => G.bind (G.loop (σ := Int) (α := Unit ⊕ Bool) (fun x21 => G.cond (decide (x21 < (x16.length : Int))) (G.bind (G.lift (idx x16 x21)) fun x32 => G.bind (g_spot_Follow x10 x32) fun x33 => G.bind (G.loop (σ := Int) (α := Unit ⊕ Bool) (fun x36 => G.cond (decide (x36 < (x17.length : Int))) (G.bind (G.lift (idx x17 x36)) fun x47 => G.bind (g_ref10_Has x33 (w64 (x47 + (x14.length : Int)))) fun x48 => G.cond (!x48) (G.pure (.inr (.inr false))) (G.pure (.inl (w64 (x36 + 1))))) (G.pure (.inr (.inl ())))) 0) fun o => match o with | .inl () => G.pure (.inl (w64 (x21 + 1))) | .inr r51 => G.pure (.inr (.inr r51))) (G.pure (.inr (.inl ())))) 0) fun o => match o with | .inl () => G.bind (g_spot_First a0) fun x108 => G.bind (G.loop (σ := (Int × (List Int))) (α := (List Int)) (fun (x116, x117) => G.cond (decide (x116 < (x17.length : Int))) (G.bind (G.lift (idx x17 x116)) fun x128 => G.bind (G.lift (app 8 x117 ([(w64 (x128 + (x14.length : Int)))] : List Int))) fun x129 => G.pure (.inl ((w64 (x116 + 1)), x129))) (G.pure (.inr x117))) (0, x108)) fun x145 => G.bind (g_spot_Sets x10) fun x149 => G.bind (g_spot_Sets a1) fun x150 => G.bind (G.cond (decide ((x149.length : Int) = (w64 ((x14.length : Int) + (x150.length : Int))))) (g_spot_First x12) (G.pure [])) fun x151 => G.bind (G.cond (decide ((x149.length : Int) = (w64 ((x14.length : Int) + (x150.length : Int))))) (g_ref09_SameInts x151 x145) (G.pure false)) fun x152 => G.bind (G.cond ((decide ((x149.length : Int) = (w64 ((x14.length : Int) + (x150.length : Int))))) && x152) (g_spot_Free x10) (G.pure false)) fun x153 => G.bind (G.cond ((decide ((x149.length : Int) = (w64 ((x14.length : Int) + (x150.length : Int))))) && x152) (g_spot_Free a0) (G.pure false)) fun x154 => G.bind (G.cond (((decide ((x149.length : Int) = (w64 ((x14.length : Int) + (x150.length : Int))))) && x152) && x154) (g_spot_Free a1) (G.pure false)) fun x155 => G.bind (G.cond (((decide ((x149.length : Int) = (w64 ((x14.length : Int) + (x150.length : Int))))) && x152) && (x153 == (x154 && x155))) (g_spot_Free x12) (G.pure false)) fun x156 => G.bind (G.cond (((decide ((x149.length : Int) = (w64 ((x14.length : Int) + (x150.length : Int))))) && x152) && (x153 == (x154 && x155))) (g_spot_Free a0) (G.pure false)) fun x157 => G.bind (G.cond ((((decide ((x149.length : Int) = (w64 ((x14.length : Int) + (x150.length : Int))))) && x152) && (x153 == (x154 && x155))) && (!x157)) (g_spot_Free a1) (G.pure false)) fun x158 => G.bind (G.cond ((((decide ((x149.length : Int) = (w64 ((x14.length : Int) + (x150.length : Int))))) && x152) && (x153 == (x154 && x155))) && (x156 == (x157 || x158))) (g_law10_knows) (G.pure false)) fun x159 => G.pure (((((decide ((x149.length : Int) = (w64 ((x14.length : Int) + (x150.length : Int))))) && x152) && (x153 == (x154 && x155))) && (x156 == (x157 || x158))) && x159) | .inr r161 => G.pure r161)
set_option maxRecDepth 10000 in
set_option maxHeartbeats 4000000 in
theorem g_law10_SpotBehind_w {nn : Nat} {a0 : (List Rx)} {a1 : (List Rx)} {r : Bool} (h0 : g_law10_SpotBehind a0 a1 nn = some r) : PCall Try.prog 3 [slX a0, slX a1] (· = B r) := by
  unfold g_law10_SpotBehind at h0
  refine PCall.intro' Try.func3 rfl Try.ntmps3 (by simp) fun W => ?_
  refine PC.absF (fun F => F 0 = (slX a0) ∧ F 1 = (slX a1)) ⟨rfl, rfl⟩ ?_
  intro F hI
  obtain ⟨f0, f1⟩ := hI
  generalize PHeap.empty = H
  refine PC.seq fun K1 hK1 => ?_
  refine PC.region ?_
  refine PL.q (p := (B false)) rfl (dst_of (by decide)) (st_as (show _ = (B false) from rfl)) ?_
  refine PL.nil ?_
  refine hK1 _ _ ?_
  refine PC.absF (fun F => F 0 = (slX a0) ∧ F 1 = (slX a1)) ⟨f0, f1⟩ ?_
  intro F hI
  obtain ⟨f0, f1⟩ := hI
  refine PC.seq fun K2 hK2 => ?_
  refine PC.seq fun K3 hK3 => ?_
  refine PC.region ?_
  refine PL.q (p := (slX a0)) rfl (dst_of (by decide)) (st_mv f0) ?_
  refine PL.q (p := (I (a0.length : Int))) rfl (dst_of (by decide)) (st_len (rep := encX) (xs := a0) isSlice_22 (show _ = (slX a0) from rfl)) ?_
  refine PL.q (p := (slX a1)) rfl (dst_of (by decide)) (st_mv f1) ?_
  refine PL.q (p := (I (a1.length : Int))) rfl (dst_of (by decide)) (st_len (rep := encX) (xs := a1) isSlice_22 (show _ = (slX a1) from rfl)) ?_
  refine PL.q (p := (I (w64 ((a0.length : Int) + (a1.length : Int))))) rfl (dst_of (by decide)) (st_bin rfl (show _ = (I (a0.length : Int)) from rfl) (show _ = (I (a1.length : Int)) from rfl) b_addw) ?_
  refine PL.q (p := (B (decide (60 < (w64 ((a0.length : Int) + (a1.length : Int))))))) rfl (dst_of (by decide)) (st_bin rfl (show _ = (I (w64 ((a0.length : Int) + (a1.length : Int)))) from rfl) (show _ = (I 60) from rfl) binP_gtr) ?_
  refine PL.q (p := (B (decide (60 < (w64 ((a0.length : Int) + (a1.length : Int))))))) rfl (dst_of (by decide)) (st_mv (show _ = (B (decide (60 < (w64 ((a0.length : Int) + (a1.length : Int)))))) from rfl)) ?_
  refine PL.gq (p := (slX a0)) (c := true) (c' := (!(decide (60 < (w64 ((a0.length : Int) + (a1.length : Int))))))) rfl rfl (show _ = (B (decide (60 < (w64 ((a0.length : Int) + (a1.length : Int)))))) from rfl) (gc_f _) (dst_of (by decide)) (fun hb => pstep_sound (st_mv f0)) ?_
  obtain ⟨x4, hx4, h0⟩ := G.bind_some h0
  refine PL.gq (p := (I x4)) (c := true) (c' := (!(decide (60 < (w64 ((a0.length : Int) + (a1.length : Int))))))) rfl rfl (show _ = (B (decide (60 < (w64 ((a0.length : Int) + (a1.length : Int)))))) from rfl) (gc_f _) (dst_of (by decide)) (fun hb => callq (by kernel_rfl) (am (gvp hb (show _ = gv (!(decide (60 < (w64 ((a0.length : Int) + (a1.length : Int)))))) (slX a0) from rfl)) (am0)) (nopc (slX_noP _) (nop0)) (g_ref07_Check_w (G.cond_pos hx4 hb))) ?_
  refine PL.gq (p := (B (decide (¬ x4 = 0)))) (c := true) (c' := (!(decide (60 < (w64 ((a0.length : Int) + (a1.length : Int))))))) rfl rfl (show _ = (B (decide (60 < (w64 ((a0.length : Int) + (a1.length : Int)))))) from rfl) (gc_f _) (dst_of (by decide)) (fun hb => pstep_sound (st_bin rfl (gvp hb (show _ = gv (!(decide (60 < (w64 ((a0.length : Int) + (a1.length : Int)))))) (I x4) from rfl)) (show _ = (I 0) from rfl) binP_neq)) ?_
  refine PL.q (p := (B ((decide (60 < (w64 ((a0.length : Int) + (a1.length : Int))))) || (decide (¬ x4 = 0))))) rfl (dst_of (by decide)) (st_or (show _ = (B (decide (60 < (w64 ((a0.length : Int) + (a1.length : Int)))))) from rfl) rfl (show _ = gv (!(decide (60 < (w64 ((a0.length : Int) + (a1.length : Int)))))) (B (decide (¬ x4 = 0))) from rfl)) ?_
  refine PL.q (p := (B ((decide (60 < (w64 ((a0.length : Int) + (a1.length : Int))))) || (decide (¬ x4 = 0))))) rfl (dst_of (by decide)) (st_mv (show _ = (B ((decide (60 < (w64 ((a0.length : Int) + (a1.length : Int))))) || (decide (¬ x4 = 0)))) from rfl)) ?_
  refine PL.gq (p := (slX a1)) (c := true) (c' := (!((decide (60 < (w64 ((a0.length : Int) + (a1.length : Int))))) || (decide (¬ x4 = 0))))) rfl rfl (show _ = (B ((decide (60 < (w64 ((a0.length : Int) + (a1.length : Int))))) || (decide (¬ x4 = 0)))) from rfl) (gc_f _) (dst_of (by decide)) (fun hb => pstep_sound (st_mv f1)) ?_
  obtain ⟨x5, hx5, h0⟩ := G.bind_some h0
  refine PL.gq (p := (I x5)) (c := true) (c' := (!((decide (60 < (w64 ((a0.length : Int) + (a1.length : Int))))) || (decide (¬ x4 = 0))))) rfl rfl (show _ = (B ((decide (60 < (w64 ((a0.length : Int) + (a1.length : Int))))) || (decide (¬ x4 = 0)))) from rfl) (gc_f _) (dst_of (by decide)) (fun hb => callq (by kernel_rfl) (am (gvp hb (show _ = gv (!((decide (60 < (w64 ((a0.length : Int) + (a1.length : Int))))) || (decide (¬ x4 = 0)))) (slX a1) from rfl)) (am0)) (nopc (slX_noP _) (nop0)) (g_ref07_Check_w (G.cond_pos hx5 hb))) ?_
  refine PL.gq (p := (B (decide (¬ x5 = 0)))) (c := true) (c' := (!((decide (60 < (w64 ((a0.length : Int) + (a1.length : Int))))) || (decide (¬ x4 = 0))))) rfl rfl (show _ = (B ((decide (60 < (w64 ((a0.length : Int) + (a1.length : Int))))) || (decide (¬ x4 = 0)))) from rfl) (gc_f _) (dst_of (by decide)) (fun hb => pstep_sound (st_bin rfl (gvp hb (show _ = gv (!((decide (60 < (w64 ((a0.length : Int) + (a1.length : Int))))) || (decide (¬ x4 = 0)))) (I x5) from rfl)) (show _ = (I 0) from rfl) binP_neq)) ?_
  refine PL.q (p := (B (((decide (60 < (w64 ((a0.length : Int) + (a1.length : Int))))) || (decide (¬ x4 = 0))) || (decide (¬ x5 = 0))))) rfl (dst_of (by decide)) (st_or (show _ = (B ((decide (60 < (w64 ((a0.length : Int) + (a1.length : Int))))) || (decide (¬ x4 = 0)))) from rfl) rfl (show _ = gv (!((decide (60 < (w64 ((a0.length : Int) + (a1.length : Int))))) || (decide (¬ x4 = 0)))) (B (decide (¬ x5 = 0))) from rfl)) ?_
  refine PL.nil ?_
  refine hK3 _ _ ?_
  refine PC.absF (fun F => F 0 = (slX a0) ∧ F 1 = (slX a1) ∧ F 30 = (B (((decide (60 < (w64 ((a0.length : Int) + (a1.length : Int))))) || (decide (¬ x4 = 0))) || (decide (¬ x5 = 0))))) ⟨f0, f1, (show _ = (B (((decide (60 < (w64 ((a0.length : Int) + (a1.length : Int))))) || (decide (¬ x4 = 0))) || (decide (¬ x5 = 0)))) from rfl)⟩ ?_
  intro F hI
  obtain ⟨f0, f1, f30⟩ := hI
  rcases G.cond_some h0 with ⟨hb6, h0⟩ | ⟨hb6, h0⟩
  · refine PC.condTb f30 hb6 ?_
    refine PC.seq fun K7 hK7 => ?_
    refine PC.region ?_
    obtain ⟨x8, hx8, h0⟩ := G.bind_some h0
    refine PL.qq (p := (B x8)) rfl (dst_of (by decide)) (callq (by kernel_rfl) (am0) (nop0) (g_law10_knows_w hx8)) ?_
    refine PL.q (p := (B x8)) rfl (dst_of (by decide)) (st_as (show _ = (B x8) from rfl)) ?_
    refine PL.nil ?_
    refine hK7 _ _ ?_
    refine PC.absF (fun F => F 4 = (B x8)) (show _ = (B x8) from rfl) ?_
    intro F hI
    have f4 := hI
    refine PC.ret ?_
    have h0 := G.pure_some h0
    subst h0
    exact fin (.inr rfl) (resT1 Try.results3 f4) (.u _)
  · refine PC.condFb f30 hb6 ?_
    refine PC.skip ?_
    refine hK2 _ _ ?_
    refine PC.absF (fun F => F 0 = (slX a0) ∧ F 1 = (slX a1)) ⟨f0, f1⟩ ?_
    intro F hI
    obtain ⟨f0, f1⟩ := hI
    refine PC.seq fun K9 hK9 => ?_
    refine PC.region ?_
    refine PL.q (p := (slX a0)) rfl (dst_of (by decide)) (st_mv f0) ?_
    refine PL.q (p := (slX a1)) rfl (dst_of (by decide)) (st_mv f1) ?_
    refine PL.qq (p := (sl_slX ([a0, a1] : List (List Rx)))) rfl (dst_of (by decide)) (lit_q (rep := slX) (xs := [a0, a1]) selem_27 rfl (by decide) (bm (show _ = (slX a0) from rfl) (bm (show _ = (slX a1) from rfl) (bm0))) rfl rfl) ?_
    obtain ⟨x10, hx10, h0⟩ := G.bind_some h0
    refine PL.qq (p := (slX x10)) rfl (dst_of (by decide)) (callq (by kernel_rfl) (am (show _ = (sl_slX ([a0, a1] : List (List Rx))) from rfl) (am0)) (nopc (sl_slX_noP _) (nop0)) (g_ref07_Cat_w hx10)) ?_
    refine PL.q (p := (slX x10)) rfl (dst_of (by decide)) (st_as (show _ = (slX x10) from rfl)) ?_
    refine PL.nil ?_
    refine hK9 _ _ ?_
    refine PC.absF (fun F => F 0 = (slX a0) ∧ F 1 = (slX a1) ∧ F 5 = (slX x10)) ⟨f0, f1, (show _ = (slX x10) from rfl)⟩ ?_
    intro F hI
    obtain ⟨f0, f1, f5⟩ := hI
    refine PC.seq fun K11 hK11 => ?_
    refine PC.region ?_
    refine PL.q (p := (slX a0)) rfl (dst_of (by decide)) (st_mv f0) ?_
    refine PL.q (p := (slX a1)) rfl (dst_of (by decide)) (st_mv f1) ?_
    refine PL.qq (p := (sl_slX ([a0, a1] : List (List Rx)))) rfl (dst_of (by decide)) (lit_q (rep := slX) (xs := [a0, a1]) selem_27 rfl (by decide) (bm (show _ = (slX a0) from rfl) (bm (show _ = (slX a1) from rfl) (bm0))) rfl rfl) ?_
    obtain ⟨x12, hx12, h0⟩ := G.bind_some h0
    refine PL.qq (p := (slX x12)) rfl (dst_of (by decide)) (callq (by kernel_rfl) (am (show _ = (sl_slX ([a0, a1] : List (List Rx))) from rfl) (am0)) (nopc (sl_slX_noP _) (nop0)) (g_ref07_Alt_w hx12)) ?_
    refine PL.q (p := (slX x12)) rfl (dst_of (by decide)) (st_as (show _ = (slX x12) from rfl)) ?_
    refine PL.nil ?_
    refine hK11 _ _ ?_
    refine PC.absF (fun F => F 0 = (slX a0) ∧ F 1 = (slX a1) ∧ F 5 = (slX x10) ∧ F 6 = (slX x12)) ⟨f0, f1, f5, (show _ = (slX x12) from rfl)⟩ ?_
    intro F hI
    obtain ⟨f0, f1, f5, f6⟩ := hI
    refine PC.seq fun K13 hK13 => ?_
    refine PC.region ?_
    refine PL.q (p := (slX a0)) rfl (dst_of (by decide)) (st_mv f0) ?_
    obtain ⟨x14, hx14, h0⟩ := G.bind_some h0
    refine PL.qq (p := (slS x14)) rfl (dst_of (by decide)) (callq (by kernel_rfl) (am (show _ = (slX a0) from rfl) (am0)) (nopc (slX_noP _) (nop0)) (g_spot_Sets_w hx14)) ?_
    refine PL.q (p := (I (x14.length : Int))) rfl (dst_of (by decide)) (st_len (rep := encS) (xs := x14) isSlice_28 (show _ = (slS x14) from rfl)) ?_
    refine PL.q (p := (I (x14.length : Int))) rfl (dst_of (by decide)) (st_as (show _ = (I (x14.length : Int)) from rfl)) ?_
    refine PL.nil ?_
    refine hK13 _ _ ?_
    refine PC.absF (fun F => F 0 = (slX a0) ∧ F 1 = (slX a1) ∧ F 5 = (slX x10) ∧ F 6 = (slX x12) ∧ F 7 = (I (x14.length : Int))) ⟨f0, f1, f5, f6, (show _ = (I (x14.length : Int)) from rfl)⟩ ?_
    intro F hI
    obtain ⟨f0, f1, f5, f6, f7⟩ := hI
    refine PC.seq fun K15 hK15 => ?_
    refine PC.region ?_
    refine PL.q (p := (slX a0)) rfl (dst_of (by decide)) (st_mv f0) ?_
    obtain ⟨x16, hx16, h0⟩ := G.bind_some h0
    refine PL.qq (p := (slI x16)) rfl (dst_of (by decide)) (callq (by kernel_rfl) (am (show _ = (slX a0) from rfl) (am0)) (nopc (slX_noP _) (nop0)) (g_spot_Last_w hx16)) ?_
    refine PL.q (p := (slX a1)) rfl (dst_of (by decide)) (st_mv f1) ?_
    obtain ⟨x17, hx17, h0⟩ := G.bind_some h0
    refine PL.qq (p := (slI x17)) rfl (dst_of (by decide)) (callq (by kernel_rfl) (am (show _ = (slX a1) from rfl) (am0)) (nopc (slX_noP _) (nop0)) (g_spot_First_w hx17)) ?_
    refine PL.q (p := (slI x16)) rfl (dst_of (by decide)) (st_as (show _ = (slI x16) from rfl)) ?_
    refine PL.q (p := (slI x17)) rfl (dst_of (by decide)) (st_as (show _ = (slI x17) from rfl)) ?_
    refine PL.nil ?_
    refine hK15 _ _ ?_
    refine PC.absF (fun F => F 0 = (slX a0) ∧ F 1 = (slX a1) ∧ F 5 = (slX x10) ∧ F 6 = (slX x12) ∧ F 7 = (I (x14.length : Int)) ∧ F 8 = (slI x16) ∧ F 9 = (slI x17)) ⟨f0, f1, f5, f6, f7, (show _ = (slI x16) from rfl), (show _ = (slI x17) from rfl)⟩ ?_
    intro F hI
    obtain ⟨f0, f1, f5, f6, f7, f8, f9⟩ := hI
    refine PC.seq fun K18 hK18 => ?_
    refine PC.seq fun K19 hK19 => ?_
    refine PC.region ?_
    refine PL.q (p := (I 0)) rfl (dst_of (by decide)) (st_as (show _ = (I 0) from rfl)) ?_
    refine PL.nil ?_
    refine hK19 _ _ ?_
    refine PC.absF (fun F => F 0 = (slX a0) ∧ F 1 = (slX a1) ∧ F 5 = (slX x10) ∧ F 6 = (slX x12) ∧ F 7 = (I (x14.length : Int)) ∧ F 8 = (slI x16) ∧ F 9 = (slI x17) ∧ F 10 = (I 0)) ⟨f0, f1, f5, f6, f7, f8, f9, (show _ = (I 0) from rfl)⟩ ?_
    intro F hI
    obtain ⟨f0, f1, f5, f6, f7, f8, f9, f10⟩ := hI
    refine PC.block ?_
    obtain ⟨o22, ho22, h0⟩ := G.bind_some h0
    obtain ⟨B23, hB23, ho22⟩ := G.loop_some ho22
    refine PC.loop (fun m26 F H => ∃ s162 : Int, loopF B23 m26 s162 = some o22 ∧ F 0 = (slX a0) ∧ F 1 = (slX a1) ∧ F 5 = (slX x10) ∧ F 6 = (slX x12) ∧ F 7 = (I (x14.length : Int)) ∧ F 8 = (slI x16) ∧ F 9 = (slI x17) ∧ F 10 = (I s162)) (m := nn) ⟨0, ho22, f0, f1, f5, f6, f7, f8, f9, f10⟩ fun m26 F H hI => ?_
    obtain ⟨x21, ho22, f0, f1, f5, f6, f7, f8, f9, f10⟩ := hI
    obtain ⟨m26, rfl, st24, hs25, ho22⟩ := loopF_some ho22
    rw [hB23] at hs25
    try dsimp only at hs25
    refine PC.seq fun K27 hK27 => ?_
    refine PC.seq fun K28 hK28 => ?_
    refine PC.region ?_
    refine PL.q (p := (I x21)) rfl (dst_of (by decide)) (st_mv f10) ?_
    refine PL.q (p := (slI x16)) rfl (dst_of (by decide)) (st_mv f8) ?_
    refine PL.q (p := (I (x16.length : Int))) rfl (dst_of (by decide)) (st_len (rep := I) (xs := x16) isSlice_30 (show _ = (slI x16) from rfl)) ?_
    refine PL.q (p := (B (decide (x21 < (x16.length : Int))))) rfl (dst_of (by decide)) (st_bin rfl (show _ = (I x21) from rfl) (show _ = (I (x16.length : Int)) from rfl) binP_lss) ?_
    refine PL.nil ?_
    refine hK28 _ _ ?_
    refine PC.absF (fun F => F 0 = (slX a0) ∧ F 1 = (slX a1) ∧ F 5 = (slX x10) ∧ F 6 = (slX x12) ∧ F 7 = (I (x14.length : Int)) ∧ F 8 = (slI x16) ∧ F 9 = (slI x17) ∧ F 10 = (I x21) ∧ F 50 = (B (decide (x21 < (x16.length : Int))))) ⟨f0, f1, f5, f6, f7, f8, f9, f10, (show _ = (B (decide (x21 < (x16.length : Int)))) from rfl)⟩ ?_
    intro F hI
    obtain ⟨f0, f1, f5, f6, f7, f8, f9, f10, f50⟩ := hI
    rcases G.cond_some hs25 with ⟨hb29, hs25⟩ | ⟨hb29, hs25⟩
    · refine PC.condTb f50 hb29 ?_
      refine PC.skip ?_
      refine hK27 _ _ ?_
      refine PC.absF (fun F => F 0 = (slX a0) ∧ F 1 = (slX a1) ∧ F 5 = (slX x10) ∧ F 6 = (slX x12) ∧ F 7 = (I (x14.length : Int)) ∧ F 8 = (slI x16) ∧ F 9 = (slI x17) ∧ F 10 = (I x21)) ⟨f0, f1, f5, f6, f7, f8, f9, f10⟩ ?_
      intro F hI
      obtain ⟨f0, f1, f5, f6, f7, f8, f9, f10⟩ := hI
      refine PC.seq fun K30 hK30 => ?_
      refine PC.block ?_
      refine PC.seq fun K31 hK31 => ?_
      refine PC.region ?_
      refine PL.q (p := (slX x10)) rfl (dst_of (by decide)) (st_mv f5) ?_
      refine PL.q (p := (slI x16)) rfl (dst_of (by decide)) (st_mv f8) ?_
      refine PL.q (p := (I x21)) rfl (dst_of (by decide)) (st_mv f10) ?_
      obtain ⟨x32, hx32, hs25⟩ := G.bind_some hs25
      refine PL.q (p := (PV.rp (I x32).cells)) rfl (dst_of (by decide)) (st_idxA (rep := I) (xs := x16) esz_30 (show _ = (slI x16) from rfl) (show _ = (I x21) from rfl) hx32) ?_
      refine PL.q (p := (I x32)) rfl (dst_of (by decide)) (st_ld1 asz_3 (show _ = (PV.rp (I x32).cells) from rfl)) ?_
      obtain ⟨x33, hx33, hs25⟩ := G.bind_some hs25
      refine PL.qq (p := (slI x33)) rfl (dst_of (by decide)) (callq (by kernel_rfl) (am (show _ = (slX x10) from rfl) (am (show _ = (I x32) from rfl) (am0))) (nopc (slX_noP _) (nopc (.u _) (nop0))) (g_spot_Follow_w hx33)) ?_
      refine PL.q (p := (slI x33)) rfl (dst_of (by decide)) (st_as (show _ = (slI x33) from rfl)) ?_
      refine PL.nil ?_
      refine hK31 _ _ ?_
      refine PC.absF (fun F => F 0 = (slX a0) ∧ F 1 = (slX a1) ∧ F 5 = (slX x10) ∧ F 6 = (slX x12) ∧ F 7 = (I (x14.length : Int)) ∧ F 8 = (slI x16) ∧ F 9 = (slI x17) ∧ F 10 = (I x21) ∧ F 11 = (slI x33)) ⟨f0, f1, f5, f6, f7, f8, f9, f10, (show _ = (slI x33) from rfl)⟩ ?_
      intro F hI
      obtain ⟨f0, f1, f5, f6, f7, f8, f9, f10, f11⟩ := hI
      refine PC.seq fun K34 hK34 => ?_
      refine PC.region ?_
      refine PL.q (p := (I 0)) rfl (dst_of (by decide)) (st_as (show _ = (I 0) from rfl)) ?_
      refine PL.nil ?_
      refine hK34 _ _ ?_
      refine PC.absF (fun F => F 0 = (slX a0) ∧ F 1 = (slX a1) ∧ F 5 = (slX x10) ∧ F 6 = (slX x12) ∧ F 7 = (I (x14.length : Int)) ∧ F 8 = (slI x16) ∧ F 9 = (slI x17) ∧ F 10 = (I x21) ∧ F 11 = (slI x33) ∧ F 12 = (I 0)) ⟨f0, f1, f5, f6, f7, f8, f9, f10, f11, (show _ = (I 0) from rfl)⟩ ?_
      intro F hI
      obtain ⟨f0, f1, f5, f6, f7, f8, f9, f10, f11, f12⟩ := hI
      refine PC.block ?_
      obtain ⟨o37, ho37, hs25⟩ := G.bind_some hs25
      obtain ⟨B38, hB38, ho37⟩ := G.loop_some ho37
      refine PC.loop (fun m41 F H => ∃ s52 : Int, loopF B38 m41 s52 = some o37 ∧ F 0 = (slX a0) ∧ F 1 = (slX a1) ∧ F 5 = (slX x10) ∧ F 6 = (slX x12) ∧ F 7 = (I (x14.length : Int)) ∧ F 8 = (slI x16) ∧ F 9 = (slI x17) ∧ F 10 = (I x21) ∧ F 11 = (slI x33) ∧ F 12 = (I s52)) (m := nn) ⟨0, ho37, f0, f1, f5, f6, f7, f8, f9, f10, f11, f12⟩ fun m41 F H hI => ?_
      obtain ⟨x36, ho37, f0, f1, f5, f6, f7, f8, f9, f10, f11, f12⟩ := hI
      obtain ⟨m41, rfl, st39, hs40, ho37⟩ := loopF_some ho37
      rw [hB38] at hs40
      try dsimp only at hs40
      refine PC.seq fun K42 hK42 => ?_
      refine PC.seq fun K43 hK43 => ?_
      refine PC.region ?_
      refine PL.q (p := (I x36)) rfl (dst_of (by decide)) (st_mv f12) ?_
      refine PL.q (p := (slI x17)) rfl (dst_of (by decide)) (st_mv f9) ?_
      refine PL.q (p := (I (x17.length : Int))) rfl (dst_of (by decide)) (st_len (rep := I) (xs := x17) isSlice_30 (show _ = (slI x17) from rfl)) ?_
      refine PL.q (p := (B (decide (x36 < (x17.length : Int))))) rfl (dst_of (by decide)) (st_bin rfl (show _ = (I x36) from rfl) (show _ = (I (x17.length : Int)) from rfl) binP_lss) ?_
      refine PL.nil ?_
      refine hK43 _ _ ?_
      refine PC.absF (fun F => F 0 = (slX a0) ∧ F 1 = (slX a1) ∧ F 5 = (slX x10) ∧ F 6 = (slX x12) ∧ F 7 = (I (x14.length : Int)) ∧ F 8 = (slI x16) ∧ F 9 = (slI x17) ∧ F 10 = (I x21) ∧ F 11 = (slI x33) ∧ F 12 = (I x36) ∧ F 62 = (B (decide (x36 < (x17.length : Int))))) ⟨f0, f1, f5, f6, f7, f8, f9, f10, f11, f12, (show _ = (B (decide (x36 < (x17.length : Int)))) from rfl)⟩ ?_
      intro F hI
      obtain ⟨f0, f1, f5, f6, f7, f8, f9, f10, f11, f12, f62⟩ := hI
      rcases G.cond_some hs40 with ⟨hb44, hs40⟩ | ⟨hb44, hs40⟩
      · refine PC.condTb f62 hb44 ?_
        refine PC.skip ?_
        refine hK42 _ _ ?_
        refine PC.absF (fun F => F 0 = (slX a0) ∧ F 1 = (slX a1) ∧ F 5 = (slX x10) ∧ F 6 = (slX x12) ∧ F 7 = (I (x14.length : Int)) ∧ F 8 = (slI x16) ∧ F 9 = (slI x17) ∧ F 10 = (I x21) ∧ F 11 = (slI x33) ∧ F 12 = (I x36)) ⟨f0, f1, f5, f6, f7, f8, f9, f10, f11, f12⟩ ?_
        intro F hI
        obtain ⟨f0, f1, f5, f6, f7, f8, f9, f10, f11, f12⟩ := hI
        refine PC.seq fun K45 hK45 => ?_
        refine PC.block ?_
        refine PC.seq fun K46 hK46 => ?_
        refine PC.region ?_
        refine PL.q (p := (slI x33)) rfl (dst_of (by decide)) (st_mv f11) ?_
        refine PL.q (p := (slI x17)) rfl (dst_of (by decide)) (st_mv f9) ?_
        refine PL.q (p := (I x36)) rfl (dst_of (by decide)) (st_mv f12) ?_
        obtain ⟨x47, hx47, hs40⟩ := G.bind_some hs40
        refine PL.q (p := (PV.rp (I x47).cells)) rfl (dst_of (by decide)) (st_idxA (rep := I) (xs := x17) esz_30 (show _ = (slI x17) from rfl) (show _ = (I x36) from rfl) hx47) ?_
        refine PL.q (p := (I x47)) rfl (dst_of (by decide)) (st_ld1 asz_3 (show _ = (PV.rp (I x47).cells) from rfl)) ?_
        refine PL.q (p := (I (x14.length : Int))) rfl (dst_of (by decide)) (st_mv f7) ?_
        refine PL.q (p := (I (w64 (x47 + (x14.length : Int))))) rfl (dst_of (by decide)) (st_bin rfl (show _ = (I x47) from rfl) (show _ = (I (x14.length : Int)) from rfl) b_addw) ?_
        obtain ⟨x48, hx48, hs40⟩ := G.bind_some hs40
        refine PL.qq (p := (B x48)) rfl (dst_of (by decide)) (callq (by kernel_rfl) (am (show _ = (slI x33) from rfl) (am (show _ = (I (w64 (x47 + (x14.length : Int)))) from rfl) (am0))) (nopc (noP_slI _) (nopc (.u _) (nop0))) (g_ref10_Has_w hx48)) ?_
        refine PL.q (p := (B (!x48))) rfl (dst_of (by decide)) (st_not (show _ = (B x48) from rfl)) ?_
        refine PL.nil ?_
        refine hK46 _ _ ?_
        refine PC.absF (fun F => F 0 = (slX a0) ∧ F 1 = (slX a1) ∧ F 5 = (slX x10) ∧ F 6 = (slX x12) ∧ F 7 = (I (x14.length : Int)) ∧ F 8 = (slI x16) ∧ F 9 = (slI x17) ∧ F 10 = (I x21) ∧ F 11 = (slI x33) ∧ F 12 = (I x36) ∧ F 73 = (B (!x48))) ⟨f0, f1, f5, f6, f7, f8, f9, f10, f11, f12, (show _ = (B (!x48)) from rfl)⟩ ?_
        intro F hI
        obtain ⟨f0, f1, f5, f6, f7, f8, f9, f10, f11, f12, f73⟩ := hI
        rcases G.cond_some hs40 with ⟨hb49, hs40⟩ | ⟨hb49, hs40⟩
        · refine PC.condTb f73 hb49 ?_
          refine PC.seq fun K50 hK50 => ?_
          refine PC.region ?_
          refine PL.q (p := (B false)) rfl (dst_of (by decide)) (st_as (show _ = (B false) from rfl)) ?_
          refine PL.nil ?_
          refine hK50 _ _ ?_
          refine PC.absF (fun F => F 4 = (B false)) (show _ = (B false) from rfl) ?_
          intro F hI
          have f4 := hI
          have hs40 := G.pure_some hs40
          subst hs40
          try dsimp only at ho37
          subst ho37
          try dsimp only at hs25
          have hs25 := G.pure_some hs25
          subst hs25
          try dsimp only at ho22
          subst ho22
          try dsimp only at h0
          refine PC.ret ?_
          have h0 := G.pure_some h0
          subst h0
          exact fin (.inr rfl) (resT1 Try.results3 f4) (.u _)
        · refine PC.condFb f73 hb49 ?_
          refine PC.skip ?_
          refine hK45 _ _ ?_
          refine PC.absF (fun F => F 0 = (slX a0) ∧ F 1 = (slX a1) ∧ F 5 = (slX x10) ∧ F 6 = (slX x12) ∧ F 7 = (I (x14.length : Int)) ∧ F 8 = (slI x16) ∧ F 9 = (slI x17) ∧ F 10 = (I x21) ∧ F 11 = (slI x33) ∧ F 12 = (I x36)) ⟨f0, f1, f5, f6, f7, f8, f9, f10, f11, f12⟩ ?_
          intro F hI
          obtain ⟨f0, f1, f5, f6, f7, f8, f9, f10, f11, f12⟩ := hI
          refine PC.region ?_
          refine PL.q (p := (I x36)) rfl (dst_of (by decide)) (st_mv f12) ?_
          refine PL.q (p := (I (w64 (x36 + 1)))) rfl (dst_of (by decide)) (st_bin rfl (show _ = (I x36) from rfl) (show _ = (I 1) from rfl) b_addw) ?_
          refine PL.q (p := (I (w64 (x36 + 1)))) rfl (dst_of (by decide)) (st_as (show _ = (I (w64 (x36 + 1))) from rfl)) ?_
          refine PL.nil ?_
          have hs40 := G.pure_some hs40
          subst hs40
          exact ⟨m41, Nat.lt_succ_self _, (w64 (x36 + 1)), ho37, f0, f1, f5, f6, f7, f8, f9, f10, f11, (show _ = (I (w64 (x36 + 1))) from rfl)⟩
      · refine PC.condFb f62 hb44 ?_
        refine PC.exit ?_
        have hs40 := G.pure_some hs40
        subst hs40
        try dsimp only at ho37
        subst ho37
        try dsimp only at hs25
        refine hK30 _ _ ?_
        refine PC.absF (fun F => F 0 = (slX a0) ∧ F 1 = (slX a1) ∧ F 5 = (slX x10) ∧ F 6 = (slX x12) ∧ F 7 = (I (x14.length : Int)) ∧ F 8 = (slI x16) ∧ F 9 = (slI x17) ∧ F 10 = (I x21)) ⟨f0, f1, f5, f6, f7, f8, f9, f10⟩ ?_
        intro F hI
        obtain ⟨f0, f1, f5, f6, f7, f8, f9, f10⟩ := hI
        refine PC.region ?_
        refine PL.q (p := (I x21)) rfl (dst_of (by decide)) (st_mv f10) ?_
        refine PL.q (p := (I (w64 (x21 + 1)))) rfl (dst_of (by decide)) (st_bin rfl (show _ = (I x21) from rfl) (show _ = (I 1) from rfl) b_addw) ?_
        refine PL.q (p := (I (w64 (x21 + 1)))) rfl (dst_of (by decide)) (st_as (show _ = (I (w64 (x21 + 1))) from rfl)) ?_
        refine PL.nil ?_
        have hs25 := G.pure_some hs25
        subst hs25
        exact ⟨m26, Nat.lt_succ_self _, (w64 (x21 + 1)), ho22, f0, f1, f5, f6, f7, f8, f9, (show _ = (I (w64 (x21 + 1))) from rfl)⟩
    · refine PC.condFb f50 hb29 ?_
      refine PC.exit ?_
      have hs25 := G.pure_some hs25
      subst hs25
      try dsimp only at ho22
      subst ho22
      try dsimp only at h0
      refine hK18 _ _ ?_
      refine PC.absF (fun F => F 0 = (slX a0) ∧ F 1 = (slX a1) ∧ F 5 = (slX x10) ∧ F 6 = (slX x12) ∧ F 7 = (I (x14.length : Int)) ∧ F 9 = (slI x17)) ⟨f0, f1, f5, f6, f7, f9⟩ ?_
      intro F hI
      obtain ⟨f0, f1, f5, f6, f7, f9⟩ := hI
      refine PC.seq fun K53 hK53 => ?_
      refine PC.region ?_
      refine PL.q (p := (slX a0)) rfl (dst_of (by decide)) (st_mv f0) ?_
      obtain ⟨x54, hx54, h0⟩ := G.bind_some h0
      refine PL.callG (rep := I) (enc := Value.int .i64) 113 rfl rfl rfl (by decide) (by kernel_rfl) (am (show _ = (slX a0) from rfl) (am0)) (nofc (noF_slX _) (nof0)) (g_spot_First_f hx54) (fun _ => rfl) fun q55 H o113 fz56 => ?_
      refine PL.q (p := q55) rfl (dst_of (by decide)) (st_as (show _ = q55 from rfl)) ?_
      refine PL.nil ?_
      refine hK53 _ _ ?_
      refine PC.absF (fun F => F 0 = (slX a0) ∧ F 1 = (slX a1) ∧ F 5 = (slX x10) ∧ F 6 = (slX x12) ∧ F 7 = (I (x14.length : Int)) ∧ F 9 = (slI x17) ∧ F 13 = q55) ⟨f0, f1, f5, f6, f7, f9, (show _ = q55 from rfl)⟩ ?_
      intro F hI
      obtain ⟨f0, f1, f5, f6, f7, f9, f13⟩ := hI
      refine PC.seq fun K57 hK57 => ?_
      refine PC.seq fun K58 hK58 => ?_
      refine PC.region ?_
      refine PL.q (p := (I 0)) rfl (dst_of (by decide)) (st_as (show _ = (I 0) from rfl)) ?_
      refine PL.nil ?_
      refine hK58 _ _ ?_
      refine PC.absF (fun F => F 0 = (slX a0) ∧ F 1 = (slX a1) ∧ F 5 = (slX x10) ∧ F 6 = (slX x12) ∧ F 7 = (I (x14.length : Int)) ∧ F 9 = (slI x17) ∧ F 13 = q55 ∧ F 14 = (I 0)) ⟨f0, f1, f5, f6, f7, f9, f13, (show _ = (I 0) from rfl)⟩ ?_
      intro F hI
      obtain ⟨f0, f1, f5, f6, f7, f9, f13, f14⟩ := hI
      refine PC.block ?_
      obtain ⟨o65, ho65, h0⟩ := G.bind_some h0
      obtain ⟨B66, hB66, ho65⟩ := G.loop_some ho65
      refine PC.loop (fun m69 F H => ∃ s106 : (Int × (List Int)), ∃ q64, loopF B66 m69 s106 = some o65 ∧ F 0 = (slX a0) ∧ F 1 = (slX a1) ∧ F 5 = (slX x10) ∧ F 6 = (slX x12) ∧ F 7 = (I (x14.length : Int)) ∧ F 9 = (slI x17) ∧ F 13 = q64 ∧ F 14 = (I s106.1) ∧ ownL 3 1 I H 113 q64 s106.2) (m := nn) ⟨(0, x54), q55, ho65, f0, f1, f5, f6, f7, f9, f13, f14, o113⟩ fun m69 F H hI => ?_
      obtain ⟨⟨x62, x63⟩, q64, ho65, f0, f1, f5, f6, f7, f9, f13, f14, o113⟩ := hI
      obtain ⟨m69, rfl, st67, hs68, ho65⟩ := loopF_some ho65
      rw [hB66] at hs68
      try dsimp only at hs68
      refine PC.seq fun K70 hK70 => ?_
      refine PC.seq fun K71 hK71 => ?_
      refine PC.region ?_
      refine PL.q (p := (I x62)) rfl (dst_of (by decide)) (st_mv f14) ?_
      refine PL.q (p := (slI x17)) rfl (dst_of (by decide)) (st_mv f9) ?_
      refine PL.q (p := (I (x17.length : Int))) rfl (dst_of (by decide)) (st_len (rep := I) (xs := x17) isSlice_30 (show _ = (slI x17) from rfl)) ?_
      refine PL.q (p := (B (decide (x62 < (x17.length : Int))))) rfl (dst_of (by decide)) (st_bin rfl (show _ = (I x62) from rfl) (show _ = (I (x17.length : Int)) from rfl) binP_lss) ?_
      refine PL.nil ?_
      refine hK71 _ _ ?_
      refine PC.absF (fun F => F 0 = (slX a0) ∧ F 1 = (slX a1) ∧ F 5 = (slX x10) ∧ F 6 = (slX x12) ∧ F 7 = (I (x14.length : Int)) ∧ F 9 = (slI x17) ∧ F 13 = q64 ∧ F 14 = (I x62) ∧ F 79 = (B (decide (x62 < (x17.length : Int))))) ⟨f0, f1, f5, f6, f7, f9, f13, f14, (show _ = (B (decide (x62 < (x17.length : Int)))) from rfl)⟩ ?_
      intro F hI
      obtain ⟨f0, f1, f5, f6, f7, f9, f13, f14, f79⟩ := hI
      rcases G.cond_some hs68 with ⟨hb72, hs68⟩ | ⟨hb72, hs68⟩
      · refine PC.condTb f79 hb72 ?_
        refine PC.skip ?_
        refine hK70 _ _ ?_
        refine PC.absF (fun F => F 0 = (slX a0) ∧ F 1 = (slX a1) ∧ F 5 = (slX x10) ∧ F 6 = (slX x12) ∧ F 7 = (I (x14.length : Int)) ∧ F 9 = (slI x17) ∧ F 13 = q64 ∧ F 14 = (I x62)) ⟨f0, f1, f5, f6, f7, f9, f13, f14⟩ ?_
        intro F hI
        obtain ⟨f0, f1, f5, f6, f7, f9, f13, f14⟩ := hI
        refine PC.seq fun K73 hK73 => ?_
        refine PC.block ?_
        refine PC.region ?_
        refine PL.q (p := q64) rfl (dst_of (by decide)) (st_mv f13) ?_
        refine PL.q (p := (slI x17)) rfl (dst_of (by decide)) (st_mv f9) ?_
        refine PL.q (p := (I x62)) rfl (dst_of (by decide)) (st_mv f14) ?_
        obtain ⟨x74, hx74, hs68⟩ := G.bind_some hs68
        refine PL.q (p := (PV.rp (I x74).cells)) rfl (dst_of (by decide)) (st_idxA (rep := I) (xs := x17) esz_30 (show _ = (slI x17) from rfl) (show _ = (I x62) from rfl) hx74) ?_
        refine PL.q (p := (I x74)) rfl (dst_of (by decide)) (st_ld1 asz_3 (show _ = (PV.rp (I x74).cells) from rfl)) ?_
        refine PL.q (p := (I (x14.length : Int))) rfl (dst_of (by decide)) (st_mv f7) ?_
        refine PL.q (p := (I (w64 (x74 + (x14.length : Int))))) rfl (dst_of (by decide)) (st_bin rfl (show _ = (I x74) from rfl) (show _ = (I (x14.length : Int)) from rfl) b_addw) ?_
        refine PL.qq (p := (slI ([(w64 (x74 + (x14.length : Int)))] : List Int))) rfl (dst_of (by decide)) (lit_q (rep := I) (xs := [(w64 (x74 + (x14.length : Int)))]) selem_30 rfl (by decide) (bm (show _ = (I (w64 (x74 + (x14.length : Int)))) from rfl) (bm0)) rfl rfl) ?_
        obtain ⟨x75, hx75, hs68⟩ := G.bind_some hs68
        refine PL.appG (rep := I) (ys := ([(w64 (x74 + (x14.length : Int)))] : List Int)) rfl rfl rfl (by decide) selem_30 (show _ = q64 from rfl) o113 (show _ = (slI ([(w64 (x74 + (x14.length : Int)))] : List Int)) from rfl) (fun _ => rfl) (lf1 (fun _ => rfl) (fun _ => rfl)) hx75 fun q76 H o113 fz77 => ?_
        refine PL.q (p := q76) rfl (dst_of (by decide)) (st_as (show _ = q76 from rfl)) ?_
        refine PL.nil ?_
        refine hK73 _ _ ?_
        refine PC.absF (fun F => F 0 = (slX a0) ∧ F 1 = (slX a1) ∧ F 5 = (slX x10) ∧ F 6 = (slX x12) ∧ F 7 = (I (x14.length : Int)) ∧ F 9 = (slI x17) ∧ F 13 = q76 ∧ F 14 = (I x62)) ⟨f0, f1, f5, f6, f7, f9, (show _ = q76 from rfl), f14⟩ ?_
        intro F hI
        obtain ⟨f0, f1, f5, f6, f7, f9, f13, f14⟩ := hI
        refine PC.region ?_
        refine PL.q (p := (I x62)) rfl (dst_of (by decide)) (st_mv f14) ?_
        refine PL.q (p := (I (w64 (x62 + 1)))) rfl (dst_of (by decide)) (st_bin rfl (show _ = (I x62) from rfl) (show _ = (I 1) from rfl) b_addw) ?_
        refine PL.q (p := (I (w64 (x62 + 1)))) rfl (dst_of (by decide)) (st_as (show _ = (I (w64 (x62 + 1))) from rfl)) ?_
        refine PL.nil ?_
        have hs68 := G.pure_some hs68
        subst hs68
        exact ⟨m69, Nat.lt_succ_self _, ((w64 (x62 + 1)), x75), q76, ho65, f0, f1, f5, f6, f7, f9, f13, (show _ = (I (w64 (x62 + 1))) from rfl), o113⟩
      · refine PC.condFb f79 hb72 ?_
        refine PC.exit ?_
        have hs68 := G.pure_some hs68
        subst hs68
        try dsimp only at ho65
        subst ho65
        try dsimp only at h0
        refine hK57 _ _ ?_
        refine PC.absF (fun F => F 0 = (slX a0) ∧ F 1 = (slX a1) ∧ F 5 = (slX x10) ∧ F 6 = (slX x12) ∧ F 7 = (I (x14.length : Int)) ∧ F 13 = q64) ⟨f0, f1, f5, f6, f7, f13⟩ ?_
        intro F hI
        obtain ⟨f0, f1, f5, f6, f7, f13⟩ := hI
        refine PC.seq fun K78 hK78 => ?_
        refine PC.freezeL (rep := I) 13 f13 o113 (fun _ => rfl) fun H fz79 => ?_
        refine PC.region ?_
        refine PL.q (p := (slX x10)) rfl (dst_of (by decide)) (st_mv f5) ?_
        obtain ⟨x80, hx80, h0⟩ := G.bind_some h0
        refine PL.qq (p := (slS x80)) rfl (dst_of (by decide)) (callq (by kernel_rfl) (am (show _ = (slX x10) from rfl) (am0)) (nopc (slX_noP _) (nop0)) (g_spot_Sets_w hx80)) ?_
        refine PL.q (p := (I (x80.length : Int))) rfl (dst_of (by decide)) (st_len (rep := encS) (xs := x80) isSlice_28 (show _ = (slS x80) from rfl)) ?_
        refine PL.q (p := (I (x14.length : Int))) rfl (dst_of (by decide)) (st_mv f7) ?_
        refine PL.q (p := (slX a1)) rfl (dst_of (by decide)) (st_mv f1) ?_
        obtain ⟨x81, hx81, h0⟩ := G.bind_some h0
        refine PL.qq (p := (slS x81)) rfl (dst_of (by decide)) (callq (by kernel_rfl) (am (show _ = (slX a1) from rfl) (am0)) (nopc (slX_noP _) (nop0)) (g_spot_Sets_w hx81)) ?_
        refine PL.q (p := (I (x81.length : Int))) rfl (dst_of (by decide)) (st_len (rep := encS) (xs := x81) isSlice_28 (show _ = (slS x81) from rfl)) ?_
        refine PL.q (p := (I (w64 ((x14.length : Int) + (x81.length : Int))))) rfl (dst_of (by decide)) (st_bin rfl (show _ = (I (x14.length : Int)) from rfl) (show _ = (I (x81.length : Int)) from rfl) b_addw) ?_
        refine PL.q (p := (B (decide ((x80.length : Int) = (w64 ((x14.length : Int) + (x81.length : Int))))))) rfl (dst_of (by decide)) (st_bin rfl (show _ = (I (x80.length : Int)) from rfl) (show _ = (I (w64 ((x14.length : Int) + (x81.length : Int)))) from rfl) binP_eql) ?_
        refine PL.q (p := (B (decide ((x80.length : Int) = (w64 ((x14.length : Int) + (x81.length : Int))))))) rfl (dst_of (by decide)) (st_mv (show _ = (B (decide ((x80.length : Int) = (w64 ((x14.length : Int) + (x81.length : Int)))))) from rfl)) ?_
        refine PL.gq (p := (slX x12)) (c := true) (c' := (decide ((x80.length : Int) = (w64 ((x14.length : Int) + (x81.length : Int)))))) rfl rfl (show _ = (B (decide ((x80.length : Int) = (w64 ((x14.length : Int) + (x81.length : Int)))))) from rfl) (gc_t _) (dst_of (by decide)) (fun hb => pstep_sound (st_mv f6)) ?_
        obtain ⟨x82, hx82, h0⟩ := G.bind_some h0
        refine PL.gq (p := (slI x82)) (c := true) (c' := (decide ((x80.length : Int) = (w64 ((x14.length : Int) + (x81.length : Int)))))) rfl rfl (show _ = (B (decide ((x80.length : Int) = (w64 ((x14.length : Int) + (x81.length : Int)))))) from rfl) (gc_t _) (dst_of (by decide)) (fun hb => callq (by kernel_rfl) (am (gvp hb (show _ = gv (decide ((x80.length : Int) = (w64 ((x14.length : Int) + (x81.length : Int))))) (slX x12) from rfl)) (am0)) (nopc (slX_noP _) (nop0)) (g_spot_First_w (G.cond_pos hx82 hb))) ?_
        refine PL.gq (p := (slI x63)) (c := true) (c' := (decide ((x80.length : Int) = (w64 ((x14.length : Int) + (x81.length : Int)))))) rfl rfl (show _ = (B (decide ((x80.length : Int) = (w64 ((x14.length : Int) + (x81.length : Int)))))) from rfl) (gc_t _) (dst_of (by decide)) (fun hb => pstep_sound (st_mv (show _ = (slI x63) from rfl))) ?_
        obtain ⟨x83, hx83, h0⟩ := G.bind_some h0
        refine PL.gq (p := (B x83)) (c := true) (c' := (decide ((x80.length : Int) = (w64 ((x14.length : Int) + (x81.length : Int)))))) rfl rfl (show _ = (B (decide ((x80.length : Int) = (w64 ((x14.length : Int) + (x81.length : Int)))))) from rfl) (gc_t _) (dst_of (by decide)) (fun hb => callq (by kernel_rfl) (am (gvp hb (show _ = gv (decide ((x80.length : Int) = (w64 ((x14.length : Int) + (x81.length : Int))))) (slI x82) from rfl)) (am (gvp hb (show _ = gv (decide ((x80.length : Int) = (w64 ((x14.length : Int) + (x81.length : Int))))) (slI x63) from rfl)) (am0))) (nopc (noP_slI _) (nopc (noP_slI _) (nop0))) (g_ref09_SameInts_w (G.cond_pos hx83 hb))) ?_
        refine PL.q (p := (B ((decide ((x80.length : Int) = (w64 ((x14.length : Int) + (x81.length : Int))))) && x83))) rfl (dst_of (by decide)) (st_and (show _ = (B (decide ((x80.length : Int) = (w64 ((x14.length : Int) + (x81.length : Int)))))) from rfl) (show _ = gv (decide ((x80.length : Int) = (w64 ((x14.length : Int) + (x81.length : Int))))) (B x83) from rfl) rfl) ?_
        refine PL.q (p := (B ((decide ((x80.length : Int) = (w64 ((x14.length : Int) + (x81.length : Int))))) && x83))) rfl (dst_of (by decide)) (st_mv (show _ = (B ((decide ((x80.length : Int) = (w64 ((x14.length : Int) + (x81.length : Int))))) && x83)) from rfl)) ?_
        refine PL.gq (p := (slX x10)) (c := true) (c' := ((decide ((x80.length : Int) = (w64 ((x14.length : Int) + (x81.length : Int))))) && x83)) rfl rfl (show _ = (B ((decide ((x80.length : Int) = (w64 ((x14.length : Int) + (x81.length : Int))))) && x83)) from rfl) (gc_t _) (dst_of (by decide)) (fun hb => pstep_sound (st_mv f5)) ?_
        obtain ⟨x84, hx84, h0⟩ := G.bind_some h0
        refine PL.gq (p := (B x84)) (c := true) (c' := ((decide ((x80.length : Int) = (w64 ((x14.length : Int) + (x81.length : Int))))) && x83)) rfl rfl (show _ = (B ((decide ((x80.length : Int) = (w64 ((x14.length : Int) + (x81.length : Int))))) && x83)) from rfl) (gc_t _) (dst_of (by decide)) (fun hb => callq (by kernel_rfl) (am (gvp hb (show _ = gv ((decide ((x80.length : Int) = (w64 ((x14.length : Int) + (x81.length : Int))))) && x83) (slX x10) from rfl)) (am0)) (nopc (slX_noP _) (nop0)) (g_spot_Free_w (G.cond_pos hx84 hb))) ?_
        refine PL.gq (p := (slX a0)) (c := true) (c' := ((decide ((x80.length : Int) = (w64 ((x14.length : Int) + (x81.length : Int))))) && x83)) rfl rfl (show _ = (B ((decide ((x80.length : Int) = (w64 ((x14.length : Int) + (x81.length : Int))))) && x83)) from rfl) (gc_t _) (dst_of (by decide)) (fun hb => pstep_sound (st_mv f0)) ?_
        obtain ⟨x85, hx85, h0⟩ := G.bind_some h0
        refine PL.gq (p := (B x85)) (c := true) (c' := ((decide ((x80.length : Int) = (w64 ((x14.length : Int) + (x81.length : Int))))) && x83)) rfl rfl (show _ = (B ((decide ((x80.length : Int) = (w64 ((x14.length : Int) + (x81.length : Int))))) && x83)) from rfl) (gc_t _) (dst_of (by decide)) (fun hb => callq (by kernel_rfl) (am (gvp hb (show _ = gv ((decide ((x80.length : Int) = (w64 ((x14.length : Int) + (x81.length : Int))))) && x83) (slX a0) from rfl)) (am0)) (nopc (slX_noP _) (nop0)) (g_spot_Free_w (G.cond_pos hx85 hb))) ?_
        refine PL.gq (p := (B x85)) (c := true) (c' := ((decide ((x80.length : Int) = (w64 ((x14.length : Int) + (x81.length : Int))))) && x83)) rfl rfl (show _ = (B ((decide ((x80.length : Int) = (w64 ((x14.length : Int) + (x81.length : Int))))) && x83)) from rfl) (gc_t _) (dst_of (by decide)) (fun hb => pstep_sound (st_mv (gvp hb (show _ = gv ((decide ((x80.length : Int) = (w64 ((x14.length : Int) + (x81.length : Int))))) && x83) (B x85) from rfl)))) ?_
        refine PL.gq (p := (slX a1)) (c := ((decide ((x80.length : Int) = (w64 ((x14.length : Int) + (x81.length : Int))))) && x83)) (c' := (((decide ((x80.length : Int) = (w64 ((x14.length : Int) + (x81.length : Int))))) && x83) && x85)) rfl rfl (show _ = gv ((decide ((x80.length : Int) = (w64 ((x14.length : Int) + (x81.length : Int))))) && x83) (B x85) from rfl) (gc_ct _ _) (dst_of (by decide)) (fun hb => pstep_sound (st_mv f1)) ?_
        obtain ⟨x86, hx86, h0⟩ := G.bind_some h0
        refine PL.gq (p := (B x86)) (c := ((decide ((x80.length : Int) = (w64 ((x14.length : Int) + (x81.length : Int))))) && x83)) (c' := (((decide ((x80.length : Int) = (w64 ((x14.length : Int) + (x81.length : Int))))) && x83) && x85)) rfl rfl (show _ = gv ((decide ((x80.length : Int) = (w64 ((x14.length : Int) + (x81.length : Int))))) && x83) (B x85) from rfl) (gc_ct _ _) (dst_of (by decide)) (fun hb => callq (by kernel_rfl) (am (gvp hb (show _ = gv (((decide ((x80.length : Int) = (w64 ((x14.length : Int) + (x81.length : Int))))) && x83) && x85) (slX a1) from rfl)) (am0)) (nopc (slX_noP _) (nop0)) (g_spot_Free_w (G.cond_pos hx86 hb))) ?_
        refine PL.gq (p := (B (x85 && x86))) (c := true) (c' := ((decide ((x80.length : Int) = (w64 ((x14.length : Int) + (x81.length : Int))))) && x83)) rfl rfl (show _ = (B ((decide ((x80.length : Int) = (w64 ((x14.length : Int) + (x81.length : Int))))) && x83)) from rfl) (gc_t _) (dst_of (by decide)) (fun hb => pstep_sound (st_andG hb (gvp hb (show _ = gv ((decide ((x80.length : Int) = (w64 ((x14.length : Int) + (x81.length : Int))))) && x83) (B x85) from rfl)) (show _ = gv (((decide ((x80.length : Int) = (w64 ((x14.length : Int) + (x81.length : Int))))) && x83) && x85) (B x86) from rfl) rfl)) ?_
        refine PL.gq (p := (B (x84 == (x85 && x86)))) (c := true) (c' := ((decide ((x80.length : Int) = (w64 ((x14.length : Int) + (x81.length : Int))))) && x83)) rfl rfl (show _ = (B ((decide ((x80.length : Int) = (w64 ((x14.length : Int) + (x81.length : Int))))) && x83)) from rfl) (gc_t _) (dst_of (by decide)) (fun hb => pstep_sound (st_bin rfl (gvp hb (show _ = gv ((decide ((x80.length : Int) = (w64 ((x14.length : Int) + (x81.length : Int))))) && x83) (B x84) from rfl)) (gvp hb (show _ = gv ((decide ((x80.length : Int) = (w64 ((x14.length : Int) + (x81.length : Int))))) && x83) (B (x85 && x86)) from rfl)) (b_eqB _ _ (by kernel_rfl)))) ?_
        refine PL.q (p := (B (((decide ((x80.length : Int) = (w64 ((x14.length : Int) + (x81.length : Int))))) && x83) && (x84 == (x85 && x86))))) rfl (dst_of (by decide)) (st_and (show _ = (B ((decide ((x80.length : Int) = (w64 ((x14.length : Int) + (x81.length : Int))))) && x83)) from rfl) (show _ = gv ((decide ((x80.length : Int) = (w64 ((x14.length : Int) + (x81.length : Int))))) && x83) (B (x84 == (x85 && x86))) from rfl) rfl) ?_
        refine PL.q (p := (B (((decide ((x80.length : Int) = (w64 ((x14.length : Int) + (x81.length : Int))))) && x83) && (x84 == (x85 && x86))))) rfl (dst_of (by decide)) (st_mv (show _ = (B (((decide ((x80.length : Int) = (w64 ((x14.length : Int) + (x81.length : Int))))) && x83) && (x84 == (x85 && x86)))) from rfl)) ?_
        refine PL.gq (p := (slX x12)) (c := true) (c' := (((decide ((x80.length : Int) = (w64 ((x14.length : Int) + (x81.length : Int))))) && x83) && (x84 == (x85 && x86)))) rfl rfl (show _ = (B (((decide ((x80.length : Int) = (w64 ((x14.length : Int) + (x81.length : Int))))) && x83) && (x84 == (x85 && x86)))) from rfl) (gc_t _) (dst_of (by decide)) (fun hb => pstep_sound (st_mv f6)) ?_
        obtain ⟨x87, hx87, h0⟩ := G.bind_some h0
        refine PL.gq (p := (B x87)) (c := true) (c' := (((decide ((x80.length : Int) = (w64 ((x14.length : Int) + (x81.length : Int))))) && x83) && (x84 == (x85 && x86)))) rfl rfl (show _ = (B (((decide ((x80.length : Int) = (w64 ((x14.length : Int) + (x81.length : Int))))) && x83) && (x84 == (x85 && x86)))) from rfl) (gc_t _) (dst_of (by decide)) (fun hb => callq (by kernel_rfl) (am (gvp hb (show _ = gv (((decide ((x80.length : Int) = (w64 ((x14.length : Int) + (x81.length : Int))))) && x83) && (x84 == (x85 && x86))) (slX x12) from rfl)) (am0)) (nopc (slX_noP _) (nop0)) (g_spot_Free_w (G.cond_pos hx87 hb))) ?_
        refine PL.gq (p := (slX a0)) (c := true) (c' := (((decide ((x80.length : Int) = (w64 ((x14.length : Int) + (x81.length : Int))))) && x83) && (x84 == (x85 && x86)))) rfl rfl (show _ = (B (((decide ((x80.length : Int) = (w64 ((x14.length : Int) + (x81.length : Int))))) && x83) && (x84 == (x85 && x86)))) from rfl) (gc_t _) (dst_of (by decide)) (fun hb => pstep_sound (st_mv f0)) ?_
        obtain ⟨x88, hx88, h0⟩ := G.bind_some h0
        refine PL.gq (p := (B x88)) (c := true) (c' := (((decide ((x80.length : Int) = (w64 ((x14.length : Int) + (x81.length : Int))))) && x83) && (x84 == (x85 && x86)))) rfl rfl (show _ = (B (((decide ((x80.length : Int) = (w64 ((x14.length : Int) + (x81.length : Int))))) && x83) && (x84 == (x85 && x86)))) from rfl) (gc_t _) (dst_of (by decide)) (fun hb => callq (by kernel_rfl) (am (gvp hb (show _ = gv (((decide ((x80.length : Int) = (w64 ((x14.length : Int) + (x81.length : Int))))) && x83) && (x84 == (x85 && x86))) (slX a0) from rfl)) (am0)) (nopc (slX_noP _) (nop0)) (g_spot_Free_w (G.cond_pos hx88 hb))) ?_
        refine PL.gq (p := (B x88)) (c := true) (c' := (((decide ((x80.length : Int) = (w64 ((x14.length : Int) + (x81.length : Int))))) && x83) && (x84 == (x85 && x86)))) rfl rfl (show _ = (B (((decide ((x80.length : Int) = (w64 ((x14.length : Int) + (x81.length : Int))))) && x83) && (x84 == (x85 && x86)))) from rfl) (gc_t _) (dst_of (by decide)) (fun hb => pstep_sound (st_mv (gvp hb (show _ = gv (((decide ((x80.length : Int) = (w64 ((x14.length : Int) + (x81.length : Int))))) && x83) && (x84 == (x85 && x86))) (B x88) from rfl)))) ?_
        refine PL.gq (p := (slX a1)) (c := (((decide ((x80.length : Int) = (w64 ((x14.length : Int) + (x81.length : Int))))) && x83) && (x84 == (x85 && x86)))) (c' := ((((decide ((x80.length : Int) = (w64 ((x14.length : Int) + (x81.length : Int))))) && x83) && (x84 == (x85 && x86))) && (!x88))) rfl rfl (show _ = gv (((decide ((x80.length : Int) = (w64 ((x14.length : Int) + (x81.length : Int))))) && x83) && (x84 == (x85 && x86))) (B x88) from rfl) (gc_cf _ _) (dst_of (by decide)) (fun hb => pstep_sound (st_mv f1)) ?_
        obtain ⟨x89, hx89, h0⟩ := G.bind_some h0
        refine PL.gq (p := (B x89)) (c := (((decide ((x80.length : Int) = (w64 ((x14.length : Int) + (x81.length : Int))))) && x83) && (x84 == (x85 && x86)))) (c' := ((((decide ((x80.length : Int) = (w64 ((x14.length : Int) + (x81.length : Int))))) && x83) && (x84 == (x85 && x86))) && (!x88))) rfl rfl (show _ = gv (((decide ((x80.length : Int) = (w64 ((x14.length : Int) + (x81.length : Int))))) && x83) && (x84 == (x85 && x86))) (B x88) from rfl) (gc_cf _ _) (dst_of (by decide)) (fun hb => callq (by kernel_rfl) (am (gvp hb (show _ = gv ((((decide ((x80.length : Int) = (w64 ((x14.length : Int) + (x81.length : Int))))) && x83) && (x84 == (x85 && x86))) && (!x88)) (slX a1) from rfl)) (am0)) (nopc (slX_noP _) (nop0)) (g_spot_Free_w (G.cond_pos hx89 hb))) ?_
        refine PL.gq (p := (B (x88 || x89))) (c := true) (c' := (((decide ((x80.length : Int) = (w64 ((x14.length : Int) + (x81.length : Int))))) && x83) && (x84 == (x85 && x86)))) rfl rfl (show _ = (B (((decide ((x80.length : Int) = (w64 ((x14.length : Int) + (x81.length : Int))))) && x83) && (x84 == (x85 && x86)))) from rfl) (gc_t _) (dst_of (by decide)) (fun hb => pstep_sound (st_orG hb (gvp hb (show _ = gv (((decide ((x80.length : Int) = (w64 ((x14.length : Int) + (x81.length : Int))))) && x83) && (x84 == (x85 && x86))) (B x88) from rfl)) rfl (show _ = gv ((((decide ((x80.length : Int) = (w64 ((x14.length : Int) + (x81.length : Int))))) && x83) && (x84 == (x85 && x86))) && (!x88)) (B x89) from rfl))) ?_
        refine PL.gq (p := (B (x87 == (x88 || x89)))) (c := true) (c' := (((decide ((x80.length : Int) = (w64 ((x14.length : Int) + (x81.length : Int))))) && x83) && (x84 == (x85 && x86)))) rfl rfl (show _ = (B (((decide ((x80.length : Int) = (w64 ((x14.length : Int) + (x81.length : Int))))) && x83) && (x84 == (x85 && x86)))) from rfl) (gc_t _) (dst_of (by decide)) (fun hb => pstep_sound (st_bin rfl (gvp hb (show _ = gv (((decide ((x80.length : Int) = (w64 ((x14.length : Int) + (x81.length : Int))))) && x83) && (x84 == (x85 && x86))) (B x87) from rfl)) (gvp hb (show _ = gv (((decide ((x80.length : Int) = (w64 ((x14.length : Int) + (x81.length : Int))))) && x83) && (x84 == (x85 && x86))) (B (x88 || x89)) from rfl)) (b_eqB _ _ (by kernel_rfl)))) ?_
        refine PL.q (p := (B ((((decide ((x80.length : Int) = (w64 ((x14.length : Int) + (x81.length : Int))))) && x83) && (x84 == (x85 && x86))) && (x87 == (x88 || x89))))) rfl (dst_of (by decide)) (st_and (show _ = (B (((decide ((x80.length : Int) = (w64 ((x14.length : Int) + (x81.length : Int))))) && x83) && (x84 == (x85 && x86)))) from rfl) (show _ = gv (((decide ((x80.length : Int) = (w64 ((x14.length : Int) + (x81.length : Int))))) && x83) && (x84 == (x85 && x86))) (B (x87 == (x88 || x89))) from rfl) rfl) ?_
        refine PL.q (p := (B ((((decide ((x80.length : Int) = (w64 ((x14.length : Int) + (x81.length : Int))))) && x83) && (x84 == (x85 && x86))) && (x87 == (x88 || x89))))) rfl (dst_of (by decide)) (st_mv (show _ = (B ((((decide ((x80.length : Int) = (w64 ((x14.length : Int) + (x81.length : Int))))) && x83) && (x84 == (x85 && x86))) && (x87 == (x88 || x89)))) from rfl)) ?_
        obtain ⟨x90, hx90, h0⟩ := G.bind_some h0
        refine PL.gq (p := (B x90)) (c := true) (c' := ((((decide ((x80.length : Int) = (w64 ((x14.length : Int) + (x81.length : Int))))) && x83) && (x84 == (x85 && x86))) && (x87 == (x88 || x89)))) rfl rfl (show _ = (B ((((decide ((x80.length : Int) = (w64 ((x14.length : Int) + (x81.length : Int))))) && x83) && (x84 == (x85 && x86))) && (x87 == (x88 || x89)))) from rfl) (gc_t _) (dst_of (by decide)) (fun hb => callq (by kernel_rfl) (am0) (nop0) (g_law10_knows_w (G.cond_pos hx90 hb))) ?_
        refine PL.q (p := (B (((((decide ((x80.length : Int) = (w64 ((x14.length : Int) + (x81.length : Int))))) && x83) && (x84 == (x85 && x86))) && (x87 == (x88 || x89))) && x90))) rfl (dst_of (by decide)) (st_and (show _ = (B ((((decide ((x80.length : Int) = (w64 ((x14.length : Int) + (x81.length : Int))))) && x83) && (x84 == (x85 && x86))) && (x87 == (x88 || x89)))) from rfl) (show _ = gv ((((decide ((x80.length : Int) = (w64 ((x14.length : Int) + (x81.length : Int))))) && x83) && (x84 == (x85 && x86))) && (x87 == (x88 || x89))) (B x90) from rfl) rfl) ?_
        refine PL.q (p := (B (((((decide ((x80.length : Int) = (w64 ((x14.length : Int) + (x81.length : Int))))) && x83) && (x84 == (x85 && x86))) && (x87 == (x88 || x89))) && x90))) rfl (dst_of (by decide)) (st_as (show _ = (B (((((decide ((x80.length : Int) = (w64 ((x14.length : Int) + (x81.length : Int))))) && x83) && (x84 == (x85 && x86))) && (x87 == (x88 || x89))) && x90)) from rfl)) ?_
        refine PL.nil ?_
        refine hK78 _ _ ?_
        refine PC.absF (fun F => F 4 = (B (((((decide ((x80.length : Int) = (w64 ((x14.length : Int) + (x81.length : Int))))) && x83) && (x84 == (x85 && x86))) && (x87 == (x88 || x89))) && x90))) (show _ = (B (((((decide ((x80.length : Int) = (w64 ((x14.length : Int) + (x81.length : Int))))) && x83) && (x84 == (x85 && x86))) && (x87 == (x88 || x89))) && x90)) from rfl) ?_
        intro F hI
        have f4 := hI
        refine PC.ret ?_
        have h0 := G.pure_some h0
        subst h0
        exact fin (.inr rfl) (resT1 Try.results3 f4) (.u _)
end Go.Proofs.Ythcckhpogmlgjaa

/-
  SpotBehind: its plain code ends with true.
-/
namespace Go.Proofs.Ythcckhpogmlgjaa
open Go Go.RowKit L
set_option linter.unusedVariables false
set_option linter.unusedSimpArgs false

theorem firstT_shift (e : E) : ∀ n k : Int, firstT e (n + k) = (firstT e n).map (· + k) := by
  induction e with
  | set => intro n k; simp [firstT]
  | empty => intro n k; simp [firstT]
  | cat a b iha ihb =>
    intro n k
    simp only [firstT, List.map_append]
    rw [iha, show n + k + nset a = n + nset a + k by omega, ihb]
    split <;> simp
  | alt a b iha ihb =>
    intro n k
    simp only [firstT, List.map_append]
    rw [iha, show n + k + nset a = n + nset a + k by omega, ihb]
  | star a ih => intro n k; simp only [firstT]; exact ih n k
  | plus a ih => intro n k; simp only [firstT]; exact ih n k
  | opt a ih => intro n k; simp only [firstT]; exact ih n k
theorem behind_mem {a b : E} {i j : Int} (hi : i ∈ lastT a 0) (hj : j ∈ firstT b 0) : j + nset a ∈ folR (.cat a b) i := by
  have h1 := (last_in a 0).2 i hi
  have h2 := (first_in b 0).2 j hj
  have hm : j + nset a ∈ firstT b (0 + nset a) := by
    rw [firstT_shift b 0]
    exact List.mem_map.2 ⟨j, hj, rfl⟩
  unfold folR
  have hn : nset (.cat a b) = nset a + nset b := rfl
  rw [if_pos (by rw [hn]; omega)]
  unfold folL
  refine List.mem_filter.2 ⟨List.mem_map.2 ⟨(j + nset a).toNat, List.mem_range.2 (by rw [hn]; omega), by omega⟩, (folB_iff _ 0 i _).2 ?_⟩
  exact .inr (.inr ⟨hi, by simpa using hm⟩)
theorem folR_len' (e : E) (i : Int) : (folR e i).length ≤ nset e := by
  unfold folR
  split
  · exact folL_len e i _
  · simp

theorem Tot.liftB {α β : Type} {o : Option α} {a : α} {f : α → G β} {Q : β → Prop} (h : o = some a) (hf : Tot (f a) Q) : Tot (G.bind (G.lift o) f) Q := .bindE (.lift h rfl) hf

theorem idx_get {α : Type} {l : List α} {k : Nat} (h : k < l.length) : idx l (k : Int) = some l[k] := idx_nat (List.getElem?_eq_getElem h)

set_option maxHeartbeats 1000000 in
theorem spotBehind_tot (a b : List Rx) : Tot (g_law10_SpotBehind a b) (· = true) := by
  unfold g_law10_SpotBehind g_law10_knows g_ref07_Check g_spot_Sets g_spot_Last g_spot_First g_spot_Follow g_spot_Free
  cases hbig : decide (60 < w64 ((a.length : Int) + (b.length : Int)))
  · simp only [Bool.not_false, Bool.false_or, G.ct, G.bp]
    by_cases ha : checkL a = 0
    · by_cases hb : checkL b = 0
      · simp only [ha, hb, not_true_eq_false, decide_false, Bool.not_false, Bool.false_or, G.ct, G.cf, G.bp]
        obtain ⟨ea, la, hea⟩ := wfx_of a ha
        obtain ⟨eb, lb, heb⟩ := wfx_of b hb
        have hle : a.length + b.length ≤ 60 := by
          simp only [decide_eq_false_iff_not] at hbig
          rw [w64_of (by omega) (by omega)] at hbig
          omega
        have hc : WfX (a ++ b ++ [⟨3, 0, 0, 0, 0⟩]) (.cat ea eb) := ⟨by simp; omega, by simp [post, hea, heb, bareX]⟩
        have hm : WfX (a ++ b ++ [⟨4, 0, 0, 0, 0⟩]) (.alt ea eb) := ⟨by simp; omega, by simp [post, hea, heb, bareX]⟩
        obtain ⟨a1, a2, a3, a4, _⟩ := sp_of (l := a) (e := ea) ⟨la, hea⟩
        obtain ⟨b1, b2, b3, b4, _⟩ := sp_of (l := b) (e := eb) ⟨lb, heb⟩
        obtain ⟨c1, c2, c3, c4, c5⟩ := sp_of hc
        obtain ⟨d1, d2, d3, d4, _⟩ := sp_of hm
        have na := nset_le ea
        have nb := nset_le eb
        rw [← hea] at na
        rw [← heb] at nb
        have fa := firstT_len ea 0
        have fb := firstT_len eb 0
        have lla := lastT_len ea 0
        unfold g_ref07_Cat g_ref07_Alt
        refine Tot.liftB (a := a ++ b ++ [⟨3, 0, 0, 0, 0⟩]) (show manyX 3 [a, b] = some (a ++ b ++ ([⟨3, 0, 0, 0, 0⟩] : List Rx)) from guardO_of (by omega)) ?_
        refine Tot.liftB (a := a ++ b ++ [⟨4, 0, 0, 0, 0⟩]) (show manyX 4 [a, b] = some (a ++ b ++ ([⟨4, 0, 0, 0, 0⟩] : List Rx)) from guardO_of (by omega)) ?_
        simp only [G.bp, a1, a2, a3, a4, b1, b2, b3, b4, c1, c2, c3, c4, c5, d1, d2, d3, d4, setsT_len]
        have inner : ∀ i, i ∈ lastT ea 0 → Tot (G.loop (σ := Int) (α := Unit ⊕ Bool) (fun x36 => G.cond (decide (x36 < ((firstT eb 0).length : Int))) (G.bind (G.lift (idx (firstT eb 0) x36)) fun x47 => G.bind (g_ref10_Has (folR (.cat ea eb) i) (w64 (x47 + (nset ea : Int)))) fun x48 => G.cond (!x48) (G.pure (.inr (.inr false))) (G.pure (.inl (w64 (x36 + 1))))) (G.pure (.inr (.inl ())))) 0) (· = .inl ()) := by
          intro i hi
          refine Tot.loop (fun s : Int => ∃ k : Nat, s = (k : Int) ∧ k ≤ (firstT eb 0).length) (fun s : Int => (firstT eb 0).length - s.toNat) ?_ ⟨0, rfl, by omega⟩
          rintro s ⟨k, rfl, hk⟩
          by_cases hlt : k < (firstT eb 0).length
          · have : decide ((k : Int) < ((firstT eb 0).length : Int)) = true := by simpa using hlt
            rw [this, G.ct]
            refine Tot.liftB (idx_get hlt) ?_
            have hmem := List.getElem_mem hlt
            have hrange := (first_in eb 0).2 _ hmem
            rw [w64_of (by omega) (by omega)]
            unfold g_ref10_Has
            have hf := folR_len' (.cat ea eb) i
            refine Tot.liftB (a := true) (by rw [guardO_of (by simp [nset] at hf; omega)]; simp [behind_mem hi hmem]) ?_
            refine Tot.pure ⟨⟨k + 1, by rw [w64_of (by omega) (by omega)]; rfl, by omega⟩, ?_⟩
            rw [w64_of (by omega) (by omega)]; omega
          · have : decide ((k : Int) < ((firstT eb 0).length : Int)) = false := by simpa using hlt
            rw [this, G.cf]
            exact Tot.pure rfl
        refine Tot.bindE (a := .inl ()) ?_ ?_
        · refine Tot.loop (fun s : Int => ∃ k : Nat, s = (k : Int) ∧ k ≤ (lastT ea 0).length) (fun s : Int => (lastT ea 0).length - s.toNat) ?_ ⟨0, rfl, by omega⟩
          rintro s ⟨k, rfl, hk⟩
          by_cases hlt : k < (lastT ea 0).length
          · have : decide ((k : Int) < ((lastT ea 0).length : Int)) = true := by simpa using hlt
            rw [this, G.ct]
            refine Tot.liftB (idx_get hlt) ?_
            refine Tot.bindE (inner _ (List.getElem_mem hlt)) ?_
            refine Tot.pure ⟨⟨k + 1, by rw [w64_of (by omega) (by omega)]; rfl, by omega⟩, ?_⟩
            rw [w64_of (by omega) (by omega)]; omega
          · have : decide ((k : Int) < ((lastT ea 0).length : Int)) = false := by simpa using hlt
            rw [this, G.cf]
            exact Tot.pure rfl
        · refine Tot.bindE (a := firstT (.alt ea eb) 0) ?_ ?_
          · refine Tot.loop (fun s : Int × List Int => ∃ k : Nat, s.1 = (k : Int) ∧ k ≤ (firstT eb 0).length ∧ s.2 = firstT ea 0 ++ ((firstT eb 0).take k).map (· + (nset ea : Int))) (fun s : Int × List Int => (firstT eb 0).length - s.1.toNat) ?_ ⟨0, rfl, by omega, by simp⟩
            rintro ⟨s, t⟩ ⟨k, hs, hk, ht⟩
            simp only at hs ht
            subst hs ht
            by_cases hlt : k < (firstT eb 0).length
            · have : decide ((k : Int) < ((firstT eb 0).length : Int)) = true := by simpa using hlt
              simp only [this, G.ct]
              refine Tot.liftB (idx_get hlt) ?_
              have hrange := (first_in eb 0).2 _ (List.getElem_mem hlt)
              rw [w64_of (by omega) (by omega)]
              refine Tot.liftB (app_of (by simp; omega) (by simp; omega)) ?_
              refine Tot.pure ⟨⟨k + 1, by rw [w64_of (by omega) (by omega)]; rfl, by omega, ?_⟩, ?_⟩
              · rw [List.take_succ_eq_append_getElem hlt, List.map_append, List.append_assoc]; rfl
              · simp only; rw [w64_of (by omega) (by omega)]; omega
            · have : decide ((k : Int) < ((firstT eb 0).length : Int)) = false := by simpa using hlt
              simp only [this, G.cf]
              refine Tot.pure ?_
              rw [List.take_of_length_le (by omega)]
              simp only [firstT]
              rw [firstT_shift eb 0]
          · have hw : w64 ((nset ea : Int) + (nset eb : Int)) = ((nset ea + nset eb : Nat) : Int) := by rw [w64_of (by omega) (by omega)]; simp
            have hfl := firstT_len (.alt ea eb) 0
            simp only [nset] at hfl
            simp only [nset, hw, decide_true, G.ct, G.bp, freeT]
            unfold g_ref09_SameInts
            refine Tot.liftB (a := true) (by rw [guardO_of (by omega)]; simp) ?_
            cases freeT ea <;> cases freeT eb <;> exact Tot.pure (a := true) rfl
      · simp only [ha, hb, not_true_eq_false, not_false_eq_true, decide_false, decide_true, Bool.not_false, Bool.false_or, Bool.or_true, G.ct, G.bp]
        exact Tot.pure rfl
    · simp only [ha, not_false_eq_true, decide_true, Bool.not_true, G.cf, G.bp, Bool.true_or, G.ct]
      exact Tot.pure rfl
  · simp only [Bool.not_true, Bool.true_or, G.cf, G.bp, G.ct]
    exact Tot.pure rfl
theorem SpotBehind_ok (a b : List Rx) : PCall Try.prog 3 [slX a, slX b] (· = B true) := by
  obtain ⟨n, h⟩ := (spotBehind_tot a b).run
  exact g_law10_SpotBehind_w h
end Go.Proofs.Ythcckhpogmlgjaa

/-
  From a law's contract (true comes back, nothing that was there has turned) to its row, whatever its parameters' shapes.
-/
namespace Go.Proofs.Ythcckhpogmlgjaa
open Go.ChangeShapes Go.WideShapes Go.ChangeAt Go.RowKit

theorem trodAll_below {H : Type} {enc : TypeId × Value → H} {P : Program} (hl : laidOutB P = true) {W W' : World} (hb : Below W.heap.size W W') :
    ∀ (ts : List TypeId) (vs : List Value) (ds : List (DataW H)) (ps : List MemPlace), (∀ t ∈ ts, P.readableRec t = true ∧ t < P.types.size) → (∀ x ∈ ps, x.block < W.heap.size) →
      DataW.TrodAll enc P W 0 (fun _ => true) true ts vs ds ps → DataW.TrodAll enc P W' 0 (fun b => decide (b < W.heap.size)) true ts vs ds ps
  | [], vs, ds, ps, _, _, h => by
    obtain ⟨rfl, rfl, rfl⟩ := trodAll_nil h
    exact trodAll_mk0
  | t :: ts, vs, ds, ps, hr, hlt, h => by
    obtain ⟨v, vs', d, ds', p, q, rfl, rfl, rfl, h0, h1⟩ := trodAll_cons h
    have ht := hr t (by simp)
    exact trodAll_cons_mk (Below.trod hl ht.1 ht.2 h0 hb fun x hx => hlt x (by simp [hx]))
      (trodAll_below hl hb ts vs' ds' q (fun t ht => hr t (by simp [ht])) (fun x hx => hlt x (by simp [hx])) h1)

/-- A LAW's row, out of its contract. -/
theorem law_post {H : Type} {enc : TypeId × Value → H} {P : Program} {f : Func} {s : ChangeSpec} {tB : TypeId} (hl : laidOutB P = true) (hr : (f.params.toList.all fun t => P.readableRec t && decide (t < P.types.size)) = true)
    (hvars : s.vars = []) (hbool : f.resultTypes = #[tB]) (hB : P.underlying tB = some .bool) {W W' : World} {args : Array Value} {ds gs : List (DataW H)} {before : List MemPlace}
    (hW : DataW.Whole enc P f.params.toList s.vars false W args.toList ds gs before) (hfn : s.fn H ds = { results := [.lit (.bool true)], args := ds }) (hb : Below W.heap.size W W') :
    s.post enc P f false true false false W args (.bool true) W' := by
  have hW' := hW
  obtain ⟨p, q, hA, hV, hbef, _, _⟩ := hW
  rw [hvars] at hV
  obtain ⟨rfl, rfl⟩ := trodVars_none hV
  rw [List.append_nil] at hbef
  subst hbef
  have hlt : ∀ x ∈ before, x.block < W.heap.size := fun x hx => by simpa using hW'.lt x hx
  have hr' : ∀ t ∈ f.params.toList, P.readableRec t = true ∧ t < P.types.size := by
    intro t ht
    have := List.all_eq_true.1 hr t ht
    simpa using this
  refine ⟨ds, [], before, [], before, [], hW', ?_, ?_, ?_, hb.frame _, fun h => by cases h⟩
  · rw [List.append_nil, hfn, hbool]
    exact trodAll_mk1 (shut_bool hB true)
  · rw [List.append_nil, hfn]
    exact trodAll_below hl hb _ _ _ _ hr' hlt hA
  · rw [List.append_nil, hfn, hvars]
    rfl

/-- an argument of type []int, as this family reads it -/
theorem open_I {H : Type} {enc : TypeId × Value → H} {P : Program} {t e : TypeId} {w : World} {base : Nat} {held : Bool} {fuel : Nat} {a0 : Option Addr} {len cap : Nat} {d : DataW H} {p : List MemPlace} (ht : P.underlying t = some (.slice e)) (he : P.underlying e = some (.int .i64)) (hc : P.cellsOf e = 1)
    (hf : DataW.trod enc P w base (fun _ => true) held fuel t (Value.slice a0 len cap).cells.toList = some (d, p)) :
    ∃ l : List Int, RdI w (.slice a0 len cap) l ∧ CapOK (.slice a0 len cap) ∧ ∀ x ∈ l, -9223372036854775808 ≤ x ∧ x ≤ 9223372036854775807 := by
  rcases open_ints ht he hc hf with ⟨hcs, hx⟩ | ⟨a, len', cap', zs, hcs, _, hl, hm, hz, hx, hcell, hwz⟩
  · simp [Value.cells] at hcs
    obtain ⟨rfl, rfl, rfl⟩ := hcs
    exact ⟨[], Rd_nil _ _ _, Nat.le_refl _, fun x hx => by cases hx⟩
  · simp [Value.cells] at hcs
    obtain ⟨rfl, rfl, rfl⟩ := hcs
    simp only [if_true] at hz
    refine ⟨zs.take len, ⟨some a, cap, ?_, fun j hj => ?_⟩, hl, fun x hx => ?_⟩
    · rw [List.length_take, Nat.min_eq_left (by omega)]
    · rw [List.length_take] at hj
      have hcj := hcell j (by omega)
      have hsp := World.cell?_spot (hcell 0 (by omega))
      obtain ⟨b, o, sp⟩ := a
      have hsp' : sp = none := by simpa [Addr.add] using hsp
      subst hsp'
      refine ⟨b, o, rfl, ?_⟩
      rw [add_plain] at hcj
      rw [hcj, List.getElem_take, List.getD_eq_getElem?_getD, List.getElem?_eq_getElem (by omega)]
      rfl
    · have := hwz x (List.mem_of_mem_take hx)
      simpa [Lit.wf, IntKind.min, IntKind.max, IntKind.signed, IntKind.bits] using this
end Go.Proofs.Ythcckhpogmlgjaa

/-
  An argument of type []api.Rx, as the rows read it.
-/
namespace Go.Proofs.Ythcckhpogmlgjaa
open Go Go.RowKit Go.ChangeShapes Go.WideShapes L
set_option linter.unusedVariables false
set_option linter.unusedSimpArgs false

theorem cellsRx : Try.prog.cellsOf 58 = 5 := by kernel_rfl
theorem cellsSetA : Try.prog.cellsOf 56 = 4 := by kernel_rfl
theorem cellsKd : Try.prog.cellsOf 53 = 1 := by kernel_rfl
theorem cellsU64 : Try.prog.cellsOf 54 = 1 := by kernel_rfl

instance : Inhabited Rx := ⟨⟨0, 0, 0, 0, 0⟩⟩
set_option maxRecDepth 20000 in
theorem open_rxcells {H : Type} {enc : TypeId × Value → H} {w : World} {base fuel : Nat} {spare : Nat → Bool} {held : Bool} {cs : List Value} {x : DataW H × List MemPlace} (h : DataW.trod enc Try.prog w base spare held fuel 58 cs = some x) :
    ∃ r : Rx, cs = [.int .i64 r.kind, .int .u64 r.s0, .int .u64 r.s1, .int .u64 r.s2, .int .u64 r.s3] := by
  obtain ⟨xs, n, _, _, hcl, hxl, hf⟩ := DataW.trod_struct Try.underlying58 h
  rw [cellsRx] at hcl
  match cs, hcl with
  | [v0, v1, v2, v3, v4], _ =>
    have g0 := hf 0 _ rfl
    have g1 := hf 1 _ rfl
    have hx2 : xs.length = 2 := hxl
    match xs, hx2 with
    | [y0, y1], _ =>
      simp [cellsKd, cellsSetA] at g0 g1
      obtain ⟨k, hk, _, _⟩ := DataW.trod_int Try.underlying53 g0
      obtain ⟨zs, m, _, _, _, hzl, hz⟩ := DataW.trod_array Try.underlying56 g1
      have e := fun (i : Nat) (hi : i < 4) => hz i hi
      match zs, hzl with
      | [z0, z1, z2, z3], _ =>
        have e0 := e 0 (by decide)
        have e1 := e 1 (by decide)
        have e2 := e 2 (by decide)
        have e3 := e 3 (by decide)
        simp [cellsU64] at e0 e1 e2 e3
        obtain ⟨s0, h0, _, _⟩ := DataW.trod_int Try.underlying54 e0
        obtain ⟨s1, h1, _, _⟩ := DataW.trod_int Try.underlying54 e1
        obtain ⟨s2, h2, _, _⟩ := DataW.trod_int Try.underlying54 e2
        obtain ⟨s3, h3, _, _⟩ := DataW.trod_int Try.underlying54 e3
        simp at hk h0 h1 h2 h3
        subst hk h0 h1 h2 h3
        exact ⟨⟨k, s0, s1, s2, s3⟩, rfl⟩

theorem open_Rx {H : Type} {enc : TypeId × Value → H} {w : World} {base fuel : Nat} {spare : Nat → Bool} {held : Bool} {a0 : Option Addr} {len cap : Nat} {d : DataW H} {p : List MemPlace}
    (h : DataW.trod enc Try.prog w base spare held fuel 22 (Value.slice a0 len cap).cells.toList = some (d, p)) :
    ∃ l : List Rx, Rp ⟨fun _ => False, 0⟩ PHeap.empty V0 w (slX l) (.slice a0 len cap) := by
  rcases Go.Deep.open_slice Try.underlying22 h with ⟨hcs, _⟩ | ⟨a, len', cap', m, n, D, Pl, hcs, hb, hl, hm, hmm, _, hx⟩
  · simp [Value.cells] at hcs
    obtain ⟨rfl, rfl, rfl⟩ := hcs
    exact ⟨[], .nil _ _ _⟩
  · simp [Value.cells] at hcs
    obtain ⟨rfl, rfl, rfl⟩ := hcs
    have hlm : len ≤ m := by rw [hmm]; split <;> omega
    by_cases h0 : len = 0
    · subst h0; exact ⟨[], .nil _ _ _⟩
    have each : ∀ i, i < m → ∃ r : Rx, w.cell? (a.add (i * 5)) = some (.int .i64 r.kind) ∧ w.cell? (a.add (i * 5 + 1)) = some (.int .u64 r.s0) ∧ w.cell? (a.add (i * 5 + 2)) = some (.int .u64 r.s1) ∧ w.cell? (a.add (i * 5 + 3)) = some (.int .u64 r.s2) ∧ w.cell? (a.add (i * 5 + 4)) = some (.int .u64 r.s3) := fun i hi => by
      obtain ⟨cs', h1, h2⟩ := hx i hi
      rw [cellsRx] at h1
      obtain ⟨_, hlen, hcell⟩ := World.cells?_some h1
      obtain ⟨r, rfl⟩ := open_rxcells h2
      have e0 := hcell 0 (by decide)
      have e1 := hcell 1 (by decide)
      have e2 := hcell 2 (by decide)
      have e3 := hcell 3 (by decide)
      have e4 := hcell 4 (by decide)
      rw [Go.Deep.add_add] at e0 e1 e2 e3 e4
      exact ⟨r, e0, e1, e2, e3, e4⟩
    obtain ⟨q, hq⟩ := Go.Deep.choose_lt each
    obtain ⟨b, o, spot⟩ := a
    have hspot : spot = none := by
      have := (hq 0 (by omega)).1
      simpa [Addr.add] using World.cell?_spot this
    subst hspot
    have hbl : b < w.heap.size := by
      have := (hq 0 (by omega)).1
      unfold World.cell? at this
      by_cases hlt : b < w.heap.size
      · exact hlt
      · simp [Addr.add, Array.getElem?_eq_none (by omega : w.heap.size ≤ b)] at this
    refine ⟨(List.range len).map q, ?_⟩
    have hu : ∀ y ∈ ((List.range len).map q).map encX, y.cells.length = 5 := fun y hy => by obtain ⟨z, _, rfl⟩ := List.mem_map.1 hy; rfl
    have hlx : (((List.range len).map q).map encX).length = len := by simp
    have hfl : ∀ (xs : List PV), (∀ y ∈ xs, y.cells.length = 5) → (xs.flatMap PV.cells).length = xs.length * 5 := fun xs hxs => flat_length xs hxs
    have key : ∀ (i : Nat) (p : PV), ((((List.range len).map q).map encX).flatMap PV.cells)[i]? = some p → ∃ v, p = .u v ∧ w.cell? ⟨b, o + i, none⟩ = some v := fun i p hp => by
      have hi : i < len * 5 := by
        have := (List.getElem?_eq_some_iff.1 hp).1
        rw [hfl _ hu, hlx] at this
        exact this
      have hj : i / 5 < len := by omega
      have hk : i % 5 < 5 := by omega
      have hy : (((List.range len).map q).map encX)[i / 5]? = some (encX (q (i / 5))) := by simp [hj]
      have e := flat_at hu (i / 5) (i % 5) _ hy hk
      rw [show i / 5 * 5 + i % 5 = i by omega, hp] at e
      obtain ⟨c0, c1, c2, c3, c4⟩ := hq (i / 5) (by omega)
      have hadd : ∀ k, w.cell? ((⟨b, o, none⟩ : Addr).add k) = w.cell? ⟨b, o + k, none⟩ := fun k => by rw [addr_add]
      rw [hadd] at c0 c1 c2 c3 c4
      have h5 : i % 5 = 0 ∨ i % 5 = 1 ∨ i % 5 = 2 ∨ i % 5 = 3 ∨ i % 5 = 4 := by omega
      rcases h5 with h5 | h5 | h5 | h5 | h5 <;> rw [h5] at e <;> simp [encX, PV.cells] at e <;> subst e
      · exact ⟨_, rfl, by rw [show o + i = o + i / 5 * 5 by omega]; exact c0⟩
      · exact ⟨_, rfl, by rw [show o + i = o + (i / 5 * 5 + 1) by omega]; exact c1⟩
      · exact ⟨_, rfl, by rw [show o + i = o + (i / 5 * 5 + 2) by omega]; exact c2⟩
      · exact ⟨_, rfl, by rw [show o + i = o + (i / 5 * 5 + 3) by omega]; exact c3⟩
      · exact ⟨_, rfl, by rw [show o + i = o + (i / 5 * 5 + 4) by omega]; exact c4⟩
    have hsl := Rp.sl (Z := ⟨fun _ => False, 0⟩) (H := PHeap.empty) (V := V0) (w := w) 5 (((List.range len).map q).map encX) b o cap (fun i => (w.cell? ⟨b, o + i, none⟩).getD undef) hu (by simpa using hl) (fun h => False.elim (pz_empty.1 h)) hbl
      (fun i p hp => by obtain ⟨v, _, hv⟩ := key i p hp; rw [hv]; rfl) (fun i p hp => by obtain ⟨v, rfl, hv⟩ := key i p hp; simp only [hv, Option.getD_some]; exact .u v)
    rwa [hlx] at hsl

/-- a law's contract over pure values, as a row takes it -/
theorem law_calls {f : FuncId} {qs : List PV} (h : PCall Try.prog f qs (· = B true)) {w : World} {vs : List Value} (hr : RpL ⟨fun _ => False, 0⟩ PHeap.empty V0 w qs vs) : Calls Try.prog f vs.toArray w fun e w' => e = .returned (.bool true) ∧ Below w.heap.size w w' :=
  (h ⟨fun _ => False, 0⟩ w vs (fun b hb => False.elim hb) (Nat.zero_le _) hr).mono fun e w' ⟨v, p, he, hp, _, hR, hb⟩ => by
    subst hp
    rw [rpu hR] at he
    exact ⟨he, hb⟩
theorem rpl_nil {Z : ZM} {H : PHeap} {V : Nat → Value} {w : World} : RpL Z H V w [] [] := ⟨rfl, fun i p v h => by simp at h⟩
theorem rpl_cons {Z : ZM} {H : PHeap} {V : Nat → Value} {w : World} {p : PV} {v : Value} {ps : List PV} {vs : List Value} (h : Rp Z H V w p v) (hs : RpL Z H V w ps vs) : RpL Z H V w (p :: ps) (v :: vs) := ⟨by simp [hs.1], fun i a b h1 h2 => by
  cases i with
  | zero => simp at h1 h2; subst h1; subst h2; exact h
  | succ i => exact hs.2 i a b (by simpa using h1) (by simpa using h2)⟩
section
variable {P : Program} {H : Type} {enc : TypeId × Value → H} {w : World} {base b0 : Nat} {spare : Nat → Bool} {held : Bool}
theorem open_string {r : Reach} {t : TypeId} {v : Value} {d : DataW H} {ps : List MemPlace} (ht : P.underlying t = some .string) (hval : Value.okWide P w r b0 t v) (hd : DataW.Trod enc P w base spare held t v d ps) :
    ∃ s : ByteArray, v = .string s ∧ d = .lit (.string s.data.toList) ∧ ps = [] ∧ s.size ≤ maxLen := by
  obtain ⟨s, rfl⟩ := Go.WideShapes.okWide_string ht hval
  obtain ⟨fuel, hf⟩ := hd
  cases fuel with
  | zero => simp [DataW.trod] at hf
  | succ n =>
    simp [DataW.trod, ht, Value.cells] at hf
    obtain ⟨h1, h2, h3⟩ := hf
    exact ⟨s, rfl, h2.symm, h3, h1⟩
end
end Go.Proofs.Ythcckhpogmlgjaa
