/-
  Every step of a tree's is the last one of a part: plain facts; no program here.
-/
import Derived.Test.YtficeeaaaijgcaaTree
namespace Go.Proofs.Ytficeeaaaijgcaa
def subs : E → Int → List (E × Int)
  | .set a b c d, n => [(.set a b c d, n)]
  | .empty, n => [(.empty, n)]
  | .cat a b, n => subs a n ++ (subs b (n + nset a) ++ [(.cat a b, n)])
  | .alt a b, n => subs a n ++ (subs b (n + nset a) ++ [(.alt a b, n)])
  | .star a, n => subs a n ++ [(.star a, n)]
  | .plus a, n => subs a n ++ [(.plus a, n)]
  | .opt a, n => subs a n ++ [(.opt a, n)]
theorem subs_len (e : E) : ∀ n, (subs e n).length = (post e).length := by
  induction e <;> intro n <;> simp_all [subs, post]
def rootB : E → Int → Int → Int → Bool
  | .cat x y, n, i, j => decide (i ∈ lastT x n) && decide (j ∈ firstT y (n + nset x))
  | .star x, n, i, j => decide (i ∈ lastT x n) && decide (j ∈ firstT x n)
  | .plus x, n, i, j => decide (i ∈ lastT x n) && decide (j ∈ firstT x n)
  | _, _, _, _ => false
def folB (e : E) (n i j : Int) : Bool := (subs e n).any fun x => rootB x.1 x.2 i j
theorem rootB_cat (a b : E) (n i j : Int) : rootB (.cat a b) n i j = true ↔ (i ∈ lastT a n ∧ j ∈ firstT b (n + nset a)) := by simp [rootB]
theorem rootB_star (a : E) (n i j : Int) : rootB (.star a) n i j = true ↔ (i ∈ lastT a n ∧ j ∈ firstT a n) := by simp [rootB]
theorem rootB_plus (a : E) (n i j : Int) : rootB (.plus a) n i j = true ↔ (i ∈ lastT a n ∧ j ∈ firstT a n) := by simp [rootB]
theorem any_snoc {α : Type} (l : List α) (x : α) (p : α → Bool) : (l ++ [x]).any p = true ↔ l.any p = true ∨ p x = true := by simp
theorem any_app {α : Type} (l m : List α) (p : α → Bool) : (l ++ m).any p = true ↔ l.any p = true ∨ m.any p = true := by simp
theorem folB_iff (e : E) : ∀ n i j, folB e n i j = true ↔ folT e n i j := by
  induction e with
  | set => intro n i j; simp [folB, subs, rootB, folT]
  | empty => intro n i j; simp [folB, subs, rootB, folT]
  | cat a b iha ihb =>
    intro n i j
    unfold folB subs folT
    rw [any_app, any_snoc, rootB_cat]
    exact or_congr (iha n i j) (or_congr (ihb _ i j) Iff.rfl)
  | alt a b iha ihb =>
    intro n i j
    unfold folB subs folT
    rw [any_app, any_snoc]
    refine or_congr (iha n i j) ?_
    rw [show rootB (E.alt a b) n i j = false from rfl, Bool.false_eq_true, or_false]
    exact ihb _ i j
  | star a iha =>
    intro n i j
    unfold folB subs folT
    rw [any_snoc, rootB_star]
    exact or_congr (iha n i j) Iff.rfl
  | plus a iha =>
    intro n i j
    unfold folB subs folT
    rw [any_snoc, rootB_plus]
    exact or_congr (iha n i j) Iff.rfl
  | opt a iha =>
    intro n i j
    unfold folB subs folT
    rw [any_snoc, show rootB (E.opt a) n i j = false from rfl, Bool.false_eq_true, or_false]
    exact iha n i j

theorem subs_at (l : List Rx) (e : E) : ∀ (s t : Nat), AtT l s e t → ∀ (k : Nat) (x : E × Int), (subs e (numL l s))[k]? = some x → ∃ s', AtT l s' x.1 (s + k + 1) ∧ (numL l s' : Int) = x.2 := by
  induction e with
  | set a b c d =>
    intro s t h k x hx
    have h' := h
    obtain ⟨pre, suf, _, rfl, rfl⟩ := h'
    match k, hx with
    | 0, hx => simp [subs] at hx; subst hx; exact ⟨_, by simpa [post] using h, rfl⟩
    | k + 1, hx => simp [subs] at hx
  | empty =>
    intro s t h k x hx
    have h' := h
    obtain ⟨pre, suf, _, rfl, rfl⟩ := h'
    match k, hx with
    | 0, hx => simp [subs] at hx; subst hx; exact ⟨_, by simpa [post] using h, rfl⟩
    | k + 1, hx => simp [subs] at hx
  | cat a b iha ihb =>
    intro s t h k x hx
    obtain ⟨m, ha, hb, hsm, hmt⟩ := h.cat
    have hn := ha.num
    have la : (post a).length = m - s := by obtain ⟨_, _, _, rfl, rfl⟩ := ha; omega
    have lb : (post b).length = t - 1 - m := by obtain ⟨_, _, _, h1, h2⟩ := hb; omega
    simp only [subs] at hx
    by_cases h1 : k < (post a).length
    · rw [List.getElem?_append_left (by rw [subs_len]; exact h1)] at hx
      exact iha s m ha k x hx
    · rw [List.getElem?_append_right (by rw [subs_len]; omega), subs_len] at hx
      by_cases h2 : k - (post a).length < (post b).length
      · rw [List.getElem?_append_left (by rw [subs_len]; exact h2)] at hx
        obtain ⟨s', h3, h4⟩ := ihb m (t - 1) hb _ x (by rw [hn]; simpa using hx)
        exact ⟨s', by rw [show s + k + 1 = m + (k - (post a).length) + 1 from by omega]; exact h3, h4⟩
      · rw [List.getElem?_append_right (by rw [subs_len]; omega), subs_len] at hx
        match hk : k - (post a).length - (post b).length, hx with
        | 0, hx => simp at hx; subst hx; exact ⟨s, by rw [show s + k + 1 = t from by omega]; exact h, rfl⟩
        | q + 1, hx => simp at hx
  | alt a b iha ihb =>
    intro s t h k x hx
    obtain ⟨m, ha, hb, hsm, hmt⟩ := h.alt
    have hn := ha.num
    have la : (post a).length = m - s := by obtain ⟨_, _, _, rfl, rfl⟩ := ha; omega
    have lb : (post b).length = t - 1 - m := by obtain ⟨_, _, _, h1, h2⟩ := hb; omega
    simp only [subs] at hx
    by_cases h1 : k < (post a).length
    · rw [List.getElem?_append_left (by rw [subs_len]; exact h1)] at hx
      exact iha s m ha k x hx
    · rw [List.getElem?_append_right (by rw [subs_len]; omega), subs_len] at hx
      by_cases h2 : k - (post a).length < (post b).length
      · rw [List.getElem?_append_left (by rw [subs_len]; exact h2)] at hx
        obtain ⟨s', h3, h4⟩ := ihb m (t - 1) hb _ x (by rw [hn]; simpa using hx)
        exact ⟨s', by rw [show s + k + 1 = m + (k - (post a).length) + 1 from by omega]; exact h3, h4⟩
      · rw [List.getElem?_append_right (by rw [subs_len]; omega), subs_len] at hx
        match hk : k - (post a).length - (post b).length, hx with
        | 0, hx => simp at hx; subst hx; exact ⟨s, by rw [show s + k + 1 = t from by omega]; exact h, rfl⟩
        | q + 1, hx => simp at hx
  | star a iha =>
    intro s t h k x hx
    have ha := h.star
    have hb := h.bound
    have la : (post a).length = t - 1 - s := by obtain ⟨_, _, _, h1, h2⟩ := ha; omega
    simp only [subs] at hx
    by_cases h1 : k < (post a).length
    · rw [List.getElem?_append_left (by rw [subs_len]; exact h1)] at hx
      exact iha s (t - 1) ha k x hx
    · rw [List.getElem?_append_right (by rw [subs_len]; omega), subs_len] at hx
      match hk : k - (post a).length, hx with
      | 0, hx => simp at hx; subst hx; exact ⟨s, by rw [show s + k + 1 = t from by omega]; exact h, rfl⟩
      | q + 1, hx => simp at hx
  | plus a iha =>
    intro s t h k x hx
    have ha := h.plus
    have hb := h.bound
    have la : (post a).length = t - 1 - s := by obtain ⟨_, _, _, h1, h2⟩ := ha; omega
    simp only [subs] at hx
    by_cases h1 : k < (post a).length
    · rw [List.getElem?_append_left (by rw [subs_len]; exact h1)] at hx
      exact iha s (t - 1) ha k x hx
    · rw [List.getElem?_append_right (by rw [subs_len]; omega), subs_len] at hx
      match hk : k - (post a).length, hx with
      | 0, hx => simp at hx; subst hx; exact ⟨s, by rw [show s + k + 1 = t from by omega]; exact h, rfl⟩
      | q + 1, hx => simp at hx
  | opt a iha =>
    intro s t h k x hx
    have ha := h.opt
    have hb := h.bound
    have la : (post a).length = t - 1 - s := by obtain ⟨_, _, _, h1, h2⟩ := ha; omega
    simp only [subs] at hx
    by_cases h1 : k < (post a).length
    · rw [List.getElem?_append_left (by rw [subs_len]; exact h1)] at hx
      exact iha s (t - 1) ha k x hx
    · rw [List.getElem?_append_right (by rw [subs_len]; omega), subs_len] at hx
      match hk : k - (post a).length, hx with
      | 0, hx => simp at hx; subst hx; exact ⟨s, by rw [show s + k + 1 = t from by omega]; exact h, rfl⟩
      | q + 1, hx => simp at hx
end Go.Proofs.Ytficeeaaaijgcaa
