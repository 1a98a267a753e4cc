/-
  Expressions as trees, and the steps that a tree is: plain facts; no program here.
-/
import Derived.Test.YtficeeaaaijgcaaRxFn
namespace Go.Proofs.Ytficeeaaaijgcaa

inductive E where
  | set (s0 s1 s2 s3 : Int)
  | empty
  | cat (a b : E)
  | alt (a b : E)
  | star (a : E)
  | plus (a : E)
  | opt (a : E)

def bareX (k : Int) : Rx := ⟨k, 0, 0, 0, 0⟩
def post : E → List Rx
  | .set s0 s1 s2 s3 => [⟨1, s0, s1, s2, s3⟩]
  | .empty => [bareX 2]
  | .cat a b => post a ++ (post b ++ [bareX 3])
  | .alt a b => post a ++ (post b ++ [bareX 4])
  | .star a => post a ++ [bareX 5]
  | .plus a => post a ++ [bareX 6]
  | .opt a => post a ++ [bareX 7]

theorem post_pos (e : E) : 0 < (post e).length := by cases e <;> simp [post] <;> omega

def flat (st : List E) : List Rx := (st.reverse).flatMap post
theorem flat_cons (e : E) (st : List E) : flat (e :: st) = flat st ++ post e := by simp [flat]

theorem bare_eq (x : Rx) (h : x.bare = true) : x = bareX x.kind := by
  obtain ⟨k, a, b, c, d⟩ := x
  simp [Rx.bare, setEq] at h
  simp [bareX, h]

theorem parse_of (l : List Rx) : ∀ (st : List E), checkLoop l st.length = 0 → ∃ e, flat st ++ l = post e := by
  induction l with
  | nil =>
    intro st h
    rw [checkLoop] at h
    split at h
    · rename_i h1
      match st, h1 with
      | [e], _ => exact ⟨e, by simp [flat]⟩
      | [], h1 => simp at h1
      | _ :: _ :: _, h1 => simp at h1; omega
    · omega
  | cons x r ih =>
    intro st h
    rw [checkLoop] at h
    split at h
    · omega
    · rename_i h1
      split at h
      · omega
      · rename_i h2
        have hk : x.kind = 1 ∨ x.kind = 2 ∨ x.kind = 3 ∨ x.kind = 4 ∨ x.kind = 5 ∨ x.kind = 6 ∨ x.kind = 7 := by
          have : ¬ ofK x.kind < 0 := fun h => h1 (Or.inl h)
          unfold ofK at this
          split at this
          · omega
          · split at this
            · omega
            · split at this <;> omega
        have hb : x.kind ≠ 1 → x = bareX x.kind := fun hne => bare_eq x (by
          cases hbb : x.bare
          · exact absurd (Or.inr ⟨hne, hbb⟩) h1
          · rfl)
        rcases hk with hk | hk | hk | hk | hk | hk | hk
        · have hx : x = ⟨1, x.s0, x.s1, x.s2, x.s3⟩ := by rw [← hk]
          have ho : ofK x.kind = 0 := by rw [hk]; rfl
          obtain ⟨e, he⟩ := ih (.set x.s0 x.s1 x.s2 x.s3 :: st) (by rw [ho] at h; simpa using h)
          exact ⟨e, by rw [← he, flat_cons, hx]; simp [post]⟩
        · have hx := hb (by omega)
          rw [hk] at hx
          have ho : ofK x.kind = 0 := by rw [hk]; rfl
          obtain ⟨e, he⟩ := ih (.empty :: st) (by rw [ho] at h; simpa using h)
          exact ⟨e, by rw [← he, flat_cons, hx]; simp [post]⟩
        · have hx := hb (by omega)
          rw [hk] at hx
          have ho : ofK x.kind = 2 := by rw [hk]; rfl
          rw [ho] at h h2
          match st, h, h2 with
          | b :: a :: st, h, _ =>
            obtain ⟨e, he⟩ := ih (.cat a b :: st) (by rw [← h]; congr 1; simp; omega)
            exact ⟨e, by rw [← he, flat_cons, flat_cons, flat_cons, hx]; simp [post]⟩
          | [], _, h2 => simp at h2
          | [_], _, h2 => simp at h2
        · have hx := hb (by omega)
          rw [hk] at hx
          have ho : ofK x.kind = 2 := by rw [hk]; rfl
          rw [ho] at h h2
          match st, h, h2 with
          | b :: a :: st, h, _ =>
            obtain ⟨e, he⟩ := ih (.alt a b :: st) (by rw [← h]; congr 1; simp; omega)
            exact ⟨e, by rw [← he, flat_cons, flat_cons, flat_cons, hx]; simp [post]⟩
          | [], _, h2 => simp at h2
          | [_], _, h2 => simp at h2
        · have hx := hb (by omega)
          rw [hk] at hx
          have ho : ofK x.kind = 1 := by rw [hk]; rfl
          rw [ho] at h h2
          match st, h, h2 with
          | a :: st, h, _ =>
            obtain ⟨e, he⟩ := ih (.star a :: st) (by rw [← h]; congr 1; simp)
            exact ⟨e, by rw [← he, flat_cons, flat_cons, hx]; simp [post]⟩
          | [], _, h2 => simp at h2
        · have hx := hb (by omega)
          rw [hk] at hx
          have ho : ofK x.kind = 1 := by rw [hk]; rfl
          rw [ho] at h h2
          match st, h, h2 with
          | a :: st, h, _ =>
            obtain ⟨e, he⟩ := ih (.plus a :: st) (by rw [← h]; congr 1; simp)
            exact ⟨e, by rw [← he, flat_cons, flat_cons, hx]; simp [post]⟩
          | [], _, h2 => simp at h2
        · have hx := hb (by omega)
          rw [hk] at hx
          have ho : ofK x.kind = 1 := by rw [hk]; rfl
          rw [ho] at h h2
          match st, h, h2 with
          | a :: st, h, _ =>
            obtain ⟨e, he⟩ := ih (.opt a :: st) (by rw [← h]; congr 1; simp)
            exact ⟨e, by rw [← he, flat_cons, flat_cons, hx]; simp [post]⟩
          | [], _, h2 => simp at h2

/-- steps that are an expression are a tree's -/
theorem tree_of (l : List Rx) (h : checkL l = 0) : l.length ≤ 512 ∧ ∃ e, l = post e := by
  unfold checkL at h
  split at h
  · omega
  · obtain ⟨e, he⟩ := parse_of l [] h
    exact ⟨by omega, e, by simpa [flat] using he⟩

theorem check_post (e : E) : ∀ (r : List Rx) (q : Int), 0 ≤ q → checkLoop (post e ++ r) q = checkLoop r (q + 1) := by
  induction e with
  | set s0 s1 s2 s3 => intro r q hq; simp [post, checkLoop, ofK]; omega
  | empty => intro r q hq; simp [post, bareX, checkLoop, ofK, Rx.bare, setEq]; omega
  | cat a b iha ihb =>
    intro r q hq
    simp only [post, List.append_assoc]
    rw [iha _ q hq, ihb _ (q + 1) (by omega)]
    simp [bareX, checkLoop, ofK, Rx.bare, setEq]
    rw [if_neg (by omega)]; congr 1; omega
  | alt a b iha ihb =>
    intro r q hq
    simp only [post, List.append_assoc]
    rw [iha _ q hq, ihb _ (q + 1) (by omega)]
    simp [bareX, checkLoop, ofK, Rx.bare, setEq]
    rw [if_neg (by omega)]; congr 1; omega
  | star a iha =>
    intro r q hq
    simp only [post, List.append_assoc]
    rw [iha _ q hq]
    simp [bareX, checkLoop, ofK, Rx.bare, setEq]
    omega
  | plus a iha =>
    intro r q hq
    simp only [post, List.append_assoc]
    rw [iha _ q hq]
    simp [bareX, checkLoop, ofK, Rx.bare, setEq]
    omega
  | opt a iha =>
    intro r q hq
    simp only [post, List.append_assoc]
    rw [iha _ q hq]
    simp [bareX, checkLoop, ofK, Rx.bare, setEq]
    omega
theorem check_tree (e : E) (h : (post e).length ≤ 512) : checkL (post e) = 0 := by
  unfold checkL
  rw [if_neg (by omega)]
  have := check_post e [] 0 (by omega)
  rw [List.append_nil] at this
  rw [this]
  rfl

/- the spots: how many, which may be first and last, whether none need be, which follow -/
def nset : E → Nat
  | .set .. => 1 | .empty => 0 | .cat a b => nset a + nset b | .alt a b => nset a + nset b | .star a => nset a | .plus a => nset a | .opt a => nset a
def freeT : E → Bool
  | .set .. => false | .empty => true | .cat a b => freeT a && freeT b | .alt a b => freeT a || freeT b | .star _ => true | .plus a => freeT a | .opt _ => true
def firstT : E → Int → List Int
  | .set .., n => [n] | .empty, _ => []
  | .cat a b, n => firstT a n ++ (if freeT a then firstT b (n + nset a) else [])
  | .alt a b, n => firstT a n ++ firstT b (n + nset a)
  | .star a, n => firstT a n | .plus a, n => firstT a n | .opt a, n => firstT a n
def lastT : E → Int → List Int
  | .set .., n => [n] | .empty, _ => []
  | .cat a b, n => (if freeT b then lastT a n else []) ++ lastT b (n + nset a)
  | .alt a b, n => lastT a n ++ lastT b (n + nset a)
  | .star a, n => lastT a n | .plus a, n => lastT a n | .opt a, n => lastT a n
def folT : E → Int → Int → Int → Prop
  | .set .., _, _, _ => False | .empty, _, _, _ => False
  | .cat a b, n, i, j => folT a n i j ∨ folT b (n + nset a) i j ∨ (i ∈ lastT a n ∧ j ∈ firstT b (n + nset a))
  | .alt a b, n, i, j => folT a n i j ∨ folT b (n + nset a) i j
  | .star a, n, i, j => folT a n i j ∨ (i ∈ lastT a n ∧ j ∈ firstT a n)
  | .plus a, n, i, j => folT a n i j ∨ (i ∈ lastT a n ∧ j ∈ firstT a n)
  | .opt a, n, i, j => folT a n i j
def setsT : E → List Rx
  | .set a b c d => [⟨1, a, b, c, d⟩] | .empty => [] | .cat a b => setsT a ++ setsT b | .alt a b => setsT a ++ setsT b | .star a => setsT a | .plus a => setsT a | .opt a => setsT a
theorem setsT_len (e : E) : (setsT e).length = nset e := by
  induction e <;> simp_all [setsT, nset]
theorem setsT_filter (e : E) : (post e).filter (fun x => x.kind == 1) = setsT e := by
  induction e <;> simp_all [setsT, post, bareX]
theorem nset_le (e : E) : nset e ≤ (post e).length := by
  rw [← setsT_len, ← setsT_filter]; exact List.length_filter_le _ _

def Rises (l : List Int) : Prop := l.Pairwise (· < ·)
theorem rises_append {a b : List Int} {m : Int} (ha : Rises a) (hb : Rises b) (h1 : ∀ x ∈ a, x < m) (h2 : ∀ x ∈ b, m ≤ x) : Rises (a ++ b) := by
  unfold Rises
  rw [List.pairwise_append]
  exact ⟨ha, hb, fun x hx y hy => by have := h1 x hx; have := h2 y hy; omega⟩
theorem first_in (e : E) : ∀ n : Int, Rises (firstT e n) ∧ ∀ x ∈ firstT e n, n ≤ x ∧ x < n + nset e := by
  induction e with
  | set => intro n; exact ⟨by simp [firstT, Rises], by simp [firstT, nset]; omega⟩
  | empty => intro n; exact ⟨by simp [firstT, Rises], by simp [firstT]⟩
  | cat a b iha ihb =>
    intro n
    obtain ⟨h1, h2⟩ := iha n
    obtain ⟨h3, h4⟩ := ihb (n + nset a)
    refine ⟨?_, ?_⟩
    · simp only [firstT]
      split
      · exact rises_append h1 h3 (fun x hx => (h2 x hx).2) (fun x hx => (h4 x hx).1)
      · simpa using h1
    · intro x hx
      simp only [firstT, List.mem_append] at hx
      simp only [nset]
      rcases hx with hx | hx
      · have := h2 x hx; omega
      · split at hx
        · have := h4 x hx; omega
        · cases hx
  | alt a b iha ihb =>
    intro n
    obtain ⟨h1, h2⟩ := iha n
    obtain ⟨h3, h4⟩ := ihb (n + nset a)
    refine ⟨rises_append h1 h3 (fun x hx => (h2 x hx).2) (fun x hx => (h4 x hx).1), ?_⟩
    intro x hx
    simp only [firstT, List.mem_append] at hx
    simp only [nset]
    rcases hx with hx | hx
    · have := h2 x hx; omega
    · have := h4 x hx; omega
  | star a ih => exact ih
  | plus a ih => exact ih
  | opt a ih => exact ih
theorem last_in (e : E) : ∀ n : Int, Rises (lastT e n) ∧ ∀ x ∈ lastT e n, n ≤ x ∧ x < n + nset e := by
  induction e with
  | set => intro n; exact ⟨by simp [lastT, Rises], by simp [lastT, nset]; omega⟩
  | empty => intro n; exact ⟨by simp [lastT, Rises], by simp [lastT]⟩
  | cat a b iha ihb =>
    intro n
    obtain ⟨h1, h2⟩ := iha n
    obtain ⟨h3, h4⟩ := ihb (n + nset a)
    refine ⟨?_, ?_⟩
    · simp only [lastT]
      split
      · exact rises_append h1 h3 (fun x hx => (h2 x hx).2) (fun x hx => (h4 x hx).1)
      · simpa using h3
    · intro x hx
      simp only [lastT, List.mem_append] at hx
      simp only [nset]
      rcases hx with hx | hx
      · split at hx
        · have := h2 x hx; omega
        · cases hx
      · have := h4 x hx; omega
  | alt a b iha ihb =>
    intro n
    obtain ⟨h1, h2⟩ := iha n
    obtain ⟨h3, h4⟩ := ihb (n + nset a)
    refine ⟨rises_append h1 h3 (fun x hx => (h2 x hx).2) (fun x hx => (h4 x hx).1), ?_⟩
    intro x hx
    simp only [lastT, List.mem_append] at hx
    simp only [nset]
    rcases hx with hx | hx
    · have := h2 x hx; omega
    · have := h4 x hx; omega
  | star a ih => exact ih
  | plus a ih => exact ih
  | opt a ih => exact ih
theorem fol_in (e : E) : ∀ n i j : Int, folT e n i j → (n ≤ i ∧ i < n + nset e) ∧ n ≤ j ∧ j < n + nset e := by
  induction e with
  | set => intro n i j h; exact h.elim
  | empty => intro n i j h; exact h.elim
  | cat a b iha ihb =>
    intro n i j h
    simp only [nset]
    rcases h with h | h | ⟨h, h'⟩
    · have := iha n i j h; omega
    · have := ihb _ i j h; omega
    · have := (last_in a n).2 i h; have := (first_in b _).2 j h'; omega
  | alt a b iha ihb =>
    intro n i j h
    simp only [nset]
    rcases h with h | h
    · have := iha n i j h; omega
    · have := ihb _ i j h; omega
  | star a ih =>
    intro n i j h
    simp only [nset]
    rcases h with h | ⟨h, h'⟩
    · have := ih n i j h; omega
    · have := (last_in a n).2 i h; have := (first_in a n).2 j h'; omega
  | plus a ih =>
    intro n i j h
    simp only [nset]
    rcases h with h | ⟨h, h'⟩
    · have := ih n i j h; omega
    · have := (last_in a n).2 i h; have := (first_in a n).2 j h'; omega
  | opt a ih => exact ih

/-- the tree e stands in l from s to t -/
def AtT (l : List Rx) (s : Nat) (e : E) (t : Nat) : Prop := ∃ pre suf, l = pre ++ post e ++ suf ∧ s = pre.length ∧ t = s + (post e).length
def kindT : E → Int | .set .. => 1 | .empty => 2 | .cat .. => 3 | .alt .. => 4 | .star _ => 5 | .plus _ => 6 | .opt _ => 7
theorem AtT.whole (e : E) : AtT (post e) 0 e (post e).length := ⟨[], [], by simp, rfl, by simp⟩
theorem AtT.bound {l : List Rx} {s t : Nat} {e : E} (h : AtT l s e t) : s < t ∧ t ≤ l.length := by
  obtain ⟨pre, suf, rfl, rfl, rfl⟩ := h
  have := post_pos e
  simp; omega
theorem post_last (e : E) : (post e).getLast? = some (match e with | .set a b c d => ⟨1, a, b, c, d⟩ | e => bareX (kindT e)) := by
  cases e <;> simp [post, kindT]
theorem AtT.kind {l : List Rx} {s t : Nat} {e : E} (h : AtT l s e t) (j : Nat) (hj : j < l.length) (hjt : j + 1 = t) : l[j].kind = kindT e := by
  obtain ⟨pre, suf, rfl, rfl, rfl⟩ := h
  have hp := post_pos e
  have hl := post_last e
  rw [List.getLast?_eq_getElem?] at hl
  have e1 : (pre ++ post e ++ suf)[j]? = (post e)[(post e).length - 1]? := by
    rw [List.append_assoc, List.getElem?_append_right (by omega), List.getElem?_append_left (by omega)]
    congr 1; omega
  rw [hl, List.getElem?_eq_getElem hj, Option.some.injEq] at e1
  rw [e1]
  cases e <;> rfl
theorem AtT.cat {l : List Rx} {s t : Nat} {a b : E} (h : AtT l s (.cat a b) t) : ∃ m, AtT l s a m ∧ AtT l m b (t - 1) ∧ s < m ∧ m < t - 1 := by
  obtain ⟨pre, suf, rfl, rfl, rfl⟩ := h
  have := post_pos a; have := post_pos b
  refine ⟨pre.length + (post a).length, ⟨pre, post b ++ [bareX 3] ++ suf, by simp [post], rfl, rfl⟩, ⟨pre ++ post a, [bareX 3] ++ suf, by simp [post], by simp, by simp [post]; omega⟩, by omega, by simp [post]; omega⟩
theorem AtT.alt {l : List Rx} {s t : Nat} {a b : E} (h : AtT l s (.alt a b) t) : ∃ m, AtT l s a m ∧ AtT l m b (t - 1) ∧ s < m ∧ m < t - 1 := by
  obtain ⟨pre, suf, rfl, rfl, rfl⟩ := h
  have := post_pos a; have := post_pos b
  refine ⟨pre.length + (post a).length, ⟨pre, post b ++ [bareX 4] ++ suf, by simp [post], rfl, rfl⟩, ⟨pre ++ post a, [bareX 4] ++ suf, by simp [post], by simp, by simp [post]; omega⟩, by omega, by simp [post]; omega⟩
theorem AtT.star {l : List Rx} {s t : Nat} {a : E} (h : AtT l s (.star a) t) : AtT l s a (t - 1) := by
  obtain ⟨pre, suf, rfl, rfl, rfl⟩ := h
  exact ⟨pre, [bareX 5] ++ suf, by simp [post], rfl, by simp [post]⟩
theorem AtT.plus {l : List Rx} {s t : Nat} {a : E} (h : AtT l s (.plus a) t) : AtT l s a (t - 1) := by
  obtain ⟨pre, suf, rfl, rfl, rfl⟩ := h
  exact ⟨pre, [bareX 6] ++ suf, by simp [post], rfl, by simp [post]⟩
theorem AtT.opt {l : List Rx} {s t : Nat} {a : E} (h : AtT l s (.opt a) t) : AtT l s a (t - 1) := by
  obtain ⟨pre, suf, rfl, rfl, rfl⟩ := h
  exact ⟨pre, [bareX 7] ++ suf, by simp [post], rfl, by simp [post]⟩
/-- how many sets stand ahead of a step -/
def numL (l : List Rx) (i : Nat) : Nat := ((l.take i).filter fun x => x.kind == 1).length
theorem numL_succ (l : List Rx) (k : Nat) (h : k < l.length) : numL l (k + 1) = numL l k + if l[k].kind = 1 then 1 else 0 := by
  unfold numL
  rw [List.take_succ_eq_append_getElem h, List.filter_append, List.length_append]
  congr 1
  by_cases hk : l[k].kind = 1 <;> simp [hk]
theorem numL_le (l : List Rx) (k : Nat) : numL l k ≤ k := by
  unfold numL
  exact Nat.le_trans (List.length_filter_le _ _) (by rw [List.length_take]; omega)
theorem AtT.num {l : List Rx} {s t : Nat} {e : E} (h : AtT l s e t) : numL l t = numL l s + nset e := by
  obtain ⟨pre, suf, rfl, rfl, rfl⟩ := h
  unfold numL
  rw [← setsT_len, ← setsT_filter, List.append_assoc, List.take_left, ← List.append_assoc, List.take_left' (by simp), List.filter_append, List.length_append]
end Go.Proofs.Ytficeeaaaijgcaa
