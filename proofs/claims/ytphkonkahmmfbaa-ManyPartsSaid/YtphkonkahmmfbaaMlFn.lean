/-
  What the package many computes answers as the statements of chapter 11 say: plain facts on lists; no program here.
-/
import Derived.Test.YtphkonkahmmfbaaRiseFn
import Derived.Test.YtphkonkahmmfbaaMrFn
import Derived.Test.YtphkonkahmmfbaaMmFn
namespace Go.Proofs.Ytphkonkahmmfbaa

theorem rightL_rise (l : List Int) : rightL l = true ↔ Rising l := by
  rw [rightL_iff]
  unfold Rising
  constructor
  · intro h
    rw [List.pairwise_iff_getElem]
    intro i j hi hj hij
    induction j with
    | zero => omega
    | succ j ih =>
      by_cases e : i = j
      · subst e; exact h i hj
      · have := ih (by omega) (by omega)
        have h2 := h j hj
        omega
  · intro h j hj
    exact List.pairwise_iff_getElem.1 h j (j+1) (by omega) hj (by omega)

theorem mem_take {l : List Int} {k : Nat} {x : Int} (h : x ∈ l.take k) : ∃ (j : Nat) (_ : j < k) (hj : j < l.length), x = l[j] := by
  obtain ⟨j, hj, rfl⟩ := List.getElem_of_mem h
  rw [List.length_take] at hj
  exact ⟨j, by omega, by omega, by rw [List.getElem_take]⟩
theorem mem_drop {l : List Int} {k : Nat} {x : Int} (h : x ∈ l.drop k) : ∃ (j : Nat) (_ : k ≤ j) (hj : j < l.length), x = l[j] := by
  obtain ⟨j, hj, rfl⟩ := List.getElem_of_mem h
  rw [List.length_drop] at hj
  exact ⟨k + j, by omega, by omega, by rw [List.getElem_drop]⟩

theorem putL_mem (l : List Int) (n x : Int) : x ∈ putL l n ↔ x ∈ l ∨ x = n := by
  unfold putL
  split
  · rename_i h
    constructor
    · exact Or.inl
    · rintro (h' | rfl) <;> assumption
  · have e : l = l.take (putAt l n) ++ l.drop (putAt l n) := (List.take_append_drop _ _).symm
    constructor
    · intro h
      rcases List.mem_append.1 h with h | h
      · exact Or.inl (List.mem_of_mem_take h)
      · rcases List.mem_cons.1 h with h | h
        · exact Or.inr h
        · exact Or.inl (List.mem_of_mem_drop h)
    · rintro (h | rfl)
      · rw [e] at h
        rcases List.mem_append.1 h with h | h
        · exact List.mem_append_left _ h
        · exact List.mem_append_right _ (List.mem_cons_of_mem _ h)
      · exact List.mem_append_right _ (List.mem_cons_self)
theorem putL_rise (l : List Int) (n : Int) (h : Rising l) : Rising (putL l n) := by
  unfold putL
  split
  · exact h
  · rename_i hn
    have hp : ∀ (i j : Nat) (hi : i < l.length) (hj : j < l.length), i < j → l[i] < l[j] := List.pairwise_iff_getElem.1 h
    unfold Rising
    rw [List.pairwise_append, List.pairwise_cons]
    refine ⟨List.Pairwise.sublist (List.take_sublist _ _) h, ⟨?_, List.Pairwise.sublist (List.drop_sublist _ _) h⟩, ?_⟩
    · intro x hx
      obtain ⟨j, hj, hjl, rfl⟩ := mem_drop hx
      have h1 := putAt_ge l n (by omega)
      have hne : l[putAt l n]'(by omega) ≠ n := by intro e; exact hn (e ▸ List.getElem_mem (by omega))
      by_cases e : j = putAt l n
      · subst e; omega
      · have := hp (putAt l n) j (by omega) hjl (by omega); omega
    · intro x hx y hy
      obtain ⟨j, hj, hjl, rfl⟩ := mem_take hx
      have h1 := putAt_lt l n j hj hjl
      rcases List.mem_cons.1 hy with rfl | hy
      · exact h1
      · obtain ⟨i, hi, hil, rfl⟩ := mem_drop hy
        exact hp j i hjl hil (by omega)
theorem foldl_putL (l acc : List Int) (h : Rising acc) : Rising (l.foldl putL acc) ∧ ∀ x, x ∈ l.foldl putL acc ↔ x ∈ acc ∨ x ∈ l := by
  induction l generalizing acc with
  | nil => exact ⟨h, by simp⟩
  | cons a l ih =>
    obtain ⟨h1, h2⟩ := ih (putL acc a) (putL_rise acc a h)
    exact ⟨h1, fun x => by rw [List.foldl_cons, h2, putL_mem, List.mem_cons, or_assoc]⟩
theorem ofL_rise (l : List Int) : Rising (ofL l) := (foldl_putL l [] List.Pairwise.nil).1
theorem ofL_mem (l : List Int) (x : Int) : x ∈ ofL l ↔ x ∈ l := by rw [ofL, (foldl_putL l [] List.Pairwise.nil).2]; simp
theorem ofL_eq (l : List Int) : riseL l = ofL l := rise_ext (riseL_rise l) (ofL_rise l) fun x => by rw [riseL_mem, ofL_mem]
theorem unionL_rise (a b : List Int) : Rising (unionL a b) := (foldl_putL b (ofL a) (ofL_rise a)).1
theorem unionL_mem (a b : List Int) (x : Int) : x ∈ unionL a b ↔ x ∈ a ∨ x ∈ b := by rw [unionL, (foldl_putL b (ofL a) (ofL_rise a)).2, ofL_mem]
theorem keptL_rise (a b : List Int) (i : Bool) (h : Rising a) : Rising (keptL a b i) := List.Pairwise.sublist List.filter_sublist h
theorem keptL_mem (a b : List Int) (i : Bool) (x : Int) : x ∈ keptL a b i ↔ x ∈ a ∧ (x ∈ b ↔ i = true) := by
  unfold keptL
  rw [List.mem_filter, beq_iff_eq]
  cases i <;> simp

theorem opt_mem (b : Bool) (x y : Int) : y ∈ opt b x ↔ b = true ∧ y = x := by cases b <;> simp [opt]
theorem opt_rise (b : Bool) (x : Int) : Rising (opt b x) := by cases b <;> simp [opt, Rising]
/-- what the merge says of x -/
def inM (f g h : Bool) (a b : List Int) (x : Int) : Prop := (f = true ∧ x ∈ a ∧ x ∉ b) ∨ (g = true ∧ x ∈ a ∧ x ∈ b) ∨ (h = true ∧ x ∉ a ∧ x ∈ b)

theorem rise_opt_append (o : Bool) (x : Int) (r : List Int) (hr : Rising r) (h : ∀ y ∈ r, x < y) : Rising (opt o x ++ r) := by
  unfold Rising
  rw [List.pairwise_append]
  refine ⟨opt_rise o x, hr, fun a ha b hb => ?_⟩
  rw [opt_mem] at ha
  rw [ha.2]
  exact h b hb

theorem mergeF_spec (f g h : Bool) (n : Nat) (a b : List Int) (ha : Rising a) (hb : Rising b) (hn : a.length + b.length ≤ n) :
    Rising (mergeF f g h n a b) ∧ ∀ x, x ∈ mergeF f g h n a b ↔ inM f g h a b x := by
  induction n generalizing a b with
  | zero =>
    have e1 : a = [] := List.eq_nil_of_length_eq_zero (by omega)
    have e2 : b = [] := List.eq_nil_of_length_eq_zero (by omega)
    subst e1 e2
    exact ⟨List.Pairwise.nil, by simp [mergeF, inM]⟩
  | succ n ih =>
    cases a with
    | nil =>
      cases b with
      | nil => exact ⟨List.Pairwise.nil, by simp [mergeF, inM]⟩
      | cons y b =>
        obtain ⟨hb1, hb2⟩ := List.pairwise_cons.1 hb
        obtain ⟨h1, h2⟩ := ih [] b ha hb2 (by simp at hn ⊢; omega)
        refine ⟨rise_opt_append h y _ h1 fun z hz => ?_, fun x => ?_⟩
        · have := (h2 z).1 hz
          simp only [inM, List.not_mem_nil, false_and, and_false, false_or, not_false_eq_true, true_and] at this
          exact hb1 z this.2
        · simp only [mergeF, List.mem_append, opt_mem, h2, inM, List.not_mem_nil, false_and, and_false, false_or, not_false_eq_true, true_and, List.mem_cons]
          constructor
          · rintro (⟨h, rfl⟩ | ⟨h, h'⟩)
            · exact ⟨h, Or.inl rfl⟩
            · exact ⟨h, Or.inr h'⟩
          · rintro ⟨h, rfl | h'⟩
            · exact Or.inl ⟨h, rfl⟩
            · exact Or.inr ⟨h, h'⟩
    | cons x a =>
      obtain ⟨ha1, ha2⟩ := List.pairwise_cons.1 ha
      cases b with
      | nil =>
        obtain ⟨h1, h2⟩ := ih a [] ha2 hb (by simp at hn ⊢; omega)
        refine ⟨rise_opt_append f x _ h1 fun z hz => ?_, fun z => ?_⟩
        · have := (h2 z).1 hz
          simp only [inM, List.not_mem_nil, and_false, or_false, not_false_eq_true, and_true] at this
          exact ha1 z this.2
        · simp only [mergeF, List.mem_append, opt_mem, h2, inM, List.not_mem_nil, and_false, or_false, not_false_eq_true, and_true, List.mem_cons]
          constructor
          · rintro (⟨h, rfl⟩ | ⟨h, h'⟩)
            · exact ⟨h, Or.inl rfl⟩
            · exact ⟨h, Or.inr h'⟩
          · rintro ⟨h, rfl | h'⟩
            · exact Or.inl ⟨h, rfl⟩
            · exact Or.inr ⟨h, h'⟩
      | cons y b =>
        obtain ⟨hb1, hb2⟩ := List.pairwise_cons.1 hb
        rw [mergeF]
        by_cases hxy : x < y
        · rw [if_pos hxy]
          obtain ⟨h1, h2⟩ := ih a (y :: b) ha2 hb (by simp at hn ⊢; omega)
          have hxb : x ∉ y :: b := by
            intro hm; rcases List.mem_cons.1 hm with e | e
            · omega
            · have := hb1 x e; omega
          refine ⟨rise_opt_append f x _ h1 fun z hz => ?_, fun z => ?_⟩
          · rcases (h2 z).1 hz with ⟨_, hz, _⟩ | ⟨_, hz, _⟩ | ⟨_, _, hz⟩
            · exact ha1 z hz
            · exact ha1 z hz
            · rcases List.mem_cons.1 hz with e | e
              · omega
              · have := hb1 z e; omega
          · rw [List.mem_append, opt_mem, h2]
            unfold inM
            by_cases hz : z = x
            · subst hz
              have : z ∉ a := fun hm => by have := ha1 z hm; omega
              simp [hxb, this]
            · simp [hz]
        · rw [if_neg hxy]
          by_cases hyx : y < x
          · rw [if_pos hyx]
            obtain ⟨h1, h2⟩ := ih (x :: a) b ha hb2 (by simp at hn ⊢; omega)
            have hya : y ∉ x :: a := by
              intro hm; rcases List.mem_cons.1 hm with e | e
              · omega
              · have := ha1 y e; omega
            refine ⟨rise_opt_append h y _ h1 fun z hz => ?_, fun z => ?_⟩
            · rcases (h2 z).1 hz with ⟨_, hz, _⟩ | ⟨_, hz, _⟩ | ⟨_, _, hz⟩
              · rcases List.mem_cons.1 hz with e | e
                · omega
                · have := ha1 z e; omega
              · rcases List.mem_cons.1 hz with e | e
                · omega
                · have := ha1 z e; omega
              · exact hb1 z hz
            · rw [List.mem_append, opt_mem, h2]
              unfold inM
              by_cases hz : z = y
              · subst hz
                have : z ∉ b := fun hm => by have := hb1 z hm; omega
                simp [hya, this]
              · simp [hz]
          · rw [if_neg hyx]
            obtain rfl : x = y := by omega
            obtain ⟨h1, h2⟩ := ih a b ha2 hb2 (by simp at hn ⊢; omega)
            refine ⟨rise_opt_append g x _ h1 fun z hz => ?_, fun z => ?_⟩
            · rcases (h2 z).1 hz with ⟨_, hz, _⟩ | ⟨_, hz, _⟩ | ⟨_, _, hz⟩
              · exact ha1 z hz
              · exact ha1 z hz
              · exact hb1 z hz
            · rw [List.mem_append, opt_mem, h2]
              unfold inM
              by_cases hz : z = x
              · subst hz
                have e1 : z ∉ a := fun hm => by have := ha1 z hm; omega
                have e2 : z ∉ b := fun hm => by have := hb1 z hm; omega
                simp [e1, e2]
              · simp [hz]
theorem mergeF_len (n : Nat) (a b : List Int) (hn : a.length + b.length ≤ n) :
    (mergeF true true true n a b).length + (mergeF false true false n a b).length = a.length + b.length := by
  induction n generalizing a b with
  | zero =>
    have e1 : a = [] := List.eq_nil_of_length_eq_zero (by omega)
    have e2 : b = [] := List.eq_nil_of_length_eq_zero (by omega)
    subst e1 e2
    rfl
  | succ n ih =>
    cases a with
    | nil =>
      cases b with
      | nil => rfl
      | cons y b => have := ih [] b (by simp at hn ⊢; omega); simp [mergeF, opt] at this ⊢; omega
    | cons x a =>
      cases b with
      | nil => have := ih a [] (by simp at hn ⊢; omega); simp [mergeF, opt] at this ⊢; omega
      | cons y b =>
        simp only [mergeF]
        by_cases hxy : x < y
        · rw [if_pos hxy, if_pos hxy]; have := ih a (y :: b) (by simp at hn ⊢; omega); simp [opt] at this ⊢; omega
        · rw [if_neg hxy, if_neg hxy]
          by_cases hyx : y < x
          · rw [if_pos hyx, if_pos hyx]; have := ih (x :: a) b (by simp at hn ⊢; omega); simp [opt] at this ⊢; omega
          · rw [if_neg hyx, if_neg hyx]; have := ih a b (by simp at hn ⊢; omega); simp [opt] at this ⊢; omega
theorem mergeF_le (f g h : Bool) (n : Nat) (a b : List Int) : (mergeF f g h n a b).length ≤ a.length + b.length := by
  induction n generalizing a b with
  | zero => simp [mergeF]
  | succ n ih =>
    have ho := opt_len
    cases a with
    | nil =>
      cases b with
      | nil => simp [mergeF]
      | cons y b => have := ih [] b; have := ho h y; simp [mergeF] at *; omega
    | cons x a =>
      cases b with
      | nil => have := ih a []; have := ho f x; simp [mergeF] at *; omega
      | cons y b =>
        have h1 := ih a (y :: b); have h2 := ih (x :: a) b; have h3 := ih a b
        have := ho f x; have := ho h y; have := ho g x
        rw [mergeF]
        split
        · simp at *; omega
        · split <;> simp at * <;> omega
theorem mergeL_spec (f g h : Bool) (a b : List Int) (ha : Rising a) (hb : Rising b) : Rising (mergeL f g h a b) ∧ ∀ x, x ∈ mergeL f g h a b ↔ inM f g h a b x := mergeF_spec f g h _ a b ha hb (Nat.le_refl _)
theorem mergeL_le (f g h : Bool) (a b : List Int) : (mergeL f g h a b).length ≤ a.length + b.length := mergeF_le f g h _ a b

theorem union_mem (a b : List Int) (ha : Rising a) (hb : Rising b) (x : Int) : x ∈ mergeL true true true a b ↔ x ∈ a ∨ x ∈ b := by
  rw [(mergeL_spec _ _ _ a b ha hb).2]; unfold inM; by_cases h1 : x ∈ a <;> by_cases h2 : x ∈ b <;> simp [h1, h2]
theorem common_mem (a b : List Int) (ha : Rising a) (hb : Rising b) (x : Int) : x ∈ mergeL false true false a b ↔ x ∈ a ∧ x ∈ b := by
  rw [(mergeL_spec _ _ _ a b ha hb).2]; unfold inM; simp
theorem less_mem (a b : List Int) (ha : Rising a) (hb : Rising b) (x : Int) : x ∈ mergeL true false false a b ↔ x ∈ a ∧ x ∉ b := by
  rw [(mergeL_spec _ _ _ a b ha hb).2]; unfold inM; simp
theorem union_eq (a b : List Int) (ha : Rising a) (hb : Rising b) : mergeL true true true a b = unionL a b :=
  rise_ext (mergeL_spec _ _ _ a b ha hb).1 (unionL_rise a b) fun x => by rw [union_mem a b ha hb, unionL_mem]
theorem common_eq (a b : List Int) (ha : Rising a) (hb : Rising b) : mergeL false true false a b = keptL a b true :=
  rise_ext (mergeL_spec _ _ _ a b ha hb).1 (keptL_rise a b true ha) fun x => by rw [common_mem a b ha hb, keptL_mem]; simp
theorem less_eq (a b : List Int) (ha : Rising a) (hb : Rising b) : mergeL true false false a b = keptL a b false :=
  rise_ext (mergeL_spec _ _ _ a b ha hb).1 (keptL_rise a b false ha) fun x => by rw [less_mem a b ha hb, keptL_mem]; simp
theorem parts_eq (a b : List Int) (ha : Rising a) (hb : Rising b) : mergeL true true true (mergeL false true false a b) (mergeL true false false a b) = a := by
  have h1 := (mergeL_spec false true false a b ha hb).1
  have h2 := (mergeL_spec true false false a b ha hb).1
  refine rise_ext (mergeL_spec _ _ _ _ _ h1 h2).1 ha fun x => ?_
  rw [union_mem _ _ h1 h2, common_mem a b ha hb, less_mem a b ha hb]
  by_cases h : x ∈ b <;> simp [h]
theorem union_comm (a b : List Int) (ha : Rising a) (hb : Rising b) : mergeL true true true a b = mergeL true true true b a :=
  rise_ext (mergeL_spec _ _ _ a b ha hb).1 (mergeL_spec _ _ _ b a hb ha).1 fun x => by rw [union_mem a b ha hb, union_mem b a hb ha, or_comm]
theorem common_comm (a b : List Int) (ha : Rising a) (hb : Rising b) : mergeL false true false a b = mergeL false true false b a :=
  rise_ext (mergeL_spec _ _ _ a b ha hb).1 (mergeL_spec _ _ _ b a hb ha).1 fun x => by rw [common_mem a b ha hb, common_mem b a hb ha, and_comm]
theorem within_zero (a b : List Int) (ha : Rising a) (hb : Rising b) (h : ∀ x ∈ a, x ∈ b) : (mergeL true false false a b).length = 0 := by
  rw [List.length_eq_zero_iff, List.eq_nil_iff_forall_not_mem]
  intro x hx
  rw [less_mem a b ha hb] at hx
  exact hx.2 (h x hx.1)
theorem union_len (a b : List Int) : (mergeL true true true a b).length + (mergeL false true false a b).length = a.length + b.length := mergeF_len _ a b (Nat.le_refl _)
theorem knows_of : riseL [3, 1, 3] = [1, 3] := by rw [ofL_eq]; decide
theorem knows_less : mergeL true false false [1, 2, 3] [2, 5] = [1, 3] := by decide
end Go.Proofs.Ytphkonkahmmfbaa
