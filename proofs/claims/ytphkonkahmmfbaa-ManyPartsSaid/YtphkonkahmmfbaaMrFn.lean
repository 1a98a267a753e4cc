/-
  The functions that the reference of chapter 11 computes, as plain Lean functions on lists; no program here.
-/
namespace Go.Proofs.Ytphkonkahmmfbaa

def rightL : List Int → Bool
  | a :: b :: r => decide (a < b) && rightL (b :: r)
  | _ => true

theorem rightL_iff (l : List Int) : rightL l = true ↔ ∀ (j : Nat) (h : j + 1 < l.length), l[j] < l[j+1] := by
  induction l with
  | nil => simp [rightL]
  | cons a r ih =>
    cases r with
    | nil => simp [rightL]
    | cons b r =>
      simp only [rightL, Bool.and_eq_true, decide_eq_true_eq, ih]
      constructor
      · rintro ⟨h1, h2⟩ j hj
        cases j with
        | zero => simpa using h1
        | succ j => exact h2 j (by simpa using hj)
      · intro h
        exact ⟨by simpa using h 0 (by simp), fun j hj => h (j+1) (by simpa using hj)⟩

def putAt (l : List Int) (n : Int) : Nat := (l.takeWhile (· < n)).length
def putL (l : List Int) (n : Int) : List Int := if n ∈ l then l else l.take (putAt l n) ++ n :: l.drop (putAt l n)
def ofL (l : List Int) : List Int := l.foldl putL []
def unionL (a b : List Int) : List Int := b.foldl putL (ofL a)
def keptL (a b : List Int) (inn : Bool) : List Int := a.filter fun x => decide (x ∈ b) == inn

theorem putAt_le (l : List Int) (n : Int) : putAt l n ≤ l.length := List.Sublist.length_le (List.takeWhile_sublist _)
theorem putAt_lt (l : List Int) (n : Int) (k : Nat) (hk : k < putAt l n) (h : k < l.length) : l[k] < n := by
  induction l generalizing k with
  | nil => cases h
  | cons a r ih =>
    unfold putAt at hk
    rw [List.takeWhile_cons] at hk
    split at hk
    · rename_i ha
      cases k with
      | zero => simpa using ha
      | succ k => simpa using ih k (by unfold putAt; simpa using hk) (by simpa using h)
    · simp at hk
theorem putAt_ge (l : List Int) (n : Int) (h : putAt l n < l.length) : n ≤ l[putAt l n] := by
  induction l with
  | nil => cases h
  | cons a r ih =>
    by_cases ha : a < n
    · have e : putAt (a :: r) n = putAt r n + 1 := by simp [putAt, ha]
      have h' : putAt r n < r.length := by simp only [e, List.length_cons] at h; omega
      have := ih h'
      simpa [e] using this
    · have e : putAt (a :: r) n = 0 := by simp [putAt, ha]
      simp [e]; omega
theorem putL_length (l : List Int) (n : Int) : (putL l n).length ≤ l.length + 1 := by
  unfold putL; split
  · omega
  · have := putAt_le l n; simp; omega
theorem foldl_putL_length (l : List Int) (acc : List Int) : (l.foldl putL acc).length ≤ acc.length + l.length := by
  induction l generalizing acc with
  | nil => simp
  | cons a r ih => have := ih (putL acc a); have := putL_length acc a; simp only [List.foldl_cons, List.length_cons]; omega
theorem foldl_take_succ {α β : Type} (f : β → α → β) (b : β) (l : List α) (k : Nat) (h : k < l.length) : (l.take (k+1)).foldl f b = f ((l.take k).foldl f b) l[k] := by
  rw [List.take_succ_eq_append_getElem h, List.foldl_append]; rfl
theorem drop_take_succ {α : Type} (l : List α) (t m : Nat) (h : m < l.length) (htm : t ≤ m) : (l.drop t).take (m + 1 - t) = (l.drop t).take (m - t) ++ [l[m]] := by
  have e : m + 1 - t = (m - t) + 1 := by omega
  have hl : m - t < (l.drop t).length := by rw [List.length_drop]; omega
  rw [e, List.take_succ_eq_append_getElem hl, List.getElem_drop]
  congr 3
  omega
theorem filter_take_succ {α : Type} (p : α → Bool) (l : List α) (k : Nat) (h : k < l.length) : (l.take (k+1)).filter p = (l.take k).filter p ++ (if p l[k] then [l[k]] else []) := by
  rw [List.take_succ_eq_append_getElem h, List.filter_append]; congr 1
  cases hp : p l[k] <;> simp [hp]
end Go.Proofs.Ytphkonkahmmfbaa
