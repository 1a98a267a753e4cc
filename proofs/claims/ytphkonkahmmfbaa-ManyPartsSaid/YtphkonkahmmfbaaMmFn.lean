/-
  The merge of two rising lists, as a plain function; no program here.
-/
namespace Go.Proofs.Ytphkonkahmmfbaa
def opt (b : Bool) (x : Int) : List Int := if b then [x] else []
def mergeF (f g h : Bool) : Nat → List Int → List Int → List Int
  | 0, _, _ => []
  | _ + 1, [], [] => []
  | n + 1, x :: a, [] => opt f x ++ mergeF f g h n a []
  | n + 1, [], y :: b => opt h y ++ mergeF f g h n [] b
  | n + 1, x :: a, y :: b => if x < y then opt f x ++ mergeF f g h n a (y :: b) else if y < x then opt h y ++ mergeF f g h n (x :: a) b else opt g x ++ mergeF f g h n a b
theorem mergeF_none (f g h : Bool) (n : Nat) : mergeF f g h n [] [] = [] := by cases n <;> rfl
theorem opt_len (b : Bool) (x : Int) : (opt b x).length ≤ 1 := by cases b <;> simp [opt]
def mergeL (f g h : Bool) (a b : List Int) : List Int := mergeF f g h (a.length + b.length) a b
end Go.Proofs.Ytphkonkahmmfbaa
