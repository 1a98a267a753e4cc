/-
  Steps of an expression, as plain data; no program here.
-/
import Derived.WalkKit
namespace Go.Proofs.Ytficeeaaaijgcaa
open Go
structure Rx where
  kind : Int
  s0 : Int
  s1 : Int
  s2 : Int
  s3 : Int
deriving DecidableEq
def setEq (a0 a1 a2 a3 b0 b1 b2 b3 : Int) : Bool := a0 == b0 && (a1 == b1 && (a2 == b2 && a3 == b3))
/-- of how many parts a kind is -/
def ofK (k : Int) : Int := if k = 1 ∨ k = 2 then 0 else if k = 3 ∨ k = 4 then 2 else if k = 5 ∨ k = 6 ∨ k = 7 then 1 else -1
/-- has a step no set? -/
def Rx.bare (x : Rx) : Bool := setEq x.s0 x.s1 x.s2 x.s3 0 0 0 0
def checkLoop : List Rx → Int → Int
  | [], q => if q = 1 then 0 else 3
  | x :: r, q => if ofK x.kind < 0 ∨ (x.kind ≠ 1 ∧ x.bare = false) then 1 else if q < ofK x.kind then 3 else checkLoop r (q - ofK x.kind + 1)
def checkL (l : List Rx) : Int := if 512 < l.length then 4 else checkLoop l 0
theorem ofK_ge (k : Int) : -1 ≤ ofK k ∧ ofK k ≤ 2 := by unfold ofK; split <;> (try split) <;> (try split) <;> omega
theorem drop_cons {α : Type} (l : List α) (k : Nat) (h : k < l.length) : l.drop k = l[k] :: l.drop (k + 1) := List.drop_eq_getElem_cons h
end Go.Proofs.Ytficeeaaaijgcaa
