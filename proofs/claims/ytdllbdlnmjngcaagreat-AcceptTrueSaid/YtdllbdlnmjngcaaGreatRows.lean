/-
  No cell of these rows narrows 'for every input' (looked for: loops, veiled, ifaces, maps, wideKeys, modest, calm, conditions, laid).
  DERIVED. THE GIVEN ROWS OF THIS SEAT. 4 by the template 'for every input the law returns true; each argument reads behind the call as it read before'; 0 by the template 'total and deterministic' (their statements: YtdllbdlnmjngcaaGreatTotals.lean).
  GIVEN WITH THE SEED: the statements are not yours to turn. If you find one false, say at which input.
  Laid BY PROGRAM, IN A SANDBOX (cutbox-rows.mjs): the forced cells as the released guide's own fill.sh prints them over the translation c305663f6bab30a7… (all of the seat's roots in one cut). By AI agents, Wed Nov 11 2026. No macro, syntax, notation, axiom, sorry.
-/
import Derived.Test.YtdllbdlnmjngcaaGreatChecked
import GoSem.Claim
import GoSem.ClaimJoined
import GoSem.ClaimMapViews
import Derived.JoinedTies
import Derived.KernelRfl
namespace Go.Proofs.YtdllbdlnmjngcaaGreat
/- THE CELL 'sum', in the pinned program and in every row, IS THE sha256 OF THE DUMP (.gsa) THAT YtdllbdlnmjngcaaGreatProg.lean LOADS. Nothing in Lean hashes anything: it is a label: what it is worth is what the hold of that sum in a sandbox is worth. -/
noncomputable def Tryz.pinned : Pinned := { name := "ytdllbdlnmjngcaagreat", sum := "c305663f6bab30a7bba9f93b39af34c2b81a6fdd2c4f2b8f20cebbce67381d9c", checked := Tryz.checked }
namespace Rows
def none {H : Type} : Left H := { results := [], args := [] }

/-- 'facsimilelaw25.AcceptTells': WHATEVER THE INPUT: true; the input reads as it did. -/
def acceptTellsSpec : ChangeSpec := { name := "acceptTells", fn := fun _ => fun
  | [d] => { results := [.lit (.bool true)], args := [d] }
  | _ => none }
def acceptTellsRow : OpenClaim := { program := "ytdllbdlnmjngcaagreat", sum := "c305663f6bab30a7bba9f93b39af34c2b81a6fdd2c4f2b8f20cebbce67381d9c", func := "facsimile/facsimilelaw25.AcceptTells", spec := "acceptTells", unfollowed := true, recurses := true, plainKeys := false, apart := false }
def AcceptTellsSaid : Prop := acceptTellsRow.holds Tryz.pinned (OpenSpec.ofChange acceptTellsSpec)

/-- ITS FALSE NEIGHBOUR: 'it returns false'. Refute it at one input. -/
def acceptTellsWrong : ChangeSpec := { name := "acceptTells", fn := fun _ => fun
  | [d] => { results := [.lit (.bool false)], args := [d] }
  | _ => none }
def AcceptTellsWrongFalsely : Prop := acceptTellsRow.holds Tryz.pinned (OpenSpec.ofChange acceptTellsWrong)

/-- 'facsimilelaw25.AcceptTrue': WHATEVER THE INPUT: true; the input reads as it did. -/
def acceptTrueSpec : ChangeSpec := { name := "acceptTrue", fn := fun _ => fun
  | [d] => { results := [.lit (.bool true)], args := [d] }
  | _ => none }
def acceptTrueRow : OpenClaim := { program := "ytdllbdlnmjngcaagreat", sum := "c305663f6bab30a7bba9f93b39af34c2b81a6fdd2c4f2b8f20cebbce67381d9c", func := "facsimile/facsimilelaw25.AcceptTrue", spec := "acceptTrue", unfollowed := true, recurses := true, plainKeys := false, apart := false }
def AcceptTrueSaid : Prop := acceptTrueRow.holds Tryz.pinned (OpenSpec.ofChange acceptTrueSpec)

/-- ITS FALSE NEIGHBOUR: 'it returns false'. Refute it at one input. -/
def acceptTrueWrong : ChangeSpec := { name := "acceptTrue", fn := fun _ => fun
  | [d] => { results := [.lit (.bool false)], args := [d] }
  | _ => none }
def AcceptTrueWrongFalsely : Prop := acceptTrueRow.holds Tryz.pinned (OpenSpec.ofChange acceptTrueWrong)

/-- 'facsimilelaw25.AcceptOne': WHATEVER THE INPUT: true; the input reads as it did. -/
def acceptOneSpec : ChangeSpec := { name := "acceptOne", fn := fun _ => fun
  | [d1, d2] => { results := [.lit (.bool true)], args := [d1, d2] }
  | _ => none }
def acceptOneRow : OpenClaim := { program := "ytdllbdlnmjngcaagreat", sum := "c305663f6bab30a7bba9f93b39af34c2b81a6fdd2c4f2b8f20cebbce67381d9c", func := "facsimile/facsimilelaw25.AcceptOne", spec := "acceptOne", unfollowed := true, recurses := true, plainKeys := false, apart := false }
def AcceptOneSaid : Prop := acceptOneRow.holds Tryz.pinned (OpenSpec.ofChange acceptOneSpec)

/-- ITS FALSE NEIGHBOUR: 'it returns false'. Refute it at one input. -/
def acceptOneWrong : ChangeSpec := { name := "acceptOne", fn := fun _ => fun
  | [d1, d2] => { results := [.lit (.bool false)], args := [d1, d2] }
  | _ => none }
def AcceptOneWrongFalsely : Prop := acceptOneRow.holds Tryz.pinned (OpenSpec.ofChange acceptOneWrong)

/-- 'facsimilelaw25.AcceptBound': WHATEVER THE INPUT: true; the input reads as it did. -/
def acceptBoundSpec : ChangeSpec := { name := "acceptBound", fn := fun _ => fun
  | [d] => { results := [.lit (.bool true)], args := [d] }
  | _ => none }
def acceptBoundRow : OpenClaim := { program := "ytdllbdlnmjngcaagreat", sum := "c305663f6bab30a7bba9f93b39af34c2b81a6fdd2c4f2b8f20cebbce67381d9c", func := "facsimile/facsimilelaw25.AcceptBound", spec := "acceptBound", unfollowed := true, recurses := true, plainKeys := false, apart := false }
def AcceptBoundSaid : Prop := acceptBoundRow.holds Tryz.pinned (OpenSpec.ofChange acceptBoundSpec)

/-- ITS FALSE NEIGHBOUR: 'it returns false'. Refute it at one input. -/
def acceptBoundWrong : ChangeSpec := { name := "acceptBound", fn := fun _ => fun
  | [d] => { results := [.lit (.bool false)], args := [d] }
  | _ => none }
def AcceptBoundWrongFalsely : Prop := acceptBoundRow.holds Tryz.pinned (OpenSpec.ofChange acceptBoundWrong)

/- THE SECOND FORM. 'bulk': how many values and letters a reading holds, each counted each time it is reached (what is shared counts as often as it is met; a slice's spare places count too). A statement '..UptoSaid' is the law's where the arguments, and the package variables that the reading takes, are together of bulk at most 1048576: NARROWER than '..Said'. Prove '..Said' where nothing that the law and all that it calls make is longer than what came in: it says more and counts as full. Else prove '..UptoSaid'. A law counts once. -/
mutual
def uptoBulk {H : Type} : DataW H → Nat
  | .lit (.string bytes) => bytes.length + 1
  | .lit _ => 1
  | .nil => 1
  | .ptr d => uptoBulk d + 1
  | .slice elems spare => uptoBulkAll elems + uptoBulkAll spare + 1
  | .agg parts => uptoBulkAll parts + 1
  | .iface _ d => uptoBulk d + 1
  | .map entries => uptoBulkEntries entries + 1
  | .held _ => 1
def uptoBulkAll {H : Type} : List (DataW H) → Nat
  | [] => 0
  | d :: r => uptoBulk d + uptoBulkAll r
def uptoBulkEntries {H : Type} : List (Lit × DataW H) → Nat
  | [] => 0
  | x :: r => uptoBulkEntry x + uptoBulkEntries r
def uptoBulkEntry {H : Type} : Lit × DataW H → Nat
  | (.string bytes, d) => bytes.length + uptoBulk d + 1
  | (_, d) => uptoBulk d + 1
 end
def uptoSmall : (H : Type) → List (DataW H) → Bool := fun _ ds => decide (uptoBulkAll ds ≤ 1048576)
def OpenSpec.upto (s : _root_.Go.ChangeSpec) : _root_.Go.OpenSpec := { _root_.Go.OpenSpec.ofChange s with cond := some uptoSmall }

/-- 'facsimilelaw25.AcceptTells', WHERE WHAT IT READS IS OF BULK AT MOST 1048576: true; the input reads as it did. -/
def acceptTellsUptoRow : OpenClaim := { program := "ytdllbdlnmjngcaagreat", sum := "c305663f6bab30a7bba9f93b39af34c2b81a6fdd2c4f2b8f20cebbce67381d9c", func := "facsimile/facsimilelaw25.AcceptTells", spec := "acceptTells", unfollowed := true, recurses := true, plainKeys := false, apart := false, narrowed := true }
def AcceptTellsUptoSaid : Prop := acceptTellsUptoRow.holds Tryz.pinned (OpenSpec.upto acceptTellsSpec)

/-- 'facsimilelaw25.AcceptTrue', WHERE WHAT IT READS IS OF BULK AT MOST 1048576: true; the input reads as it did. -/
def acceptTrueUptoRow : OpenClaim := { program := "ytdllbdlnmjngcaagreat", sum := "c305663f6bab30a7bba9f93b39af34c2b81a6fdd2c4f2b8f20cebbce67381d9c", func := "facsimile/facsimilelaw25.AcceptTrue", spec := "acceptTrue", unfollowed := true, recurses := true, plainKeys := false, apart := false, narrowed := true }
def AcceptTrueUptoSaid : Prop := acceptTrueUptoRow.holds Tryz.pinned (OpenSpec.upto acceptTrueSpec)

/-- 'facsimilelaw25.AcceptOne', WHERE WHAT IT READS IS OF BULK AT MOST 1048576: true; the input reads as it did. -/
def acceptOneUptoRow : OpenClaim := { program := "ytdllbdlnmjngcaagreat", sum := "c305663f6bab30a7bba9f93b39af34c2b81a6fdd2c4f2b8f20cebbce67381d9c", func := "facsimile/facsimilelaw25.AcceptOne", spec := "acceptOne", unfollowed := true, recurses := true, plainKeys := false, apart := false, narrowed := true }
def AcceptOneUptoSaid : Prop := acceptOneUptoRow.holds Tryz.pinned (OpenSpec.upto acceptOneSpec)

/-- 'facsimilelaw25.AcceptBound', WHERE WHAT IT READS IS OF BULK AT MOST 1048576: true; the input reads as it did. -/
def acceptBoundUptoRow : OpenClaim := { program := "ytdllbdlnmjngcaagreat", sum := "c305663f6bab30a7bba9f93b39af34c2b81a6fdd2c4f2b8f20cebbce67381d9c", func := "facsimile/facsimilelaw25.AcceptBound", spec := "acceptBound", unfollowed := true, recurses := true, plainKeys := false, apart := false, narrowed := true }
def AcceptBoundUptoSaid : Prop := acceptBoundUptoRow.holds Tryz.pinned (OpenSpec.upto acceptBoundSpec)

end Rows
end Go.Proofs.YtdllbdlnmjngcaaGreat
