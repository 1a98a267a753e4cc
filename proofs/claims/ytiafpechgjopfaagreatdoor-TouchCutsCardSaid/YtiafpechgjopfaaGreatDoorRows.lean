/-
  NARROWER THAN 'FOR EVERY INPUT', by the rows' own cells (each row's printed sentence says how): LangNil: laid · TouchCuts: laid · TouchElse: laid.
  DERIVED. THE GIVEN ROWS OF THIS SEAT. 3 by the template 'for every input the law returns true; each argument reads behind the call as it read before'; 0 by the template 'total and deterministic' (their statements: YtiafpechgjopfaaGreatDoorTotals.lean).
  GIVEN WITH THE SEED: the statements are not yours to turn. If you find one false, say at which input.
  Laid BY PROGRAM, IN A SANDBOX (cutbox-rows.mjs): the forced cells as the released guide's own fill.sh prints them over the translation 08f61c156ac11624… (all of the seat's roots in one cut). By AI agents, Wed Nov 11 2026. No macro, syntax, notation, axiom, sorry.
-/
import Derived.Test.YtiafpechgjopfaaGreatDoorChecked
import GoSem.Claim
import GoSem.ClaimJoined
import GoSem.ClaimMapViews
import Derived.JoinedTies
import Derived.KernelRfl
namespace Go.Proofs.YtiafpechgjopfaaGreatDoor
/- THE CELL 'sum', in the pinned program and in every row, IS THE sha256 OF THE DUMP (.gsa) THAT YtiafpechgjopfaaGreatDoorProg.lean LOADS. Nothing in Lean hashes anything: it is a label: what it is worth is what the hold of that sum in a sandbox is worth. -/
noncomputable def Tryz.pinned : Pinned := { name := "ytiafpechgjopfaagreatdoor", sum := "08f61c156ac11624bc35beffe6cf7079022af758488f4aba2952b7dd62619153", checked := Tryz.checked }
namespace Rows
def none {H : Type} : Left H := { results := [], args := [] }

/- WHAT THE LISTED PACKAGE-LEVEL VARIABLES READ AS WHEN THE CALL BEGINS. Each datum BY PROGRAM (the guide's laid-datum.mjs) off the statement by which the dump's own 'gosem.cut.vars' lays the variable. In a bare row this is a premise. The card (YtiafpechgjopfaaGreatDoorCards.lean) ties it to the program's text. -/
def laid_facsimile_munch_none {H : Type} : DataW H := .agg [.lit (.int .i64 (-1)), .lit (.int .i64 0)]

/-- 'facsimilelaw26.LangNil': WHATEVER THE INPUT: true; the input reads as it did. -/
def langNilSpec : ChangeSpec := { name := "langNil", fn := fun _ => fun
  | [d1, d2, d3] => { results := [.lit (.bool true)], args := [d1, d2, d3] }
  | _ => none }
def langNilRow : OpenClaim := { program := "ytiafpechgjopfaagreatdoor", sum := "08f61c156ac11624bc35beffe6cf7079022af758488f4aba2952b7dd62619153", func := "facsimile/facsimilelaw26.LangNil", spec := "langNil", inPlace := ["sync/atomic.AddInt64", "sync/atomic.LoadUint32", "(*internal/sync.Mutex).Lock", "internal/race.Disable", "sync/atomic.CompareAndSwapInt32", "internal/race.Enable", "internal/race.Acquire", "(*internal/sync.Mutex).lockSlow", "internal/sync.runtime_canSpin", "internal/sync.runtime_doSpin", "internal/sync.throw", "internal/sync.runtime_nanotime", "internal/sync.runtime_SemacquireMutex", "sync/atomic.AddInt32", "(*internal/sync.Mutex).Unlock", "internal/race.ReleaseMerge", "(*internal/sync.Mutex).unlockSlow", "internal/sync.fatal", "internal/sync.runtime_Semrelease", "sync/atomic.StoreUint32", "sync/atomic.LoadInt64"], unfollowed := true, recurses := true, named := ["facsimile/munch.none"], plainKeys := false, apart := false, laid := [("facsimile/munch.none", laid_facsimile_munch_none)] }
def LangNilSaid : Prop := langNilRow.holds Tryz.pinned (OpenSpec.ofChange langNilSpec)

/-- ITS FALSE NEIGHBOUR: 'it returns false'. Refute it at one input. -/
def langNilWrong : ChangeSpec := { name := "langNil", fn := fun _ => fun
  | [d1, d2, d3] => { results := [.lit (.bool false)], args := [d1, d2, d3] }
  | _ => none }
def LangNilWrongFalsely : Prop := langNilRow.holds Tryz.pinned (OpenSpec.ofChange langNilWrong)

/-- 'facsimilelaw37.TouchCuts': WHATEVER THE INPUT: true; the input reads as it did. -/
def touchCutsSpec : ChangeSpec := { name := "touchCuts", fn := fun _ => fun
  | [d1, d2, d3, d4] => { results := [.lit (.bool true)], args := [d1, d2, d3, d4] }
  | _ => none }
def touchCutsRow : OpenClaim := { program := "ytiafpechgjopfaagreatdoor", sum := "08f61c156ac11624bc35beffe6cf7079022af758488f4aba2952b7dd62619153", func := "facsimile/facsimilelaw37.TouchCuts", spec := "touchCuts", inPlace := ["sync/atomic.AddInt64", "sync/atomic.LoadUint32", "(*internal/sync.Mutex).Lock", "internal/race.Disable", "sync/atomic.CompareAndSwapInt32", "internal/race.Enable", "internal/race.Acquire", "(*internal/sync.Mutex).lockSlow", "internal/sync.runtime_canSpin", "internal/sync.runtime_doSpin", "internal/sync.throw", "internal/sync.runtime_nanotime", "internal/sync.runtime_SemacquireMutex", "sync/atomic.AddInt32", "(*internal/sync.Mutex).Unlock", "internal/race.ReleaseMerge", "(*internal/sync.Mutex).unlockSlow", "internal/sync.fatal", "internal/sync.runtime_Semrelease", "sync/atomic.StoreUint32"], unfollowed := true, recurses := true, named := ["facsimile/munch.none"], plainKeys := false, apart := false, laid := [("facsimile/munch.none", laid_facsimile_munch_none)] }
def TouchCutsSaid : Prop := touchCutsRow.holds Tryz.pinned (OpenSpec.ofChange touchCutsSpec)

/-- ITS FALSE NEIGHBOUR: 'it returns false'. Refute it at one input. -/
def touchCutsWrong : ChangeSpec := { name := "touchCuts", fn := fun _ => fun
  | [d1, d2, d3, d4] => { results := [.lit (.bool false)], args := [d1, d2, d3, d4] }
  | _ => none }
def TouchCutsWrongFalsely : Prop := touchCutsRow.holds Tryz.pinned (OpenSpec.ofChange touchCutsWrong)

/-- 'facsimilelaw37.TouchElse': WHATEVER THE INPUT: true; the input reads as it did. -/
def touchElseSpec : ChangeSpec := { name := "touchElse", fn := fun _ => fun
  | [d1, d2, d3] => { results := [.lit (.bool true)], args := [d1, d2, d3] }
  | _ => none }
def touchElseRow : OpenClaim := { program := "ytiafpechgjopfaagreatdoor", sum := "08f61c156ac11624bc35beffe6cf7079022af758488f4aba2952b7dd62619153", func := "facsimile/facsimilelaw37.TouchElse", spec := "touchElse", inPlace := ["sync/atomic.AddInt64", "sync/atomic.LoadUint32", "(*internal/sync.Mutex).Lock", "internal/race.Disable", "sync/atomic.CompareAndSwapInt32", "internal/race.Enable", "internal/race.Acquire", "(*internal/sync.Mutex).lockSlow", "internal/sync.runtime_canSpin", "internal/sync.runtime_doSpin", "internal/sync.throw", "internal/sync.runtime_nanotime", "internal/sync.runtime_SemacquireMutex", "sync/atomic.AddInt32", "(*internal/sync.Mutex).Unlock", "internal/race.ReleaseMerge", "(*internal/sync.Mutex).unlockSlow", "internal/sync.fatal", "internal/sync.runtime_Semrelease", "sync/atomic.StoreUint32"], unfollowed := true, recurses := true, named := ["facsimile/munch.none"], plainKeys := false, apart := false, laid := [("facsimile/munch.none", laid_facsimile_munch_none)] }
def TouchElseSaid : Prop := touchElseRow.holds Tryz.pinned (OpenSpec.ofChange touchElseSpec)

/-- ITS FALSE NEIGHBOUR: 'it returns false'. Refute it at one input. -/
def touchElseWrong : ChangeSpec := { name := "touchElse", fn := fun _ => fun
  | [d1, d2, d3] => { results := [.lit (.bool false)], args := [d1, d2, d3] }
  | _ => none }
def TouchElseWrongFalsely : Prop := touchElseRow.holds Tryz.pinned (OpenSpec.ofChange touchElseWrong)

/- THE SECOND FORM. 'bulk': how many values and letters a reading holds, each counted each time it is reached (what is shared counts as often as it is met; a slice's spare places count too). A statement '..UptoSaid' is the law's where the arguments, and the package variables that the reading takes, are together of bulk at most 1048576: NARROWER than '..Said'. Prove '..Said' where nothing that the law and all that it calls make is longer than what came in: it says more and counts as full. Else prove '..UptoSaid'. A law counts once. -/
mutual
def uptoBulk {H : Type} : DataW H → Nat
  | .lit (.string bytes) => bytes.length + 1
  | .lit _ => 1
  | .nil => 1
  | .ptr d => uptoBulk d + 1
  | .slice elems spare => uptoBulkAll elems + uptoBulkAll spare + 1
  | .agg parts => uptoBulkAll parts + 1
  | .iface _ d => uptoBulk d + 1
  | .map entries => uptoBulkEntries entries + 1
  | .held _ => 1
def uptoBulkAll {H : Type} : List (DataW H) → Nat
  | [] => 0
  | d :: r => uptoBulk d + uptoBulkAll r
def uptoBulkEntries {H : Type} : List (Lit × DataW H) → Nat
  | [] => 0
  | x :: r => uptoBulkEntry x + uptoBulkEntries r
def uptoBulkEntry {H : Type} : Lit × DataW H → Nat
  | (.string bytes, d) => bytes.length + uptoBulk d + 1
  | (_, d) => uptoBulk d + 1
 end
def uptoSmall : (H : Type) → List (DataW H) → Bool := fun _ ds => decide (uptoBulkAll ds ≤ 1048576)
def OpenSpec.upto (s : _root_.Go.ChangeSpec) : _root_.Go.OpenSpec := { _root_.Go.OpenSpec.ofChange s with cond := some uptoSmall }

/-- 'facsimilelaw26.LangNil', WHERE WHAT IT READS IS OF BULK AT MOST 1048576: true; the input reads as it did. -/
def langNilUptoRow : OpenClaim := { program := "ytiafpechgjopfaagreatdoor", sum := "08f61c156ac11624bc35beffe6cf7079022af758488f4aba2952b7dd62619153", func := "facsimile/facsimilelaw26.LangNil", spec := "langNil", inPlace := ["sync/atomic.AddInt64", "sync/atomic.LoadUint32", "(*internal/sync.Mutex).Lock", "internal/race.Disable", "sync/atomic.CompareAndSwapInt32", "internal/race.Enable", "internal/race.Acquire", "(*internal/sync.Mutex).lockSlow", "internal/sync.runtime_canSpin", "internal/sync.runtime_doSpin", "internal/sync.throw", "internal/sync.runtime_nanotime", "internal/sync.runtime_SemacquireMutex", "sync/atomic.AddInt32", "(*internal/sync.Mutex).Unlock", "internal/race.ReleaseMerge", "(*internal/sync.Mutex).unlockSlow", "internal/sync.fatal", "internal/sync.runtime_Semrelease", "sync/atomic.StoreUint32", "sync/atomic.LoadInt64"], unfollowed := true, recurses := true, named := ["facsimile/munch.none"], plainKeys := false, apart := false, laid := [("facsimile/munch.none", laid_facsimile_munch_none)], narrowed := true }
def LangNilUptoSaid : Prop := langNilUptoRow.holds Tryz.pinned (OpenSpec.upto langNilSpec)

/-- 'facsimilelaw37.TouchCuts', WHERE WHAT IT READS IS OF BULK AT MOST 1048576: true; the input reads as it did. -/
def touchCutsUptoRow : OpenClaim := { program := "ytiafpechgjopfaagreatdoor", sum := "08f61c156ac11624bc35beffe6cf7079022af758488f4aba2952b7dd62619153", func := "facsimile/facsimilelaw37.TouchCuts", spec := "touchCuts", inPlace := ["sync/atomic.AddInt64", "sync/atomic.LoadUint32", "(*internal/sync.Mutex).Lock", "internal/race.Disable", "sync/atomic.CompareAndSwapInt32", "internal/race.Enable", "internal/race.Acquire", "(*internal/sync.Mutex).lockSlow", "internal/sync.runtime_canSpin", "internal/sync.runtime_doSpin", "internal/sync.throw", "internal/sync.runtime_nanotime", "internal/sync.runtime_SemacquireMutex", "sync/atomic.AddInt32", "(*internal/sync.Mutex).Unlock", "internal/race.ReleaseMerge", "(*internal/sync.Mutex).unlockSlow", "internal/sync.fatal", "internal/sync.runtime_Semrelease", "sync/atomic.StoreUint32"], unfollowed := true, recurses := true, named := ["facsimile/munch.none"], plainKeys := false, apart := false, laid := [("facsimile/munch.none", laid_facsimile_munch_none)], narrowed := true }
def TouchCutsUptoSaid : Prop := touchCutsUptoRow.holds Tryz.pinned (OpenSpec.upto touchCutsSpec)

/-- 'facsimilelaw37.TouchElse', WHERE WHAT IT READS IS OF BULK AT MOST 1048576: true; the input reads as it did. -/
def touchElseUptoRow : OpenClaim := { program := "ytiafpechgjopfaagreatdoor", sum := "08f61c156ac11624bc35beffe6cf7079022af758488f4aba2952b7dd62619153", func := "facsimile/facsimilelaw37.TouchElse", spec := "touchElse", inPlace := ["sync/atomic.AddInt64", "sync/atomic.LoadUint32", "(*internal/sync.Mutex).Lock", "internal/race.Disable", "sync/atomic.CompareAndSwapInt32", "internal/race.Enable", "internal/race.Acquire", "(*internal/sync.Mutex).lockSlow", "internal/sync.runtime_canSpin", "internal/sync.runtime_doSpin", "internal/sync.throw", "internal/sync.runtime_nanotime", "internal/sync.runtime_SemacquireMutex", "sync/atomic.AddInt32", "(*internal/sync.Mutex).Unlock", "internal/race.ReleaseMerge", "(*internal/sync.Mutex).unlockSlow", "internal/sync.fatal", "internal/sync.runtime_Semrelease", "sync/atomic.StoreUint32"], unfollowed := true, recurses := true, named := ["facsimile/munch.none"], plainKeys := false, apart := false, laid := [("facsimile/munch.none", laid_facsimile_munch_none)], narrowed := true }
def TouchElseUptoSaid : Prop := touchElseUptoRow.holds Tryz.pinned (OpenSpec.upto touchElseSpec)

end Rows
end Go.Proofs.YtiafpechgjopfaaGreatDoor
