/-
  No cell of these rows narrows 'for every input' (looked for: loops, veiled, ifaces, maps, wideKeys, modest, calm, conditions, laid).
  DERIVED. THE GIVEN ROWS OF THIS SEAT. 9 by the template 'for every input the law returns true; each argument reads behind the call as it read before'; 0 by the template 'total and deterministic' (their statements: YtficeeaaaijgcaaTotals.lean).
  GIVEN WITH THE SEED: the statements are not yours to turn. If you find one false, say at which input.
  Laid BY PROGRAM, IN A SANDBOX (cutbox-rows.mjs): the forced cells as the released guide's own fill.sh prints them over the translation 431bb63c6d4c5f73… (all of the seat's roots in one cut). By AI agents, Wed Nov 11 2026. No macro, syntax, notation, axiom, sorry.
-/
import Derived.Test.YtficeeaaaijgcaaChecked
import GoSem.Claim
import GoSem.ClaimJoined
import GoSem.ClaimMapViews
import Derived.JoinedTies
import Derived.KernelRfl
namespace Go.Proofs.Ytficeeaaaijgcaa
/- THE CELL 'sum', in the pinned program and in every row, IS THE sha256 OF THE DUMP (.gsa) THAT YtficeeaaaijgcaaProg.lean LOADS. Nothing in Lean hashes anything: it is a label: what it is worth is what the hold of that sum in a sandbox is worth. -/
noncomputable def Try.pinned : Pinned := { name := "ytficeeaaaijgcaa", sum := "431bb63c6d4c5f73d90668f485d6549122495520cf2d2cbd9a50ee1fcbf86822", checked := Try.checked }
namespace Rows
def none {H : Type} : Left H := { results := [], args := [] }

/-- 'facsimilelaw10.SpotTells': WHATEVER THE INPUT: true; the input reads as it did. -/
def spotTellsSpec : ChangeSpec := { name := "spotTells", fn := fun _ => fun
  | [d1, d2] => { results := [.lit (.bool true)], args := [d1, d2] }
  | _ => none }
def spotTellsRow : OpenClaim := { program := "ytficeeaaaijgcaa", sum := "431bb63c6d4c5f73d90668f485d6549122495520cf2d2cbd9a50ee1fcbf86822", func := "facsimile/facsimilelaw10.SpotTells", spec := "spotTells", unfollowed := true, recurses := true, plainKeys := false, apart := false }
def SpotTellsSaid : Prop := spotTellsRow.holds Try.pinned (OpenSpec.ofChange spotTellsSpec)

/-- ITS FALSE NEIGHBOUR: 'it returns false'. Refute it at one input. -/
def spotTellsWrong : ChangeSpec := { name := "spotTells", fn := fun _ => fun
  | [d1, d2] => { results := [.lit (.bool false)], args := [d1, d2] }
  | _ => none }
def SpotTellsWrongFalsely : Prop := spotTellsRow.holds Try.pinned (OpenSpec.ofChange spotTellsWrong)

/-- 'facsimilelaw10.SpotWords': WHATEVER THE INPUT: true; the input reads as it did. -/
def spotWordsSpec : ChangeSpec := { name := "spotWords", fn := fun _ => fun
  | [d1, d2] => { results := [.lit (.bool true)], args := [d1, d2] }
  | _ => none }
def spotWordsRow : OpenClaim := { program := "ytficeeaaaijgcaa", sum := "431bb63c6d4c5f73d90668f485d6549122495520cf2d2cbd9a50ee1fcbf86822", func := "facsimile/facsimilelaw10.SpotWords", spec := "spotWords", unfollowed := true, recurses := true, plainKeys := false, apart := false }
def SpotWordsSaid : Prop := spotWordsRow.holds Try.pinned (OpenSpec.ofChange spotWordsSpec)

/-- ITS FALSE NEIGHBOUR: 'it returns false'. Refute it at one input. -/
def spotWordsWrong : ChangeSpec := { name := "spotWords", fn := fun _ => fun
  | [d1, d2] => { results := [.lit (.bool false)], args := [d1, d2] }
  | _ => none }
def SpotWordsWrongFalsely : Prop := spotWordsRow.holds Try.pinned (OpenSpec.ofChange spotWordsWrong)

/-- 'facsimilelaw10.SpotBehind': WHATEVER THE INPUT: true; the input reads as it did. -/
def spotBehindSpec : ChangeSpec := { name := "spotBehind", fn := fun _ => fun
  | [d1, d2] => { results := [.lit (.bool true)], args := [d1, d2] }
  | _ => none }
def spotBehindRow : OpenClaim := { program := "ytficeeaaaijgcaa", sum := "431bb63c6d4c5f73d90668f485d6549122495520cf2d2cbd9a50ee1fcbf86822", func := "facsimile/facsimilelaw10.SpotBehind", spec := "spotBehind", unfollowed := true, recurses := true, plainKeys := false, apart := false }
def SpotBehindSaid : Prop := spotBehindRow.holds Try.pinned (OpenSpec.ofChange spotBehindSpec)

/-- ITS FALSE NEIGHBOUR: 'it returns false'. Refute it at one input. -/
def spotBehindWrong : ChangeSpec := { name := "spotBehind", fn := fun _ => fun
  | [d1, d2] => { results := [.lit (.bool false)], args := [d1, d2] }
  | _ => none }
def SpotBehindWrongFalsely : Prop := spotBehindRow.holds Try.pinned (OpenSpec.ofChange spotBehindWrong)

/-- 'facsimilelaw15.LiveSame': WHATEVER THE INPUT: true; the input reads as it did. -/
def liveSameSpec : ChangeSpec := { name := "liveSame", fn := fun _ => fun
  | [d1, d2] => { results := [.lit (.bool true)], args := [d1, d2] }
  | _ => none }
def liveSameRow : OpenClaim := { program := "ytficeeaaaijgcaa", sum := "431bb63c6d4c5f73d90668f485d6549122495520cf2d2cbd9a50ee1fcbf86822", func := "facsimile/facsimilelaw15.LiveSame", spec := "liveSame", unfollowed := true, recurses := true, plainKeys := false, apart := false }
def LiveSameSaid : Prop := liveSameRow.holds Try.pinned (OpenSpec.ofChange liveSameSpec)

/-- ITS FALSE NEIGHBOUR: 'it returns false'. Refute it at one input. -/
def liveSameWrong : ChangeSpec := { name := "liveSame", fn := fun _ => fun
  | [d1, d2] => { results := [.lit (.bool false)], args := [d1, d2] }
  | _ => none }
def LiveSameWrongFalsely : Prop := liveSameRow.holds Try.pinned (OpenSpec.ofChange liveSameWrong)

/-- 'facsimilelaw15.LiveShown': WHATEVER THE INPUT: true; the input reads as it did. -/
def liveShownSpec : ChangeSpec := { name := "liveShown", fn := fun _ => fun
  | [d1, d2, d3] => { results := [.lit (.bool true)], args := [d1, d2, d3] }
  | _ => none }
def liveShownRow : OpenClaim := { program := "ytficeeaaaijgcaa", sum := "431bb63c6d4c5f73d90668f485d6549122495520cf2d2cbd9a50ee1fcbf86822", func := "facsimile/facsimilelaw15.LiveShown", spec := "liveShown", unfollowed := true, recurses := true, plainKeys := false, apart := false }
def LiveShownSaid : Prop := liveShownRow.holds Try.pinned (OpenSpec.ofChange liveShownSpec)

/-- ITS FALSE NEIGHBOUR: 'it returns false'. Refute it at one input. -/
def liveShownWrong : ChangeSpec := { name := "liveShown", fn := fun _ => fun
  | [d1, d2, d3] => { results := [.lit (.bool false)], args := [d1, d2, d3] }
  | _ => none }
def LiveShownWrongFalsely : Prop := liveShownRow.holds Try.pinned (OpenSpec.ofChange liveShownWrong)

/-- 'facsimilelaw12.FuseTells': WHATEVER THE INPUT: true; the input reads as it did. -/
def fuseTellsSpec : ChangeSpec := { name := "fuseTells", fn := fun _ => fun
  | [d] => { results := [.lit (.bool true)], args := [d] }
  | _ => none }
def fuseTellsRow : OpenClaim := { program := "ytficeeaaaijgcaa", sum := "431bb63c6d4c5f73d90668f485d6549122495520cf2d2cbd9a50ee1fcbf86822", func := "facsimile/facsimilelaw12.FuseTells", spec := "fuseTells", unfollowed := true, recurses := true, plainKeys := false, apart := false }
def FuseTellsSaid : Prop := fuseTellsRow.holds Try.pinned (OpenSpec.ofChange fuseTellsSpec)

/-- ITS FALSE NEIGHBOUR: 'it returns false'. Refute it at one input. -/
def fuseTellsWrong : ChangeSpec := { name := "fuseTells", fn := fun _ => fun
  | [d] => { results := [.lit (.bool false)], args := [d] }
  | _ => none }
def FuseTellsWrongFalsely : Prop := fuseTellsRow.holds Try.pinned (OpenSpec.ofChange fuseTellsWrong)

/-- 'facsimilelaw12.FuseReads': WHATEVER THE INPUT: true; the input reads as it did. -/
def fuseReadsSpec : ChangeSpec := { name := "fuseReads", fn := fun _ => fun
  | [d1, d2] => { results := [.lit (.bool true)], args := [d1, d2] }
  | _ => none }
def fuseReadsRow : OpenClaim := { program := "ytficeeaaaijgcaa", sum := "431bb63c6d4c5f73d90668f485d6549122495520cf2d2cbd9a50ee1fcbf86822", func := "facsimile/facsimilelaw12.FuseReads", spec := "fuseReads", unfollowed := true, recurses := true, plainKeys := false, apart := false }
def FuseReadsSaid : Prop := fuseReadsRow.holds Try.pinned (OpenSpec.ofChange fuseReadsSpec)

/-- ITS FALSE NEIGHBOUR: 'it returns false'. Refute it at one input. -/
def fuseReadsWrong : ChangeSpec := { name := "fuseReads", fn := fun _ => fun
  | [d1, d2] => { results := [.lit (.bool false)], args := [d1, d2] }
  | _ => none }
def FuseReadsWrongFalsely : Prop := fuseReadsRow.holds Try.pinned (OpenSpec.ofChange fuseReadsWrong)

/-- 'facsimilelaw12.FuseLeads': WHATEVER THE INPUT: true; the input reads as it did. -/
def fuseLeadsSpec : ChangeSpec := { name := "fuseLeads", fn := fun _ => fun
  | [d1, d2, d3, d4] => { results := [.lit (.bool true)], args := [d1, d2, d3, d4] }
  | _ => none }
def fuseLeadsRow : OpenClaim := { program := "ytficeeaaaijgcaa", sum := "431bb63c6d4c5f73d90668f485d6549122495520cf2d2cbd9a50ee1fcbf86822", func := "facsimile/facsimilelaw12.FuseLeads", spec := "fuseLeads", unfollowed := true, recurses := true, plainKeys := false, apart := false }
def FuseLeadsSaid : Prop := fuseLeadsRow.holds Try.pinned (OpenSpec.ofChange fuseLeadsSpec)

/-- ITS FALSE NEIGHBOUR: 'it returns false'. Refute it at one input. -/
def fuseLeadsWrong : ChangeSpec := { name := "fuseLeads", fn := fun _ => fun
  | [d1, d2, d3, d4] => { results := [.lit (.bool false)], args := [d1, d2, d3, d4] }
  | _ => none }
def FuseLeadsWrongFalsely : Prop := fuseLeadsRow.holds Try.pinned (OpenSpec.ofChange fuseLeadsWrong)

/-- 'facsimilelaw12.FuseParts': WHATEVER THE INPUT: true; the input reads as it did. -/
def fusePartsSpec : ChangeSpec := { name := "fuseParts", fn := fun _ => fun
  | [d1, d2, d3] => { results := [.lit (.bool true)], args := [d1, d2, d3] }
  | _ => none }
def fusePartsRow : OpenClaim := { program := "ytficeeaaaijgcaa", sum := "431bb63c6d4c5f73d90668f485d6549122495520cf2d2cbd9a50ee1fcbf86822", func := "facsimile/facsimilelaw12.FuseParts", spec := "fuseParts", unfollowed := true, recurses := true, plainKeys := false, apart := false }
def FusePartsSaid : Prop := fusePartsRow.holds Try.pinned (OpenSpec.ofChange fusePartsSpec)

/-- ITS FALSE NEIGHBOUR: 'it returns false'. Refute it at one input. -/
def fusePartsWrong : ChangeSpec := { name := "fuseParts", fn := fun _ => fun
  | [d1, d2, d3] => { results := [.lit (.bool false)], args := [d1, d2, d3] }
  | _ => none }
def FusePartsWrongFalsely : Prop := fusePartsRow.holds Try.pinned (OpenSpec.ofChange fusePartsWrong)

/- THE SECOND FORM. 'bulk': how many values and letters a reading holds, each counted each time it is reached (what is shared counts as often as it is met; a slice's spare places count too). A statement '..UptoSaid' is the law's where the arguments, and the package variables that the reading takes, are together of bulk at most 1048576: NARROWER than '..Said'. Prove '..Said' where nothing that the law and all that it calls make is longer than what came in: it says more and counts as full. Else prove '..UptoSaid'. A law counts once. -/
mutual
def uptoBulk {H : Type} : DataW H → Nat
  | .lit (.string bytes) => bytes.length + 1
  | .lit _ => 1
  | .nil => 1
  | .ptr d => uptoBulk d + 1
  | .slice elems spare => uptoBulkAll elems + uptoBulkAll spare + 1
  | .agg parts => uptoBulkAll parts + 1
  | .iface _ d => uptoBulk d + 1
  | .map entries => uptoBulkEntries entries + 1
  | .held _ => 1
def uptoBulkAll {H : Type} : List (DataW H) → Nat
  | [] => 0
  | d :: r => uptoBulk d + uptoBulkAll r
def uptoBulkEntries {H : Type} : List (Lit × DataW H) → Nat
  | [] => 0
  | x :: r => uptoBulkEntry x + uptoBulkEntries r
def uptoBulkEntry {H : Type} : Lit × DataW H → Nat
  | (.string bytes, d) => bytes.length + uptoBulk d + 1
  | (_, d) => uptoBulk d + 1
 end
def uptoSmall : (H : Type) → List (DataW H) → Bool := fun _ ds => decide (uptoBulkAll ds ≤ 1048576)
def OpenSpec.upto (s : _root_.Go.ChangeSpec) : _root_.Go.OpenSpec := { _root_.Go.OpenSpec.ofChange s with cond := some uptoSmall }

/-- 'facsimilelaw10.SpotTells', WHERE WHAT IT READS IS OF BULK AT MOST 1048576: true; the input reads as it did. -/
def spotTellsUptoRow : OpenClaim := { program := "ytficeeaaaijgcaa", sum := "431bb63c6d4c5f73d90668f485d6549122495520cf2d2cbd9a50ee1fcbf86822", func := "facsimile/facsimilelaw10.SpotTells", spec := "spotTells", unfollowed := true, recurses := true, plainKeys := false, apart := false, narrowed := true }
def SpotTellsUptoSaid : Prop := spotTellsUptoRow.holds Try.pinned (OpenSpec.upto spotTellsSpec)

/-- 'facsimilelaw10.SpotWords', WHERE WHAT IT READS IS OF BULK AT MOST 1048576: true; the input reads as it did. -/
def spotWordsUptoRow : OpenClaim := { program := "ytficeeaaaijgcaa", sum := "431bb63c6d4c5f73d90668f485d6549122495520cf2d2cbd9a50ee1fcbf86822", func := "facsimile/facsimilelaw10.SpotWords", spec := "spotWords", unfollowed := true, recurses := true, plainKeys := false, apart := false, narrowed := true }
def SpotWordsUptoSaid : Prop := spotWordsUptoRow.holds Try.pinned (OpenSpec.upto spotWordsSpec)

/-- 'facsimilelaw10.SpotBehind', WHERE WHAT IT READS IS OF BULK AT MOST 1048576: true; the input reads as it did. -/
def spotBehindUptoRow : OpenClaim := { program := "ytficeeaaaijgcaa", sum := "431bb63c6d4c5f73d90668f485d6549122495520cf2d2cbd9a50ee1fcbf86822", func := "facsimile/facsimilelaw10.SpotBehind", spec := "spotBehind", unfollowed := true, recurses := true, plainKeys := false, apart := false, narrowed := true }
def SpotBehindUptoSaid : Prop := spotBehindUptoRow.holds Try.pinned (OpenSpec.upto spotBehindSpec)

/-- 'facsimilelaw15.LiveSame', WHERE WHAT IT READS IS OF BULK AT MOST 1048576: true; the input reads as it did. -/
def liveSameUptoRow : OpenClaim := { program := "ytficeeaaaijgcaa", sum := "431bb63c6d4c5f73d90668f485d6549122495520cf2d2cbd9a50ee1fcbf86822", func := "facsimile/facsimilelaw15.LiveSame", spec := "liveSame", unfollowed := true, recurses := true, plainKeys := false, apart := false, narrowed := true }
def LiveSameUptoSaid : Prop := liveSameUptoRow.holds Try.pinned (OpenSpec.upto liveSameSpec)

/-- 'facsimilelaw15.LiveShown', WHERE WHAT IT READS IS OF BULK AT MOST 1048576: true; the input reads as it did. -/
def liveShownUptoRow : OpenClaim := { program := "ytficeeaaaijgcaa", sum := "431bb63c6d4c5f73d90668f485d6549122495520cf2d2cbd9a50ee1fcbf86822", func := "facsimile/facsimilelaw15.LiveShown", spec := "liveShown", unfollowed := true, recurses := true, plainKeys := false, apart := false, narrowed := true }
def LiveShownUptoSaid : Prop := liveShownUptoRow.holds Try.pinned (OpenSpec.upto liveShownSpec)

/-- 'facsimilelaw12.FuseTells', WHERE WHAT IT READS IS OF BULK AT MOST 1048576: true; the input reads as it did. -/
def fuseTellsUptoRow : OpenClaim := { program := "ytficeeaaaijgcaa", sum := "431bb63c6d4c5f73d90668f485d6549122495520cf2d2cbd9a50ee1fcbf86822", func := "facsimile/facsimilelaw12.FuseTells", spec := "fuseTells", unfollowed := true, recurses := true, plainKeys := false, apart := false, narrowed := true }
def FuseTellsUptoSaid : Prop := fuseTellsUptoRow.holds Try.pinned (OpenSpec.upto fuseTellsSpec)

/-- 'facsimilelaw12.FuseReads', WHERE WHAT IT READS IS OF BULK AT MOST 1048576: true; the input reads as it did. -/
def fuseReadsUptoRow : OpenClaim := { program := "ytficeeaaaijgcaa", sum := "431bb63c6d4c5f73d90668f485d6549122495520cf2d2cbd9a50ee1fcbf86822", func := "facsimile/facsimilelaw12.FuseReads", spec := "fuseReads", unfollowed := true, recurses := true, plainKeys := false, apart := false, narrowed := true }
def FuseReadsUptoSaid : Prop := fuseReadsUptoRow.holds Try.pinned (OpenSpec.upto fuseReadsSpec)

/-- 'facsimilelaw12.FuseLeads', WHERE WHAT IT READS IS OF BULK AT MOST 1048576: true; the input reads as it did. -/
def fuseLeadsUptoRow : OpenClaim := { program := "ytficeeaaaijgcaa", sum := "431bb63c6d4c5f73d90668f485d6549122495520cf2d2cbd9a50ee1fcbf86822", func := "facsimile/facsimilelaw12.FuseLeads", spec := "fuseLeads", unfollowed := true, recurses := true, plainKeys := false, apart := false, narrowed := true }
def FuseLeadsUptoSaid : Prop := fuseLeadsUptoRow.holds Try.pinned (OpenSpec.upto fuseLeadsSpec)

/-- 'facsimilelaw12.FuseParts', WHERE WHAT IT READS IS OF BULK AT MOST 1048576: true; the input reads as it did. -/
def fusePartsUptoRow : OpenClaim := { program := "ytficeeaaaijgcaa", sum := "431bb63c6d4c5f73d90668f485d6549122495520cf2d2cbd9a50ee1fcbf86822", func := "facsimile/facsimilelaw12.FuseParts", spec := "fuseParts", unfollowed := true, recurses := true, plainKeys := false, apart := false, narrowed := true }
def FusePartsUptoSaid : Prop := fusePartsUptoRow.holds Try.pinned (OpenSpec.upto fusePartsSpec)

end Rows
end Go.Proofs.Ytficeeaaaijgcaa
