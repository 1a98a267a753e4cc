/-
  DERIVED. GIVEN WITH THE SEED: THE CARDS: each row of YtiafpechgjopfaaGreatDoorRows.lean that lists a variable, with what it lists TIED to the program's text (the seventh form; the later family's looks); each row that meets fmt, with fmt's text TOLD by the authors' own Lean function (tested against real Go, not proved from fmt's source: count such statements apart). THE CARD IS WHAT COUNTS. Prove the row's statement (the work); the ties are given (YtiafpechgjopfaaGreatDoorTie.lean); close each card by the builder's one call (the guide's Derived/Test/ToyasCard.lean, 'card_holds'). Laid BY PROGRAM, IN A SANDBOX (cutbox-door.mjs). By AI agents, Wed Nov 11 2026. No macro, syntax, notation, axiom, sorry.
-/
import Derived.Test.YtiafpechgjopfaaGreatDoorRows
import GoSem.ClaimSeven
namespace Go.Proofs.YtiafpechgjopfaaGreatDoor
namespace Rows

/-- THE TIED CARD OF 'facsimilelaw26.LangNil'. -/
def langNilCard : Claim7 := { stood := { row := langNilRow, standIns := [], harness := (true, "630f52080978d1979b4949731ae21a19c497b5987b4969377a3ca14849bbdd2d"), looks := false }, kinds := [], alts := [], laidByText := true, laidKinds := [.data], laidTests := true, laidLooks := .later }
def LangNilCardSaid : Prop := Claim7.holds Tryz.pinned (.plain (OpenSpec.ofChange langNilSpec)) langNilCard

/-- THE TIED CARD OF 'facsimilelaw37.TouchCuts'. -/
def touchCutsCard : Claim7 := { stood := { row := touchCutsRow, standIns := [], harness := (true, "630f52080978d1979b4949731ae21a19c497b5987b4969377a3ca14849bbdd2d"), looks := false }, kinds := [], alts := [], laidByText := true, laidKinds := [.data], laidTests := true, laidLooks := .later }
def TouchCutsCardSaid : Prop := Claim7.holds Tryz.pinned (.plain (OpenSpec.ofChange touchCutsSpec)) touchCutsCard

/-- THE TIED CARD OF 'facsimilelaw37.TouchElse'. -/
def touchElseCard : Claim7 := { stood := { row := touchElseRow, standIns := [], harness := (true, "630f52080978d1979b4949731ae21a19c497b5987b4969377a3ca14849bbdd2d"), looks := false }, kinds := [], alts := [], laidByText := true, laidKinds := [.data], laidTests := true, laidLooks := .later }
def TouchElseCardSaid : Prop := Claim7.holds Tryz.pinned (.plain (OpenSpec.ofChange touchElseSpec)) touchElseCard

/-- THE SECOND FORM's CARD OF 'facsimilelaw26.LangNil'. -/
def langNilUptoCard : Claim7 := { stood := { row := langNilUptoRow, standIns := [], harness := (true, "630f52080978d1979b4949731ae21a19c497b5987b4969377a3ca14849bbdd2d"), looks := false }, kinds := [], alts := [], laidByText := true, laidKinds := [.data], laidTests := true, laidLooks := .later }
def LangNilUptoCardSaid : Prop := Claim7.holds Tryz.pinned (.plain (OpenSpec.upto langNilSpec)) langNilUptoCard

/-- THE SECOND FORM's CARD OF 'facsimilelaw37.TouchCuts'. -/
def touchCutsUptoCard : Claim7 := { stood := { row := touchCutsUptoRow, standIns := [], harness := (true, "630f52080978d1979b4949731ae21a19c497b5987b4969377a3ca14849bbdd2d"), looks := false }, kinds := [], alts := [], laidByText := true, laidKinds := [.data], laidTests := true, laidLooks := .later }
def TouchCutsUptoCardSaid : Prop := Claim7.holds Tryz.pinned (.plain (OpenSpec.upto touchCutsSpec)) touchCutsUptoCard

/-- THE SECOND FORM's CARD OF 'facsimilelaw37.TouchElse'. -/
def touchElseUptoCard : Claim7 := { stood := { row := touchElseUptoRow, standIns := [], harness := (true, "630f52080978d1979b4949731ae21a19c497b5987b4969377a3ca14849bbdd2d"), looks := false }, kinds := [], alts := [], laidByText := true, laidKinds := [.data], laidTests := true, laidLooks := .later }
def TouchElseUptoCardSaid : Prop := Claim7.holds Tryz.pinned (.plain (OpenSpec.upto touchElseSpec)) touchElseUptoCard
end Rows
end Go.Proofs.YtiafpechgjopfaaGreatDoor
