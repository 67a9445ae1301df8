/-
  DERIVED. GIVEN WITH THE SEED: THE CARDS: each row of YthocgjchmpkhoaaDoorRows.lean that lists a variable, with what it lists TIED to the program's text (the seventh form; the later family's looks); each row that meets fmt, with fmt's text TOLD by the authors' own Lean function (tested against real Go, not proved from fmt's source: count such statements apart). THE CARD IS WHAT COUNTS. Prove the row's statement (the work); the ties are given (YthocgjchmpkhoaaDoorTie.lean); close each card by the builder's one call (the guide's Derived/Test/ToyasCard.lean, 'card_holds'). Laid BY PROGRAM, IN A SANDBOX (cutbox-door.mjs). By AI agents, Wed Nov 11 2026. No macro, syntax, notation, axiom, sorry.
-/
import Derived.Test.YthocgjchmpkhoaaDoorRows
import GoSem.ClaimSeven
namespace Go.Proofs.YthocgjchmpkhoaaDoor
namespace Rows

/-- THE TIED CARD OF 'betrothallaw11.ForceAll'. -/
def forceAllCard : Claim7 := { stood := { row := forceAllRow, standIns := [], harness := (true, "81d4442a95b7602bb34e97ebc61e71bf56614fe114ae2fde417ccdee74f8aec3"), looks := true }, kinds := [], alts := [], laidByText := true, laidKinds := [.data], laidTests := true, laidLooks := .later }
def ForceAllCardSaid : Prop := Claim7.holds Tryd.pinned (.plain (OpenSpec.ofChange forceAllSpec)) forceAllCard

/-- THE SECOND FORM's CARD OF 'betrothallaw11.ForceAll'. -/
def forceAllUptoCard : Claim7 := { stood := { row := forceAllUptoRow, standIns := [], harness := (true, "81d4442a95b7602bb34e97ebc61e71bf56614fe114ae2fde417ccdee74f8aec3"), looks := true }, kinds := [], alts := [], laidByText := true, laidKinds := [.data], laidTests := true, laidLooks := .later }
def ForceAllUptoCardSaid : Prop := Claim7.holds Tryd.pinned (.plain (OpenSpec.upto forceAllSpec)) forceAllUptoCard
end Rows
end Go.Proofs.YthocgjchmpkhoaaDoor
