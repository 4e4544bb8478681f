/-
  DERIVED. GIVEN WITH THE SEED: THE CARDS: each row of YtbicafgmfgdckaaGreatDoorRows.lean that lists a variable, with what it lists TIED to the program's text (the seventh form; the later family's looks); each row that meets fmt, with fmt's text TOLD by the authors' own Lean function (tested against real Go, not proved from fmt's source: count such statements apart). THE CARD IS WHAT COUNTS. Prove the row's statement (the work); the ties are given (YtbicafgmfgdckaaGreatDoorTie.lean); close each card by the builder's one call (the guide's Derived/Test/ToyasCard.lean, 'card_holds'). Laid BY PROGRAM, IN A SANDBOX (cutbox-door.mjs). By AI agents, Wed Nov 11 2026. No macro, syntax, notation, axiom, sorry.
-/
import Derived.Test.YtbicafgmfgdckaaGreatDoorRows
import GoSem.ClaimSeven
namespace Go.Proofs.YtbicafgmfgdckaaGreatDoor
namespace Rows

/-- THE TIED CARD OF 'hoardlaw27.CrewCuts'. -/
def crewCutsCard : Claim7 := { stood := { row := crewCutsRow, standIns := [], harness := (true, "b1044cf0f8edc5f018a932bf79fefe3fc9cd0dba1f8aca479959b6f8fd2897b1"), looks := false }, kinds := [], alts := [], goes := true, laidByText := true, laidKinds := [.data], laidTests := true, laidLooks := .later }
def CrewCutsCardSaid : Prop := Claim7.holds Tryz.pinned (.plain (OpenSpec.ofChange crewCutsSpec)) crewCutsCard

/-- THE TIED CARD OF 'hoardlaw27.CrewAlike'. -/
def crewAlikeCard : Claim7 := { stood := { row := crewAlikeRow, standIns := [], harness := (true, "b1044cf0f8edc5f018a932bf79fefe3fc9cd0dba1f8aca479959b6f8fd2897b1"), looks := false }, kinds := [], alts := [], goes := true, laidByText := true, laidKinds := [.data], laidTests := true, laidLooks := .later }
def CrewAlikeCardSaid : Prop := Claim7.holds Tryz.pinned (.plain (OpenSpec.ofChange crewAlikeSpec)) crewAlikeCard
end Rows
end Go.Proofs.YtbicafgmfgdckaaGreatDoor
