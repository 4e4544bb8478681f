/-
  DERIVED. GIVEN WITH THE SEED: THE CARDS: each row of YtbicafgmfgdckaaDoorRows.lean that lists a variable, with what it lists TIED to the program's text (the seventh form; the later family's looks); each row that meets fmt, with fmt's text TOLD by the authors' own Lean function (tested against real Go, not proved from fmt's source: count such statements apart). THE CARD IS WHAT COUNTS. Prove the row's statement (the work); the ties are given (YtbicafgmfgdckaaDoorTie.lean); close each card by the builder's one call (the guide's Derived/Test/ToyasCard.lean, 'card_holds'). Laid BY PROGRAM, IN A SANDBOX (cutbox-door.mjs). By AI agents, Wed Nov 11 2026. No macro, syntax, notation, axiom, sorry.
-/
import Derived.Test.YtbicafgmfgdckaaDoorRows
import GoSem.ClaimSeven
namespace Go.Proofs.YtbicafgmfgdckaaDoor
namespace Rows

/-- THE TIED CARD OF 'hoardlaw27.CrewSums'. -/
def crewSumsCard : Claim7 := { stood := { row := crewSumsRow, standIns := [], harness := (true, "a7524d762a2074849775209fc25748c567cb85dc45e93e49b8db7ebc5babb9ed"), looks := false }, kinds := [], alts := [], goes := true, laidByText := true, laidKinds := [.data], laidTests := true, laidLooks := .later }
def CrewSumsCardSaid : Prop := Claim7.holds Tryd.pinned (.plain (OpenSpec.ofChange crewSumsSpec)) crewSumsCard

/-- THE TIED CARD OF 'hoardlaw27.CrewFinds'. -/
def crewFindsCard : Claim7 := { stood := { row := crewFindsRow, standIns := [], harness := (true, "a7524d762a2074849775209fc25748c567cb85dc45e93e49b8db7ebc5babb9ed"), looks := false }, kinds := [], alts := [], goes := true, laidByText := true, laidKinds := [.data], laidTests := true, laidLooks := .later }
def CrewFindsCardSaid : Prop := Claim7.holds Tryd.pinned (.plain (OpenSpec.ofChange crewFindsSpec)) crewFindsCard
end Rows
end Go.Proofs.YtbicafgmfgdckaaDoor
