/-
  DERIVED. GIVEN WITH THE SEED: THE CARDS: each row of YthdfblhlkkbloaaDoorRows.lean that lists a variable, with what it lists TIED to the program's text (the seventh form; the later family's looks); each row that meets fmt, with fmt's text TOLD by the authors' own Lean function (tested against real Go, not proved from fmt's source: count such statements apart). THE CARD IS WHAT COUNTS. Prove the row's statement (the work); the ties are given (YthdfblhlkkbloaaDoorTie.lean); close each card by the builder's one call (the guide's Derived/Test/ToyasCard.lean, 'card_holds'). Laid BY PROGRAM, IN A SANDBOX (cutbox-door.mjs). By AI agents, Wed Nov 11 2026. No macro, syntax, notation, axiom, sorry.
-/
import Derived.Test.YthdfblhlkkbloaaDoorRows
import GoSem.ClaimSeven
namespace Go.Proofs.YthdfblhlkkbloaaDoor
namespace Rows

/-- THE TIED CARD OF 'hoardlaw02.CrcSums'. -/
def crcSumsCard : Claim7 := { stood := { row := crcSumsRow, standIns := [], harness := (true, "40e733e5815954dcd10a7e0c811cf5d23b77751e241a60c591df2d5cce99c4a2"), looks := false }, kinds := [], alts := [], laidByText := true, laidKinds := [.data], laidTests := true, laidLooks := .later }
def CrcSumsCardSaid : Prop := Claim7.holds Tryd.pinned (.plain (OpenSpec.ofChange crcSumsSpec)) crcSumsCard

/-- THE TIED CARD OF 'hoardlaw02.CrcBurst'. -/
def crcBurstCard : Claim7 := { stood := { row := crcBurstRow, standIns := [], harness := (true, "40e733e5815954dcd10a7e0c811cf5d23b77751e241a60c591df2d5cce99c4a2"), looks := false }, kinds := [], alts := [], laidByText := true, laidKinds := [.data], laidTests := true, laidLooks := .later }
def CrcBurstCardSaid : Prop := Claim7.holds Tryd.pinned (.plain (OpenSpec.ofChange crcBurstSpec)) crcBurstCard

/-- THE TIED CARD OF 'hoardlaw02.CrcNoughts'. -/
def crcNoughtsCard : Claim7 := { stood := { row := crcNoughtsRow, standIns := [], harness := (true, "40e733e5815954dcd10a7e0c811cf5d23b77751e241a60c591df2d5cce99c4a2"), looks := false }, kinds := [], alts := [], laidByText := true, laidKinds := [.data], laidTests := true, laidLooks := .later }
def CrcNoughtsCardSaid : Prop := Claim7.holds Tryd.pinned (.plain (OpenSpec.ofChange crcNoughtsSpec)) crcNoughtsCard

/-- THE TIED CARD OF 'hoardlaw02.CrcLinear'. -/
def crcLinearCard : Claim7 := { stood := { row := crcLinearRow, standIns := [], harness := (true, "40e733e5815954dcd10a7e0c811cf5d23b77751e241a60c591df2d5cce99c4a2"), looks := false }, kinds := [], alts := [], laidByText := true, laidKinds := [.data], laidTests := true, laidLooks := .later }
def CrcLinearCardSaid : Prop := Claim7.holds Tryd.pinned (.plain (OpenSpec.ofChange crcLinearSpec)) crcLinearCard

/-- THE TIED CARD OF 'hoardlaw02.CrcShifts'. -/
def crcShiftsCard : Claim7 := { stood := { row := crcShiftsRow, standIns := [], harness := (true, "40e733e5815954dcd10a7e0c811cf5d23b77751e241a60c591df2d5cce99c4a2"), looks := false }, kinds := [], alts := [], laidByText := true, laidKinds := [.data], laidTests := true, laidLooks := .later }
def CrcShiftsCardSaid : Prop := Claim7.holds Tryd.pinned (.plain (OpenSpec.ofChange crcShiftsSpec)) crcShiftsCard

/-- THE TIED CARD OF 'hoardlaw02.CrcPieces'. -/
def crcPiecesCard : Claim7 := { stood := { row := crcPiecesRow, standIns := [], harness := (true, "40e733e5815954dcd10a7e0c811cf5d23b77751e241a60c591df2d5cce99c4a2"), looks := false }, kinds := [], alts := [], laidByText := true, laidKinds := [.data], laidTests := true, laidLooks := .later }
def CrcPiecesCardSaid : Prop := Claim7.holds Tryd.pinned (.plain (OpenSpec.ofChange crcPiecesSpec)) crcPiecesCard

/-- THE SECOND FORM's CARD OF 'hoardlaw02.CrcSums'. -/
def crcSumsUptoCard : Claim7 := { stood := { row := crcSumsUptoRow, standIns := [], harness := (true, "40e733e5815954dcd10a7e0c811cf5d23b77751e241a60c591df2d5cce99c4a2"), looks := false }, kinds := [], alts := [], laidByText := true, laidKinds := [.data], laidTests := true, laidLooks := .later }
def CrcSumsUptoCardSaid : Prop := Claim7.holds Tryd.pinned (.plain (OpenSpec.upto crcSumsSpec)) crcSumsUptoCard

/-- THE SECOND FORM's CARD OF 'hoardlaw02.CrcBurst'. -/
def crcBurstUptoCard : Claim7 := { stood := { row := crcBurstUptoRow, standIns := [], harness := (true, "40e733e5815954dcd10a7e0c811cf5d23b77751e241a60c591df2d5cce99c4a2"), looks := false }, kinds := [], alts := [], laidByText := true, laidKinds := [.data], laidTests := true, laidLooks := .later }
def CrcBurstUptoCardSaid : Prop := Claim7.holds Tryd.pinned (.plain (OpenSpec.upto crcBurstSpec)) crcBurstUptoCard

/-- THE SECOND FORM's CARD OF 'hoardlaw02.CrcNoughts'. -/
def crcNoughtsUptoCard : Claim7 := { stood := { row := crcNoughtsUptoRow, standIns := [], harness := (true, "40e733e5815954dcd10a7e0c811cf5d23b77751e241a60c591df2d5cce99c4a2"), looks := false }, kinds := [], alts := [], laidByText := true, laidKinds := [.data], laidTests := true, laidLooks := .later }
def CrcNoughtsUptoCardSaid : Prop := Claim7.holds Tryd.pinned (.plain (OpenSpec.upto crcNoughtsSpec)) crcNoughtsUptoCard

/-- THE SECOND FORM's CARD OF 'hoardlaw02.CrcLinear'. -/
def crcLinearUptoCard : Claim7 := { stood := { row := crcLinearUptoRow, standIns := [], harness := (true, "40e733e5815954dcd10a7e0c811cf5d23b77751e241a60c591df2d5cce99c4a2"), looks := false }, kinds := [], alts := [], laidByText := true, laidKinds := [.data], laidTests := true, laidLooks := .later }
def CrcLinearUptoCardSaid : Prop := Claim7.holds Tryd.pinned (.plain (OpenSpec.upto crcLinearSpec)) crcLinearUptoCard

/-- THE SECOND FORM's CARD OF 'hoardlaw02.CrcShifts'. -/
def crcShiftsUptoCard : Claim7 := { stood := { row := crcShiftsUptoRow, standIns := [], harness := (true, "40e733e5815954dcd10a7e0c811cf5d23b77751e241a60c591df2d5cce99c4a2"), looks := false }, kinds := [], alts := [], laidByText := true, laidKinds := [.data], laidTests := true, laidLooks := .later }
def CrcShiftsUptoCardSaid : Prop := Claim7.holds Tryd.pinned (.plain (OpenSpec.upto crcShiftsSpec)) crcShiftsUptoCard

/-- THE SECOND FORM's CARD OF 'hoardlaw02.CrcPieces'. -/
def crcPiecesUptoCard : Claim7 := { stood := { row := crcPiecesUptoRow, standIns := [], harness := (true, "40e733e5815954dcd10a7e0c811cf5d23b77751e241a60c591df2d5cce99c4a2"), looks := false }, kinds := [], alts := [], laidByText := true, laidKinds := [.data], laidTests := true, laidLooks := .later }
def CrcPiecesUptoCardSaid : Prop := Claim7.holds Tryd.pinned (.plain (OpenSpec.upto crcPiecesSpec)) crcPiecesUptoCard
end Rows
end Go.Proofs.YthdfblhlkkbloaaDoor
