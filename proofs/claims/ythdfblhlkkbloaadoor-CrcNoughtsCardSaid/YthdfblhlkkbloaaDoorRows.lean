/-
  NARROWER THAN 'FOR EVERY INPUT', by the rows' own cells (each row's printed sentence says how): CrcSums: laid · CrcBurst: laid · CrcNoughts: laid · CrcLinear: laid · CrcShifts: laid · CrcPieces: laid.
  DERIVED. THE GIVEN ROWS OF THIS SEAT. 6 by the template 'for every input the law returns true; each argument reads behind the call as it read before'; 0 by the template 'total and deterministic' (their statements: YthdfblhlkkbloaaDoorTotals.lean).
  GIVEN WITH THE SEED: the statements are not yours to turn. If you find one false, say at which input.
  Laid BY PROGRAM, IN A SANDBOX (cutbox-rows.mjs): the forced cells as the released guide's own fill.sh prints them over the translation 3191800cf1f10d48… (all of the seat's roots in one cut). By AI agents, Wed Nov 11 2026. No macro, syntax, notation, axiom, sorry.
-/
import Derived.Test.YthdfblhlkkbloaaDoorChecked
import GoSem.Claim
import GoSem.ClaimJoined
import GoSem.ClaimMapViews
import Derived.JoinedTies
import Derived.KernelRfl
namespace Go.Proofs.YthdfblhlkkbloaaDoor
/- THE CELL 'sum', in the pinned program and in every row, IS THE sha256 OF THE DUMP (.gsa) THAT YthdfblhlkkbloaaDoorProg.lean LOADS. Nothing in Lean hashes anything: it is a label: what it is worth is what the hold of that sum in a sandbox is worth. -/
noncomputable def Tryd.pinned : Pinned := { name := "ythdfblhlkkbloaadoor", sum := "3191800cf1f10d4842b0846f44d578edacd647c5c46ae7ad45909b316dfca032", checked := Tryd.checked }
namespace Rows
def none {H : Type} : Left H := { results := [], args := [] }

/- WHAT THE LISTED PACKAGE-LEVEL VARIABLES READ AS WHEN THE CALL BEGINS. Each datum BY PROGRAM (the guide's laid-datum.mjs) off the statement by which the dump's own 'gosem.cut.vars' lays the variable. In a bare row this is a premise. The card (YthdfblhlkkbloaaDoorCards.lean) ties it to the program's text. -/
def laid_hoard_crc_half {H : Type} : DataW H := .agg [.lit (.int .u32 0), .lit (.int .u32 498536548), .lit (.int .u32 997073096), .lit (.int .u32 651767980), .lit (.int .u32 1994146192), .lit (.int .u32 1802195444), .lit (.int .u32 1303535960), .lit (.int .u32 1342533948), .lit (.int .u32 3988292384), .lit (.int .u32 4027552580), .lit (.int .u32 3604390888), .lit (.int .u32 3412177804), .lit (.int .u32 2607071920), .lit (.int .u32 2262029012), .lit (.int .u32 2685067896), .lit (.int .u32 3183342108)]

/-- 'hoardlaw02.CrcSums': WHATEVER THE INPUT: true; the input reads as it did. -/
def crcSumsSpec : ChangeSpec := { name := "crcSums", fn := fun _ => fun
  | [d1, d2] => { results := [.lit (.bool true)], args := [d1, d2] }
  | _ => none }
def crcSumsRow : OpenClaim := { program := "ythdfblhlkkbloaadoor", sum := "3191800cf1f10d4842b0846f44d578edacd647c5c46ae7ad45909b316dfca032", func := "hoard/hoardlaw02.CrcSums", spec := "crcSums", named := ["hoard/crc.half"], apart := false, laid := [("hoard/crc.half", laid_hoard_crc_half)] }
def CrcSumsSaid : Prop := crcSumsRow.holds Tryd.pinned (OpenSpec.ofChange crcSumsSpec)

/-- ITS FALSE NEIGHBOUR: 'it returns false'. Refute it at one input. -/
def crcSumsWrong : ChangeSpec := { name := "crcSums", fn := fun _ => fun
  | [d1, d2] => { results := [.lit (.bool false)], args := [d1, d2] }
  | _ => none }
def CrcSumsWrongFalsely : Prop := crcSumsRow.holds Tryd.pinned (OpenSpec.ofChange crcSumsWrong)

/-- 'hoardlaw02.CrcBurst': WHATEVER THE INPUT: true; the input reads as it did. -/
def crcBurstSpec : ChangeSpec := { name := "crcBurst", fn := fun _ => fun
  | [d1, d2, d3, d4] => { results := [.lit (.bool true)], args := [d1, d2, d3, d4] }
  | _ => none }
def crcBurstRow : OpenClaim := { program := "ythdfblhlkkbloaadoor", sum := "3191800cf1f10d4842b0846f44d578edacd647c5c46ae7ad45909b316dfca032", func := "hoard/hoardlaw02.CrcBurst", spec := "crcBurst", named := ["hoard/crc.half"], apart := false, laid := [("hoard/crc.half", laid_hoard_crc_half)] }
def CrcBurstSaid : Prop := crcBurstRow.holds Tryd.pinned (OpenSpec.ofChange crcBurstSpec)

/-- ITS FALSE NEIGHBOUR: 'it returns false'. Refute it at one input. -/
def crcBurstWrong : ChangeSpec := { name := "crcBurst", fn := fun _ => fun
  | [d1, d2, d3, d4] => { results := [.lit (.bool false)], args := [d1, d2, d3, d4] }
  | _ => none }
def CrcBurstWrongFalsely : Prop := crcBurstRow.holds Tryd.pinned (OpenSpec.ofChange crcBurstWrong)

/-- 'hoardlaw02.CrcNoughts': WHATEVER THE INPUT: true; the input reads as it did. -/
def crcNoughtsSpec : ChangeSpec := { name := "crcNoughts", fn := fun _ => fun
  | [d1, d2, d3] => { results := [.lit (.bool true)], args := [d1, d2, d3] }
  | _ => none }
def crcNoughtsRow : OpenClaim := { program := "ythdfblhlkkbloaadoor", sum := "3191800cf1f10d4842b0846f44d578edacd647c5c46ae7ad45909b316dfca032", func := "hoard/hoardlaw02.CrcNoughts", spec := "crcNoughts", named := ["hoard/crc.half"], apart := false, laid := [("hoard/crc.half", laid_hoard_crc_half)] }
def CrcNoughtsSaid : Prop := crcNoughtsRow.holds Tryd.pinned (OpenSpec.ofChange crcNoughtsSpec)

/-- ITS FALSE NEIGHBOUR: 'it returns false'. Refute it at one input. -/
def crcNoughtsWrong : ChangeSpec := { name := "crcNoughts", fn := fun _ => fun
  | [d1, d2, d3] => { results := [.lit (.bool false)], args := [d1, d2, d3] }
  | _ => none }
def CrcNoughtsWrongFalsely : Prop := crcNoughtsRow.holds Tryd.pinned (OpenSpec.ofChange crcNoughtsWrong)

/-- 'hoardlaw02.CrcLinear': WHATEVER THE INPUT: true; the input reads as it did. -/
def crcLinearSpec : ChangeSpec := { name := "crcLinear", fn := fun _ => fun
  | [d1, d2, d3, d4] => { results := [.lit (.bool true)], args := [d1, d2, d3, d4] }
  | _ => none }
def crcLinearRow : OpenClaim := { program := "ythdfblhlkkbloaadoor", sum := "3191800cf1f10d4842b0846f44d578edacd647c5c46ae7ad45909b316dfca032", func := "hoard/hoardlaw02.CrcLinear", spec := "crcLinear", named := ["hoard/crc.half"], apart := false, laid := [("hoard/crc.half", laid_hoard_crc_half)] }
def CrcLinearSaid : Prop := crcLinearRow.holds Tryd.pinned (OpenSpec.ofChange crcLinearSpec)

/-- ITS FALSE NEIGHBOUR: 'it returns false'. Refute it at one input. -/
def crcLinearWrong : ChangeSpec := { name := "crcLinear", fn := fun _ => fun
  | [d1, d2, d3, d4] => { results := [.lit (.bool false)], args := [d1, d2, d3, d4] }
  | _ => none }
def CrcLinearWrongFalsely : Prop := crcLinearRow.holds Tryd.pinned (OpenSpec.ofChange crcLinearWrong)

/-- 'hoardlaw02.CrcShifts': WHATEVER THE INPUT: true; the input reads as it did. -/
def crcShiftsSpec : ChangeSpec := { name := "crcShifts", fn := fun _ => fun
  | [d1, d2, d3] => { results := [.lit (.bool true)], args := [d1, d2, d3] }
  | _ => none }
def crcShiftsRow : OpenClaim := { program := "ythdfblhlkkbloaadoor", sum := "3191800cf1f10d4842b0846f44d578edacd647c5c46ae7ad45909b316dfca032", func := "hoard/hoardlaw02.CrcShifts", spec := "crcShifts", recurses := true, named := ["hoard/crc.half"], apart := false, laid := [("hoard/crc.half", laid_hoard_crc_half)] }
def CrcShiftsSaid : Prop := crcShiftsRow.holds Tryd.pinned (OpenSpec.ofChange crcShiftsSpec)

/-- ITS FALSE NEIGHBOUR: 'it returns false'. Refute it at one input. -/
def crcShiftsWrong : ChangeSpec := { name := "crcShifts", fn := fun _ => fun
  | [d1, d2, d3] => { results := [.lit (.bool false)], args := [d1, d2, d3] }
  | _ => none }
def CrcShiftsWrongFalsely : Prop := crcShiftsRow.holds Tryd.pinned (OpenSpec.ofChange crcShiftsWrong)

/-- 'hoardlaw02.CrcPieces': WHATEVER THE INPUT: true; the input reads as it did. -/
def crcPiecesSpec : ChangeSpec := { name := "crcPieces", fn := fun _ => fun
  | [d1, d2] => { results := [.lit (.bool true)], args := [d1, d2] }
  | _ => none }
def crcPiecesRow : OpenClaim := { program := "ythdfblhlkkbloaadoor", sum := "3191800cf1f10d4842b0846f44d578edacd647c5c46ae7ad45909b316dfca032", func := "hoard/hoardlaw02.CrcPieces", spec := "crcPieces", named := ["hoard/crc.half"], apart := false, laid := [("hoard/crc.half", laid_hoard_crc_half)] }
def CrcPiecesSaid : Prop := crcPiecesRow.holds Tryd.pinned (OpenSpec.ofChange crcPiecesSpec)

/-- ITS FALSE NEIGHBOUR: 'it returns false'. Refute it at one input. -/
def crcPiecesWrong : ChangeSpec := { name := "crcPieces", fn := fun _ => fun
  | [d1, d2] => { results := [.lit (.bool false)], args := [d1, d2] }
  | _ => none }
def CrcPiecesWrongFalsely : Prop := crcPiecesRow.holds Tryd.pinned (OpenSpec.ofChange crcPiecesWrong)

/- THE SECOND FORM. 'bulk': how many values and letters a reading holds, each counted each time it is reached (what is shared counts as often as it is met; a slice's spare places count too). A statement '..UptoSaid' is the law's where the arguments, and the package variables that the reading takes, are together of bulk at most 1048576: NARROWER than '..Said'. Prove '..Said' where nothing that the law and all that it calls make is longer than what came in: it says more and counts as full. Else prove '..UptoSaid'. A law counts once. -/
mutual
def uptoBulk {H : Type} : DataW H → Nat
  | .lit (.string bytes) => bytes.length + 1
  | .lit _ => 1
  | .nil => 1
  | .ptr d => uptoBulk d + 1
  | .slice elems spare => uptoBulkAll elems + uptoBulkAll spare + 1
  | .agg parts => uptoBulkAll parts + 1
  | .iface _ d => uptoBulk d + 1
  | .map entries => uptoBulkEntries entries + 1
  | .held _ => 1
def uptoBulkAll {H : Type} : List (DataW H) → Nat
  | [] => 0
  | d :: r => uptoBulk d + uptoBulkAll r
def uptoBulkEntries {H : Type} : List (Lit × DataW H) → Nat
  | [] => 0
  | x :: r => uptoBulkEntry x + uptoBulkEntries r
def uptoBulkEntry {H : Type} : Lit × DataW H → Nat
  | (.string bytes, d) => bytes.length + uptoBulk d + 1
  | (_, d) => uptoBulk d + 1
 end
def uptoSmall : (H : Type) → List (DataW H) → Bool := fun _ ds => decide (uptoBulkAll ds ≤ 1048576)
def OpenSpec.upto (s : _root_.Go.ChangeSpec) : _root_.Go.OpenSpec := { _root_.Go.OpenSpec.ofChange s with cond := some uptoSmall }

/-- 'hoardlaw02.CrcSums', WHERE WHAT IT READS IS OF BULK AT MOST 1048576: true; the input reads as it did. -/
def crcSumsUptoRow : OpenClaim := { program := "ythdfblhlkkbloaadoor", sum := "3191800cf1f10d4842b0846f44d578edacd647c5c46ae7ad45909b316dfca032", func := "hoard/hoardlaw02.CrcSums", spec := "crcSums", named := ["hoard/crc.half"], apart := false, laid := [("hoard/crc.half", laid_hoard_crc_half)], narrowed := true }
def CrcSumsUptoSaid : Prop := crcSumsUptoRow.holds Tryd.pinned (OpenSpec.upto crcSumsSpec)

/-- 'hoardlaw02.CrcBurst', WHERE WHAT IT READS IS OF BULK AT MOST 1048576: true; the input reads as it did. -/
def crcBurstUptoRow : OpenClaim := { program := "ythdfblhlkkbloaadoor", sum := "3191800cf1f10d4842b0846f44d578edacd647c5c46ae7ad45909b316dfca032", func := "hoard/hoardlaw02.CrcBurst", spec := "crcBurst", named := ["hoard/crc.half"], apart := false, laid := [("hoard/crc.half", laid_hoard_crc_half)], narrowed := true }
def CrcBurstUptoSaid : Prop := crcBurstUptoRow.holds Tryd.pinned (OpenSpec.upto crcBurstSpec)

/-- 'hoardlaw02.CrcNoughts', WHERE WHAT IT READS IS OF BULK AT MOST 1048576: true; the input reads as it did. -/
def crcNoughtsUptoRow : OpenClaim := { program := "ythdfblhlkkbloaadoor", sum := "3191800cf1f10d4842b0846f44d578edacd647c5c46ae7ad45909b316dfca032", func := "hoard/hoardlaw02.CrcNoughts", spec := "crcNoughts", named := ["hoard/crc.half"], apart := false, laid := [("hoard/crc.half", laid_hoard_crc_half)], narrowed := true }
def CrcNoughtsUptoSaid : Prop := crcNoughtsUptoRow.holds Tryd.pinned (OpenSpec.upto crcNoughtsSpec)

/-- 'hoardlaw02.CrcLinear', WHERE WHAT IT READS IS OF BULK AT MOST 1048576: true; the input reads as it did. -/
def crcLinearUptoRow : OpenClaim := { program := "ythdfblhlkkbloaadoor", sum := "3191800cf1f10d4842b0846f44d578edacd647c5c46ae7ad45909b316dfca032", func := "hoard/hoardlaw02.CrcLinear", spec := "crcLinear", named := ["hoard/crc.half"], apart := false, laid := [("hoard/crc.half", laid_hoard_crc_half)], narrowed := true }
def CrcLinearUptoSaid : Prop := crcLinearUptoRow.holds Tryd.pinned (OpenSpec.upto crcLinearSpec)

/-- 'hoardlaw02.CrcShifts', WHERE WHAT IT READS IS OF BULK AT MOST 1048576: true; the input reads as it did. -/
def crcShiftsUptoRow : OpenClaim := { program := "ythdfblhlkkbloaadoor", sum := "3191800cf1f10d4842b0846f44d578edacd647c5c46ae7ad45909b316dfca032", func := "hoard/hoardlaw02.CrcShifts", spec := "crcShifts", recurses := true, named := ["hoard/crc.half"], apart := false, laid := [("hoard/crc.half", laid_hoard_crc_half)], narrowed := true }
def CrcShiftsUptoSaid : Prop := crcShiftsUptoRow.holds Tryd.pinned (OpenSpec.upto crcShiftsSpec)

/-- 'hoardlaw02.CrcPieces', WHERE WHAT IT READS IS OF BULK AT MOST 1048576: true; the input reads as it did. -/
def crcPiecesUptoRow : OpenClaim := { program := "ythdfblhlkkbloaadoor", sum := "3191800cf1f10d4842b0846f44d578edacd647c5c46ae7ad45909b316dfca032", func := "hoard/hoardlaw02.CrcPieces", spec := "crcPieces", named := ["hoard/crc.half"], apart := false, laid := [("hoard/crc.half", laid_hoard_crc_half)], narrowed := true }
def CrcPiecesUptoSaid : Prop := crcPiecesUptoRow.holds Tryd.pinned (OpenSpec.upto crcPiecesSpec)

end Rows
end Go.Proofs.YthdfblhlkkbloaaDoor
