/-
  NARROWER THAN 'FOR EVERY INPUT', by the rows' own cells (each row's printed sentence says how): FrameWrites: laid · FrameReads: laid · FrameBack: laid · FrameBurst: laid · FrameSaves: laid · FrameWhole: laid · FrameSpoilt: laid · FrameScans: laid.
  DERIVED. THE GIVEN ROWS OF THIS SEAT. 8 by the template 'for every input the law returns true; each argument reads behind the call as it read before'; 0 by the template 'total and deterministic' (their statements: YtmcdjkfmfhbbnaaDoorTotals.lean).
  GIVEN WITH THE SEED: the statements are not yours to turn. If you find one false, say at which input.
  Laid BY PROGRAM, IN A SANDBOX (cutbox-rows.mjs): the forced cells as the released guide's own fill.sh prints them over the translation 0d05423dd154a606… (all of the seat's roots in one cut). By AI agents, Wed Nov 11 2026. No macro, syntax, notation, axiom, sorry.
-/
import Derived.Test.YtmcdjkfmfhbbnaaDoorChecked
import GoSem.Claim
import GoSem.ClaimJoined
import GoSem.ClaimMapViews
import Derived.JoinedTies
import Derived.KernelRfl
namespace Go.Proofs.YtmcdjkfmfhbbnaaDoor
/- THE CELL 'sum', in the pinned program and in every row, IS THE sha256 OF THE DUMP (.gsa) THAT YtmcdjkfmfhbbnaaDoorProg.lean LOADS. Nothing in Lean hashes anything: it is a label: what it is worth is what the hold of that sum in a sandbox is worth. -/
noncomputable def Tryd.pinned : Pinned := { name := "ytmcdjkfmfhbbnaadoor", sum := "0d05423dd154a606a504af49158cdee6985b3f28aa398d371a559a9fe36b338a", checked := Tryd.checked }
namespace Rows
def none {H : Type} : Left H := { results := [], args := [] }

/- WHAT THE LISTED PACKAGE-LEVEL VARIABLES READ AS WHEN THE CALL BEGINS. Each datum BY PROGRAM (the guide's laid-datum.mjs) off the statement by which the dump's own 'gosem.cut.vars' lays the variable. In a bare row this is a premise. The card (YtmcdjkfmfhbbnaaDoorCards.lean) ties it to the program's text. -/
def laid_hoard_crc_half {H : Type} : DataW H := .agg [.lit (.int .u32 0), .lit (.int .u32 498536548), .lit (.int .u32 997073096), .lit (.int .u32 651767980), .lit (.int .u32 1994146192), .lit (.int .u32 1802195444), .lit (.int .u32 1303535960), .lit (.int .u32 1342533948), .lit (.int .u32 3988292384), .lit (.int .u32 4027552580), .lit (.int .u32 3604390888), .lit (.int .u32 3412177804), .lit (.int .u32 2607071920), .lit (.int .u32 2262029012), .lit (.int .u32 2685067896), .lit (.int .u32 3183342108)]

/-- 'hoardlaw07.FrameWrites': WHATEVER THE INPUT: true; the input reads as it did. -/
def frameWritesSpec : ChangeSpec := { name := "frameWrites", fn := fun _ => fun
  | [d] => { results := [.lit (.bool true)], args := [d] }
  | _ => none }
def frameWritesRow : OpenClaim := { program := "ytmcdjkfmfhbbnaadoor", sum := "0d05423dd154a606a504af49158cdee6985b3f28aa398d371a559a9fe36b338a", func := "hoard/hoardlaw07.FrameWrites", spec := "frameWrites", named := ["hoard/crc.half"], apart := false, laid := [("hoard/crc.half", laid_hoard_crc_half)] }
def FrameWritesSaid : Prop := frameWritesRow.holds Tryd.pinned (OpenSpec.ofChange frameWritesSpec)

/-- ITS FALSE NEIGHBOUR: 'it returns false'. Refute it at one input. -/
def frameWritesWrong : ChangeSpec := { name := "frameWrites", fn := fun _ => fun
  | [d] => { results := [.lit (.bool false)], args := [d] }
  | _ => none }
def FrameWritesWrongFalsely : Prop := frameWritesRow.holds Tryd.pinned (OpenSpec.ofChange frameWritesWrong)

/-- 'hoardlaw07.FrameReads': WHATEVER THE INPUT: true; the input reads as it did. -/
def frameReadsSpec : ChangeSpec := { name := "frameReads", fn := fun _ => fun
  | [d] => { results := [.lit (.bool true)], args := [d] }
  | _ => none }
def frameReadsRow : OpenClaim := { program := "ytmcdjkfmfhbbnaadoor", sum := "0d05423dd154a606a504af49158cdee6985b3f28aa398d371a559a9fe36b338a", func := "hoard/hoardlaw07.FrameReads", spec := "frameReads", named := ["hoard/crc.half"], apart := false, laid := [("hoard/crc.half", laid_hoard_crc_half)] }
def FrameReadsSaid : Prop := frameReadsRow.holds Tryd.pinned (OpenSpec.ofChange frameReadsSpec)

/-- ITS FALSE NEIGHBOUR: 'it returns false'. Refute it at one input. -/
def frameReadsWrong : ChangeSpec := { name := "frameReads", fn := fun _ => fun
  | [d] => { results := [.lit (.bool false)], args := [d] }
  | _ => none }
def FrameReadsWrongFalsely : Prop := frameReadsRow.holds Tryd.pinned (OpenSpec.ofChange frameReadsWrong)

/-- 'hoardlaw07.FrameBack': WHATEVER THE INPUT: true; the input reads as it did. -/
def frameBackSpec : ChangeSpec := { name := "frameBack", fn := fun _ => fun
  | [d1, d2] => { results := [.lit (.bool true)], args := [d1, d2] }
  | _ => none }
def frameBackRow : OpenClaim := { program := "ytmcdjkfmfhbbnaadoor", sum := "0d05423dd154a606a504af49158cdee6985b3f28aa398d371a559a9fe36b338a", func := "hoard/hoardlaw07.FrameBack", spec := "frameBack", named := ["hoard/crc.half"], apart := false, laid := [("hoard/crc.half", laid_hoard_crc_half)] }
def FrameBackSaid : Prop := frameBackRow.holds Tryd.pinned (OpenSpec.ofChange frameBackSpec)

/-- ITS FALSE NEIGHBOUR: 'it returns false'. Refute it at one input. -/
def frameBackWrong : ChangeSpec := { name := "frameBack", fn := fun _ => fun
  | [d1, d2] => { results := [.lit (.bool false)], args := [d1, d2] }
  | _ => none }
def FrameBackWrongFalsely : Prop := frameBackRow.holds Tryd.pinned (OpenSpec.ofChange frameBackWrong)

/-- 'hoardlaw07.FrameBurst': WHATEVER THE INPUT: true; the input reads as it did. -/
def frameBurstSpec : ChangeSpec := { name := "frameBurst", fn := fun _ => fun
  | [d1, d2, d3, d4] => { results := [.lit (.bool true)], args := [d1, d2, d3, d4] }
  | _ => none }
def frameBurstRow : OpenClaim := { program := "ytmcdjkfmfhbbnaadoor", sum := "0d05423dd154a606a504af49158cdee6985b3f28aa398d371a559a9fe36b338a", func := "hoard/hoardlaw07.FrameBurst", spec := "frameBurst", named := ["hoard/crc.half"], apart := false, laid := [("hoard/crc.half", laid_hoard_crc_half)] }
def FrameBurstSaid : Prop := frameBurstRow.holds Tryd.pinned (OpenSpec.ofChange frameBurstSpec)

/-- ITS FALSE NEIGHBOUR: 'it returns false'. Refute it at one input. -/
def frameBurstWrong : ChangeSpec := { name := "frameBurst", fn := fun _ => fun
  | [d1, d2, d3, d4] => { results := [.lit (.bool false)], args := [d1, d2, d3, d4] }
  | _ => none }
def FrameBurstWrongFalsely : Prop := frameBurstRow.holds Tryd.pinned (OpenSpec.ofChange frameBurstWrong)

/-- 'hoardlaw07.FrameSaves': WHATEVER THE INPUT: true; the input reads as it did. -/
def frameSavesSpec : ChangeSpec := { name := "frameSaves", fn := fun _ => fun
  | [d] => { results := [.lit (.bool true)], args := [d] }
  | _ => none }
def frameSavesRow : OpenClaim := { program := "ytmcdjkfmfhbbnaadoor", sum := "0d05423dd154a606a504af49158cdee6985b3f28aa398d371a559a9fe36b338a", func := "hoard/hoardlaw07.FrameSaves", spec := "frameSaves", named := ["hoard/crc.half"], apart := false, laid := [("hoard/crc.half", laid_hoard_crc_half)] }
def FrameSavesSaid : Prop := frameSavesRow.holds Tryd.pinned (OpenSpec.ofChange frameSavesSpec)

/-- ITS FALSE NEIGHBOUR: 'it returns false'. Refute it at one input. -/
def frameSavesWrong : ChangeSpec := { name := "frameSaves", fn := fun _ => fun
  | [d] => { results := [.lit (.bool false)], args := [d] }
  | _ => none }
def FrameSavesWrongFalsely : Prop := frameSavesRow.holds Tryd.pinned (OpenSpec.ofChange frameSavesWrong)

/-- 'hoardlaw07.FrameWhole': WHATEVER THE INPUT: true; the input reads as it did. -/
def frameWholeSpec : ChangeSpec := { name := "frameWhole", fn := fun _ => fun
  | [d] => { results := [.lit (.bool true)], args := [d] }
  | _ => none }
def frameWholeRow : OpenClaim := { program := "ytmcdjkfmfhbbnaadoor", sum := "0d05423dd154a606a504af49158cdee6985b3f28aa398d371a559a9fe36b338a", func := "hoard/hoardlaw07.FrameWhole", spec := "frameWhole", named := ["hoard/crc.half"], apart := false, laid := [("hoard/crc.half", laid_hoard_crc_half)] }
def FrameWholeSaid : Prop := frameWholeRow.holds Tryd.pinned (OpenSpec.ofChange frameWholeSpec)

/-- ITS FALSE NEIGHBOUR: 'it returns false'. Refute it at one input. -/
def frameWholeWrong : ChangeSpec := { name := "frameWhole", fn := fun _ => fun
  | [d] => { results := [.lit (.bool false)], args := [d] }
  | _ => none }
def FrameWholeWrongFalsely : Prop := frameWholeRow.holds Tryd.pinned (OpenSpec.ofChange frameWholeWrong)

/-- 'hoardlaw07.FrameSpoilt': WHATEVER THE INPUT: true; the input reads as it did. -/
def frameSpoiltSpec : ChangeSpec := { name := "frameSpoilt", fn := fun _ => fun
  | [d1, d2, d3, d4] => { results := [.lit (.bool true)], args := [d1, d2, d3, d4] }
  | _ => none }
def frameSpoiltRow : OpenClaim := { program := "ytmcdjkfmfhbbnaadoor", sum := "0d05423dd154a606a504af49158cdee6985b3f28aa398d371a559a9fe36b338a", func := "hoard/hoardlaw07.FrameSpoilt", spec := "frameSpoilt", named := ["hoard/crc.half"], apart := false, laid := [("hoard/crc.half", laid_hoard_crc_half)] }
def FrameSpoiltSaid : Prop := frameSpoiltRow.holds Tryd.pinned (OpenSpec.ofChange frameSpoiltSpec)

/-- ITS FALSE NEIGHBOUR: 'it returns false'. Refute it at one input. -/
def frameSpoiltWrong : ChangeSpec := { name := "frameSpoilt", fn := fun _ => fun
  | [d1, d2, d3, d4] => { results := [.lit (.bool false)], args := [d1, d2, d3, d4] }
  | _ => none }
def FrameSpoiltWrongFalsely : Prop := frameSpoiltRow.holds Tryd.pinned (OpenSpec.ofChange frameSpoiltWrong)

/-- 'hoardlaw07.FrameScans': WHATEVER THE INPUT: true; the input reads as it did. -/
def frameScansSpec : ChangeSpec := { name := "frameScans", fn := fun _ => fun
  | [d] => { results := [.lit (.bool true)], args := [d] }
  | _ => none }
def frameScansRow : OpenClaim := { program := "ytmcdjkfmfhbbnaadoor", sum := "0d05423dd154a606a504af49158cdee6985b3f28aa398d371a559a9fe36b338a", func := "hoard/hoardlaw07.FrameScans", spec := "frameScans", named := ["hoard/crc.half"], apart := false, laid := [("hoard/crc.half", laid_hoard_crc_half)] }
def FrameScansSaid : Prop := frameScansRow.holds Tryd.pinned (OpenSpec.ofChange frameScansSpec)

/-- ITS FALSE NEIGHBOUR: 'it returns false'. Refute it at one input. -/
def frameScansWrong : ChangeSpec := { name := "frameScans", fn := fun _ => fun
  | [d] => { results := [.lit (.bool false)], args := [d] }
  | _ => none }
def FrameScansWrongFalsely : Prop := frameScansRow.holds Tryd.pinned (OpenSpec.ofChange frameScansWrong)

/- THE SECOND FORM. 'bulk': how many values and letters a reading holds, each counted each time it is reached (what is shared counts as often as it is met; a slice's spare places count too). A statement '..UptoSaid' is the law's where the arguments, and the package variables that the reading takes, are together of bulk at most 1048576: NARROWER than '..Said'. Prove '..Said' where nothing that the law and all that it calls make is longer than what came in: it says more and counts as full. Else prove '..UptoSaid'. A law counts once. -/
mutual
def uptoBulk {H : Type} : DataW H → Nat
  | .lit (.string bytes) => bytes.length + 1
  | .lit _ => 1
  | .nil => 1
  | .ptr d => uptoBulk d + 1
  | .slice elems spare => uptoBulkAll elems + uptoBulkAll spare + 1
  | .agg parts => uptoBulkAll parts + 1
  | .iface _ d => uptoBulk d + 1
  | .map entries => uptoBulkEntries entries + 1
  | .held _ => 1
def uptoBulkAll {H : Type} : List (DataW H) → Nat
  | [] => 0
  | d :: r => uptoBulk d + uptoBulkAll r
def uptoBulkEntries {H : Type} : List (Lit × DataW H) → Nat
  | [] => 0
  | x :: r => uptoBulkEntry x + uptoBulkEntries r
def uptoBulkEntry {H : Type} : Lit × DataW H → Nat
  | (.string bytes, d) => bytes.length + uptoBulk d + 1
  | (_, d) => uptoBulk d + 1
 end
def uptoSmall : (H : Type) → List (DataW H) → Bool := fun _ ds => decide (uptoBulkAll ds ≤ 1048576)
def OpenSpec.upto (s : _root_.Go.ChangeSpec) : _root_.Go.OpenSpec := { _root_.Go.OpenSpec.ofChange s with cond := some uptoSmall }

/-- 'hoardlaw07.FrameWrites', WHERE WHAT IT READS IS OF BULK AT MOST 1048576: true; the input reads as it did. -/
def frameWritesUptoRow : OpenClaim := { program := "ytmcdjkfmfhbbnaadoor", sum := "0d05423dd154a606a504af49158cdee6985b3f28aa398d371a559a9fe36b338a", func := "hoard/hoardlaw07.FrameWrites", spec := "frameWrites", named := ["hoard/crc.half"], apart := false, laid := [("hoard/crc.half", laid_hoard_crc_half)], narrowed := true }
def FrameWritesUptoSaid : Prop := frameWritesUptoRow.holds Tryd.pinned (OpenSpec.upto frameWritesSpec)

/-- 'hoardlaw07.FrameReads', WHERE WHAT IT READS IS OF BULK AT MOST 1048576: true; the input reads as it did. -/
def frameReadsUptoRow : OpenClaim := { program := "ytmcdjkfmfhbbnaadoor", sum := "0d05423dd154a606a504af49158cdee6985b3f28aa398d371a559a9fe36b338a", func := "hoard/hoardlaw07.FrameReads", spec := "frameReads", named := ["hoard/crc.half"], apart := false, laid := [("hoard/crc.half", laid_hoard_crc_half)], narrowed := true }
def FrameReadsUptoSaid : Prop := frameReadsUptoRow.holds Tryd.pinned (OpenSpec.upto frameReadsSpec)

/-- 'hoardlaw07.FrameBack', WHERE WHAT IT READS IS OF BULK AT MOST 1048576: true; the input reads as it did. -/
def frameBackUptoRow : OpenClaim := { program := "ytmcdjkfmfhbbnaadoor", sum := "0d05423dd154a606a504af49158cdee6985b3f28aa398d371a559a9fe36b338a", func := "hoard/hoardlaw07.FrameBack", spec := "frameBack", named := ["hoard/crc.half"], apart := false, laid := [("hoard/crc.half", laid_hoard_crc_half)], narrowed := true }
def FrameBackUptoSaid : Prop := frameBackUptoRow.holds Tryd.pinned (OpenSpec.upto frameBackSpec)

/-- 'hoardlaw07.FrameBurst', WHERE WHAT IT READS IS OF BULK AT MOST 1048576: true; the input reads as it did. -/
def frameBurstUptoRow : OpenClaim := { program := "ytmcdjkfmfhbbnaadoor", sum := "0d05423dd154a606a504af49158cdee6985b3f28aa398d371a559a9fe36b338a", func := "hoard/hoardlaw07.FrameBurst", spec := "frameBurst", named := ["hoard/crc.half"], apart := false, laid := [("hoard/crc.half", laid_hoard_crc_half)], narrowed := true }
def FrameBurstUptoSaid : Prop := frameBurstUptoRow.holds Tryd.pinned (OpenSpec.upto frameBurstSpec)

/-- 'hoardlaw07.FrameSaves', WHERE WHAT IT READS IS OF BULK AT MOST 1048576: true; the input reads as it did. -/
def frameSavesUptoRow : OpenClaim := { program := "ytmcdjkfmfhbbnaadoor", sum := "0d05423dd154a606a504af49158cdee6985b3f28aa398d371a559a9fe36b338a", func := "hoard/hoardlaw07.FrameSaves", spec := "frameSaves", named := ["hoard/crc.half"], apart := false, laid := [("hoard/crc.half", laid_hoard_crc_half)], narrowed := true }
def FrameSavesUptoSaid : Prop := frameSavesUptoRow.holds Tryd.pinned (OpenSpec.upto frameSavesSpec)

/-- 'hoardlaw07.FrameWhole', WHERE WHAT IT READS IS OF BULK AT MOST 1048576: true; the input reads as it did. -/
def frameWholeUptoRow : OpenClaim := { program := "ytmcdjkfmfhbbnaadoor", sum := "0d05423dd154a606a504af49158cdee6985b3f28aa398d371a559a9fe36b338a", func := "hoard/hoardlaw07.FrameWhole", spec := "frameWhole", named := ["hoard/crc.half"], apart := false, laid := [("hoard/crc.half", laid_hoard_crc_half)], narrowed := true }
def FrameWholeUptoSaid : Prop := frameWholeUptoRow.holds Tryd.pinned (OpenSpec.upto frameWholeSpec)

/-- 'hoardlaw07.FrameSpoilt', WHERE WHAT IT READS IS OF BULK AT MOST 1048576: true; the input reads as it did. -/
def frameSpoiltUptoRow : OpenClaim := { program := "ytmcdjkfmfhbbnaadoor", sum := "0d05423dd154a606a504af49158cdee6985b3f28aa398d371a559a9fe36b338a", func := "hoard/hoardlaw07.FrameSpoilt", spec := "frameSpoilt", named := ["hoard/crc.half"], apart := false, laid := [("hoard/crc.half", laid_hoard_crc_half)], narrowed := true }
def FrameSpoiltUptoSaid : Prop := frameSpoiltUptoRow.holds Tryd.pinned (OpenSpec.upto frameSpoiltSpec)

/-- 'hoardlaw07.FrameScans', WHERE WHAT IT READS IS OF BULK AT MOST 1048576: true; the input reads as it did. -/
def frameScansUptoRow : OpenClaim := { program := "ytmcdjkfmfhbbnaadoor", sum := "0d05423dd154a606a504af49158cdee6985b3f28aa398d371a559a9fe36b338a", func := "hoard/hoardlaw07.FrameScans", spec := "frameScans", named := ["hoard/crc.half"], apart := false, laid := [("hoard/crc.half", laid_hoard_crc_half)], narrowed := true }
def FrameScansUptoSaid : Prop := frameScansUptoRow.holds Tryd.pinned (OpenSpec.upto frameScansSpec)

end Rows
end Go.Proofs.YtmcdjkfmfhbbnaaDoor
