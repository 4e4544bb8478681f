/-
  No cell of these rows narrows 'for every input' (looked for: loops, veiled, ifaces, maps, wideKeys, modest, calm, conditions, laid).
  DERIVED. THE GIVEN ROWS OF THIS SEAT. 7 by the template 'for every input the law returns true; each argument reads behind the call as it read before'; 0 by the template 'total and deterministic' (their statements: YtbjaeofooaikkaaTotals.lean).
  GIVEN WITH THE SEED: the statements are not yours to turn. If you find one false, say at which input.
  Laid BY PROGRAM, IN A SANDBOX (cutbox-rows.mjs): the forced cells as the released guide's own fill.sh prints them over the translation 50580791b81301fa… (all of the seat's roots in one cut). By AI agents, Wed Nov 11 2026. No macro, syntax, notation, axiom, sorry.
-/
import Derived.Test.YtbjaeofooaikkaaChecked
import GoSem.Claim
import GoSem.ClaimJoined
import GoSem.ClaimMapViews
import Derived.JoinedTies
import Derived.KernelRfl
namespace Go.Proofs.Ytbjaeofooaikkaa
/- THE CELL 'sum', in the pinned program and in every row, IS THE sha256 OF THE DUMP (.gsa) THAT YtbjaeofooaikkaaProg.lean LOADS. Nothing in Lean hashes anything: it is a label: what it is worth is what the hold of that sum in a sandbox is worth. -/
noncomputable def Try.pinned : Pinned := { name := "ytbjaeofooaikkaa", sum := "50580791b81301fa468af08ccaaecf8f6bd70609f6da4ba7b5e322cf54ace1b7", checked := Try.checked }
namespace Rows
def none {H : Type} : Left H := { results := [], args := [] }

/-- 'hoardlaw11.CutSizes': WHATEVER THE INPUT: true; the input reads as it did. -/
def cutSizesSpec : ChangeSpec := { name := "cutSizes", fn := fun _ => fun
  | [d1, d2] => { results := [.lit (.bool true)], args := [d1, d2] }
  | _ => none }
def cutSizesRow : OpenClaim := { program := "ytbjaeofooaikkaa", sum := "50580791b81301fa468af08ccaaecf8f6bd70609f6da4ba7b5e322cf54ace1b7", func := "hoard/hoardlaw11.CutSizes", spec := "cutSizes", apart := false }
def CutSizesSaid : Prop := cutSizesRow.holds Try.pinned (OpenSpec.ofChange cutSizesSpec)

/-- ITS FALSE NEIGHBOUR: 'it returns false'. Refute it at one input. -/
def cutSizesWrong : ChangeSpec := { name := "cutSizes", fn := fun _ => fun
  | [d1, d2] => { results := [.lit (.bool false)], args := [d1, d2] }
  | _ => none }
def CutSizesWrongFalsely : Prop := cutSizesRow.holds Try.pinned (OpenSpec.ofChange cutSizesWrong)

/-- 'hoardlaw11.CutJoins': WHATEVER THE INPUT: true; the input reads as it did. -/
def cutJoinsSpec : ChangeSpec := { name := "cutJoins", fn := fun _ => fun
  | [d1, d2] => { results := [.lit (.bool true)], args := [d1, d2] }
  | _ => none }
def cutJoinsRow : OpenClaim := { program := "ytbjaeofooaikkaa", sum := "50580791b81301fa468af08ccaaecf8f6bd70609f6da4ba7b5e322cf54ace1b7", func := "hoard/hoardlaw11.CutJoins", spec := "cutJoins", apart := false }
def CutJoinsSaid : Prop := cutJoinsRow.holds Try.pinned (OpenSpec.ofChange cutJoinsSpec)

/-- ITS FALSE NEIGHBOUR: 'it returns false'. Refute it at one input. -/
def cutJoinsWrong : ChangeSpec := { name := "cutJoins", fn := fun _ => fun
  | [d1, d2] => { results := [.lit (.bool false)], args := [d1, d2] }
  | _ => none }
def CutJoinsWrongFalsely : Prop := cutJoinsRow.holds Try.pinned (OpenSpec.ofChange cutJoinsWrong)

/-- 'hoardlaw11.CutPieces': WHATEVER THE INPUT: true; the input reads as it did. -/
def cutPiecesSpec : ChangeSpec := { name := "cutPieces", fn := fun _ => fun
  | [d1, d2, d3] => { results := [.lit (.bool true)], args := [d1, d2, d3] }
  | _ => none }
def cutPiecesRow : OpenClaim := { program := "ytbjaeofooaikkaa", sum := "50580791b81301fa468af08ccaaecf8f6bd70609f6da4ba7b5e322cf54ace1b7", func := "hoard/hoardlaw11.CutPieces", spec := "cutPieces", apart := false }
def CutPiecesSaid : Prop := cutPiecesRow.holds Try.pinned (OpenSpec.ofChange cutPiecesSpec)

/-- ITS FALSE NEIGHBOUR: 'it returns false'. Refute it at one input. -/
def cutPiecesWrong : ChangeSpec := { name := "cutPieces", fn := fun _ => fun
  | [d1, d2, d3] => { results := [.lit (.bool false)], args := [d1, d2, d3] }
  | _ => none }
def CutPiecesWrongFalsely : Prop := cutPiecesRow.holds Try.pinned (OpenSpec.ofChange cutPiecesWrong)

/-- 'hoardlaw11.CutMeets': WHATEVER THE INPUT: true; the input reads as it did. -/
def cutMeetsSpec : ChangeSpec := { name := "cutMeets", fn := fun _ => fun
  | [d1, d2, d3, d4] => { results := [.lit (.bool true)], args := [d1, d2, d3, d4] }
  | _ => none }
def cutMeetsRow : OpenClaim := { program := "ytbjaeofooaikkaa", sum := "50580791b81301fa468af08ccaaecf8f6bd70609f6da4ba7b5e322cf54ace1b7", func := "hoard/hoardlaw11.CutMeets", spec := "cutMeets", apart := false }
def CutMeetsSaid : Prop := cutMeetsRow.holds Try.pinned (OpenSpec.ofChange cutMeetsSpec)

/-- ITS FALSE NEIGHBOUR: 'it returns false'. Refute it at one input. -/
def cutMeetsWrong : ChangeSpec := { name := "cutMeets", fn := fun _ => fun
  | [d1, d2, d3, d4] => { results := [.lit (.bool false)], args := [d1, d2, d3, d4] }
  | _ => none }
def CutMeetsWrongFalsely : Prop := cutMeetsRow.holds Try.pinned (OpenSpec.ofChange cutMeetsWrong)

/-- 'hoardlaw11.CutOften': WHATEVER THE INPUT: true; the input reads as it did. -/
def cutOftenSpec : ChangeSpec := { name := "cutOften", fn := fun _ => fun
  | [d1, d2] => { results := [.lit (.bool true)], args := [d1, d2] }
  | _ => none }
def cutOftenRow : OpenClaim := { program := "ytbjaeofooaikkaa", sum := "50580791b81301fa468af08ccaaecf8f6bd70609f6da4ba7b5e322cf54ace1b7", func := "hoard/hoardlaw11.CutOften", spec := "cutOften", apart := false }
def CutOftenSaid : Prop := cutOftenRow.holds Try.pinned (OpenSpec.ofChange cutOftenSpec)

/-- ITS FALSE NEIGHBOUR: 'it returns false'. Refute it at one input. -/
def cutOftenWrong : ChangeSpec := { name := "cutOften", fn := fun _ => fun
  | [d1, d2] => { results := [.lit (.bool false)], args := [d1, d2] }
  | _ => none }
def CutOftenWrongFalsely : Prop := cutOftenRow.holds Try.pinned (OpenSpec.ofChange cutOftenWrong)

/-- 'hoardlaw11.CutWrites': WHATEVER THE INPUT: true; the input reads as it did. -/
def cutWritesSpec : ChangeSpec := { name := "cutWrites", fn := fun _ => fun
  | [d1, d2, d3] => { results := [.lit (.bool true)], args := [d1, d2, d3] }
  | _ => none }
def cutWritesRow : OpenClaim := { program := "ytbjaeofooaikkaa", sum := "50580791b81301fa468af08ccaaecf8f6bd70609f6da4ba7b5e322cf54ace1b7", func := "hoard/hoardlaw11.CutWrites", spec := "cutWrites", apart := false }
def CutWritesSaid : Prop := cutWritesRow.holds Try.pinned (OpenSpec.ofChange cutWritesSpec)

/-- ITS FALSE NEIGHBOUR: 'it returns false'. Refute it at one input. -/
def cutWritesWrong : ChangeSpec := { name := "cutWrites", fn := fun _ => fun
  | [d1, d2, d3] => { results := [.lit (.bool false)], args := [d1, d2, d3] }
  | _ => none }
def CutWritesWrongFalsely : Prop := cutWritesRow.holds Try.pinned (OpenSpec.ofChange cutWritesWrong)

/-- 'hoardlaw11.CutNobody': WHATEVER THE INPUT: true; the input reads as it did. -/
def cutNobodySpec : ChangeSpec := { name := "cutNobody", fn := fun _ => fun
  | [d] => { results := [.lit (.bool true)], args := [d] }
  | _ => none }
def cutNobodyRow : OpenClaim := { program := "ytbjaeofooaikkaa", sum := "50580791b81301fa468af08ccaaecf8f6bd70609f6da4ba7b5e322cf54ace1b7", func := "hoard/hoardlaw11.CutNobody", spec := "cutNobody", apart := false }
def CutNobodySaid : Prop := cutNobodyRow.holds Try.pinned (OpenSpec.ofChange cutNobodySpec)

/-- ITS FALSE NEIGHBOUR: 'it returns false'. Refute it at one input. -/
def cutNobodyWrong : ChangeSpec := { name := "cutNobody", fn := fun _ => fun
  | [d] => { results := [.lit (.bool false)], args := [d] }
  | _ => none }
def CutNobodyWrongFalsely : Prop := cutNobodyRow.holds Try.pinned (OpenSpec.ofChange cutNobodyWrong)

/- THE SECOND FORM. 'bulk': how many values and letters a reading holds, each counted each time it is reached (what is shared counts as often as it is met; a slice's spare places count too). A statement '..UptoSaid' is the law's where the arguments, and the package variables that the reading takes, are together of bulk at most 1048576: NARROWER than '..Said'. Prove '..Said' where nothing that the law and all that it calls make is longer than what came in: it says more and counts as full. Else prove '..UptoSaid'. A law counts once. -/
mutual
def uptoBulk {H : Type} : DataW H → Nat
  | .lit (.string bytes) => bytes.length + 1
  | .lit _ => 1
  | .nil => 1
  | .ptr d => uptoBulk d + 1
  | .slice elems spare => uptoBulkAll elems + uptoBulkAll spare + 1
  | .agg parts => uptoBulkAll parts + 1
  | .iface _ d => uptoBulk d + 1
  | .map entries => uptoBulkEntries entries + 1
  | .held _ => 1
def uptoBulkAll {H : Type} : List (DataW H) → Nat
  | [] => 0
  | d :: r => uptoBulk d + uptoBulkAll r
def uptoBulkEntries {H : Type} : List (Lit × DataW H) → Nat
  | [] => 0
  | x :: r => uptoBulkEntry x + uptoBulkEntries r
def uptoBulkEntry {H : Type} : Lit × DataW H → Nat
  | (.string bytes, d) => bytes.length + uptoBulk d + 1
  | (_, d) => uptoBulk d + 1
 end
def uptoSmall : (H : Type) → List (DataW H) → Bool := fun _ ds => decide (uptoBulkAll ds ≤ 1048576)
def OpenSpec.upto (s : _root_.Go.ChangeSpec) : _root_.Go.OpenSpec := { _root_.Go.OpenSpec.ofChange s with cond := some uptoSmall }

/-- 'hoardlaw11.CutSizes', WHERE WHAT IT READS IS OF BULK AT MOST 1048576: true; the input reads as it did. -/
def cutSizesUptoRow : OpenClaim := { program := "ytbjaeofooaikkaa", sum := "50580791b81301fa468af08ccaaecf8f6bd70609f6da4ba7b5e322cf54ace1b7", func := "hoard/hoardlaw11.CutSizes", spec := "cutSizes", apart := false, narrowed := true }
def CutSizesUptoSaid : Prop := cutSizesUptoRow.holds Try.pinned (OpenSpec.upto cutSizesSpec)

/-- 'hoardlaw11.CutJoins', WHERE WHAT IT READS IS OF BULK AT MOST 1048576: true; the input reads as it did. -/
def cutJoinsUptoRow : OpenClaim := { program := "ytbjaeofooaikkaa", sum := "50580791b81301fa468af08ccaaecf8f6bd70609f6da4ba7b5e322cf54ace1b7", func := "hoard/hoardlaw11.CutJoins", spec := "cutJoins", apart := false, narrowed := true }
def CutJoinsUptoSaid : Prop := cutJoinsUptoRow.holds Try.pinned (OpenSpec.upto cutJoinsSpec)

/-- 'hoardlaw11.CutPieces', WHERE WHAT IT READS IS OF BULK AT MOST 1048576: true; the input reads as it did. -/
def cutPiecesUptoRow : OpenClaim := { program := "ytbjaeofooaikkaa", sum := "50580791b81301fa468af08ccaaecf8f6bd70609f6da4ba7b5e322cf54ace1b7", func := "hoard/hoardlaw11.CutPieces", spec := "cutPieces", apart := false, narrowed := true }
def CutPiecesUptoSaid : Prop := cutPiecesUptoRow.holds Try.pinned (OpenSpec.upto cutPiecesSpec)

/-- 'hoardlaw11.CutMeets', WHERE WHAT IT READS IS OF BULK AT MOST 1048576: true; the input reads as it did. -/
def cutMeetsUptoRow : OpenClaim := { program := "ytbjaeofooaikkaa", sum := "50580791b81301fa468af08ccaaecf8f6bd70609f6da4ba7b5e322cf54ace1b7", func := "hoard/hoardlaw11.CutMeets", spec := "cutMeets", apart := false, narrowed := true }
def CutMeetsUptoSaid : Prop := cutMeetsUptoRow.holds Try.pinned (OpenSpec.upto cutMeetsSpec)

/-- 'hoardlaw11.CutOften', WHERE WHAT IT READS IS OF BULK AT MOST 1048576: true; the input reads as it did. -/
def cutOftenUptoRow : OpenClaim := { program := "ytbjaeofooaikkaa", sum := "50580791b81301fa468af08ccaaecf8f6bd70609f6da4ba7b5e322cf54ace1b7", func := "hoard/hoardlaw11.CutOften", spec := "cutOften", apart := false, narrowed := true }
def CutOftenUptoSaid : Prop := cutOftenUptoRow.holds Try.pinned (OpenSpec.upto cutOftenSpec)

/-- 'hoardlaw11.CutWrites', WHERE WHAT IT READS IS OF BULK AT MOST 1048576: true; the input reads as it did. -/
def cutWritesUptoRow : OpenClaim := { program := "ytbjaeofooaikkaa", sum := "50580791b81301fa468af08ccaaecf8f6bd70609f6da4ba7b5e322cf54ace1b7", func := "hoard/hoardlaw11.CutWrites", spec := "cutWrites", apart := false, narrowed := true }
def CutWritesUptoSaid : Prop := cutWritesUptoRow.holds Try.pinned (OpenSpec.upto cutWritesSpec)

/-- 'hoardlaw11.CutNobody', WHERE WHAT IT READS IS OF BULK AT MOST 1048576: true; the input reads as it did. -/
def cutNobodyUptoRow : OpenClaim := { program := "ytbjaeofooaikkaa", sum := "50580791b81301fa468af08ccaaecf8f6bd70609f6da4ba7b5e322cf54ace1b7", func := "hoard/hoardlaw11.CutNobody", spec := "cutNobody", apart := false, narrowed := true }
def CutNobodyUptoSaid : Prop := cutNobodyUptoRow.holds Try.pinned (OpenSpec.upto cutNobodySpec)

end Rows
end Go.Proofs.Ytbjaeofooaikkaa
