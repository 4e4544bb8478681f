/-
  No cell of these rows narrows 'for every input' (looked for: loops, veiled, ifaces, maps, wideKeys, modest, calm, conditions, laid).
  DERIVED. THE GIVEN ROWS OF THIS SEAT. 6 by the template 'for every input the law returns true; each argument reads behind the call as it read before'; 0 by the template 'total and deterministic' (their statements: YtmmejcbiiojmlaaTotals.lean).
  GIVEN WITH THE SEED: the statements are not yours to turn. If you find one false, say at which input.
  Laid BY PROGRAM, IN A SANDBOX (cutbox-rows.mjs): the forced cells as the released guide's own fill.sh prints them over the translation 99e529548e7141e1… (all of the seat's roots in one cut). By AI agents, Wed Nov 11 2026. No macro, syntax, notation, axiom, sorry.
-/
import Derived.Test.YtmmejcbiiojmlaaChecked
import GoSem.Claim
import GoSem.ClaimJoined
import GoSem.ClaimMapViews
import Derived.JoinedTies
import Derived.KernelRfl
namespace Go.Proofs.Ytmmejcbiiojmlaa
/- THE CELL 'sum', in the pinned program and in every row, IS THE sha256 OF THE DUMP (.gsa) THAT YtmmejcbiiojmlaaProg.lean LOADS. Nothing in Lean hashes anything: it is a label: what it is worth is what the hold of that sum in a sandbox is worth. -/
noncomputable def Try.pinned : Pinned := { name := "ytmmejcbiiojmlaa", sum := "99e529548e7141e18d52a43f584942797999619bf1655f294b446accfd4cf14c", checked := Try.checked }
namespace Rows
def none {H : Type} : Left H := { results := [], args := [] }

/-- 'hoardlaw10.RollApart': WHATEVER THE INPUT: true; the input reads as it did. -/
def rollApartSpec : ChangeSpec := { name := "rollApart", fn := fun _ => fun
  | [d1, d2, d3] => { results := [.lit (.bool true)], args := [d1, d2, d3] }
  | _ => none }
def rollApartRow : OpenClaim := { program := "ytmmejcbiiojmlaa", sum := "99e529548e7141e18d52a43f584942797999619bf1655f294b446accfd4cf14c", func := "hoard/hoardlaw10.RollApart", spec := "rollApart", apart := false }
def RollApartSaid : Prop := rollApartRow.holds Try.pinned (OpenSpec.ofChange rollApartSpec)

/-- ITS FALSE NEIGHBOUR: 'it returns false'. Refute it at one input. -/
def rollApartWrong : ChangeSpec := { name := "rollApart", fn := fun _ => fun
  | [d1, d2, d3] => { results := [.lit (.bool false)], args := [d1, d2, d3] }
  | _ => none }
def RollApartWrongFalsely : Prop := rollApartRow.holds Try.pinned (OpenSpec.ofChange rollApartWrong)

/-- 'hoardlaw10.RollWords': WHATEVER THE INPUT: true; the input reads as it did. -/
def rollWordsSpec : ChangeSpec := { name := "rollWords", fn := fun _ => fun
  | [d1, d2, d3] => { results := [.lit (.bool true)], args := [d1, d2, d3] }
  | _ => none }
def rollWordsRow : OpenClaim := { program := "ytmmejcbiiojmlaa", sum := "99e529548e7141e18d52a43f584942797999619bf1655f294b446accfd4cf14c", func := "hoard/hoardlaw10.RollWords", spec := "rollWords", apart := false }
def RollWordsSaid : Prop := rollWordsRow.holds Try.pinned (OpenSpec.ofChange rollWordsSpec)

/-- ITS FALSE NEIGHBOUR: 'it returns false'. Refute it at one input. -/
def rollWordsWrong : ChangeSpec := { name := "rollWords", fn := fun _ => fun
  | [d1, d2, d3] => { results := [.lit (.bool false)], args := [d1, d2, d3] }
  | _ => none }
def RollWordsWrongFalsely : Prop := rollWordsRow.holds Try.pinned (OpenSpec.ofChange rollWordsWrong)

/-- 'hoardlaw10.RollGrows': WHATEVER THE INPUT: true; the input reads as it did. -/
def rollGrowsSpec : ChangeSpec := { name := "rollGrows", fn := fun _ => fun
  | [d1, d2, d3] => { results := [.lit (.bool true)], args := [d1, d2, d3] }
  | _ => none }
def rollGrowsRow : OpenClaim := { program := "ytmmejcbiiojmlaa", sum := "99e529548e7141e18d52a43f584942797999619bf1655f294b446accfd4cf14c", func := "hoard/hoardlaw10.RollGrows", spec := "rollGrows", apart := false }
def RollGrowsSaid : Prop := rollGrowsRow.holds Try.pinned (OpenSpec.ofChange rollGrowsSpec)

/-- ITS FALSE NEIGHBOUR: 'it returns false'. Refute it at one input. -/
def rollGrowsWrong : ChangeSpec := { name := "rollGrows", fn := fun _ => fun
  | [d1, d2, d3] => { results := [.lit (.bool false)], args := [d1, d2, d3] }
  | _ => none }
def RollGrowsWrongFalsely : Prop := rollGrowsRow.holds Try.pinned (OpenSpec.ofChange rollGrowsWrong)

/-- 'hoardlaw10.RollPlays': WHATEVER THE INPUT: true; the input reads as it did. -/
def rollPlaysSpec : ChangeSpec := { name := "rollPlays", fn := fun _ => fun
  | [d1, d2, d3, d4] => { results := [.lit (.bool true)], args := [d1, d2, d3, d4] }
  | _ => none }
def rollPlaysRow : OpenClaim := { program := "ytmmejcbiiojmlaa", sum := "99e529548e7141e18d52a43f584942797999619bf1655f294b446accfd4cf14c", func := "hoard/hoardlaw10.RollPlays", spec := "rollPlays", apart := false }
def RollPlaysSaid : Prop := rollPlaysRow.holds Try.pinned (OpenSpec.ofChange rollPlaysSpec)

/-- ITS FALSE NEIGHBOUR: 'it returns false'. Refute it at one input. -/
def rollPlaysWrong : ChangeSpec := { name := "rollPlays", fn := fun _ => fun
  | [d1, d2, d3, d4] => { results := [.lit (.bool false)], args := [d1, d2, d3, d4] }
  | _ => none }
def RollPlaysWrongFalsely : Prop := rollPlaysRow.holds Try.pinned (OpenSpec.ofChange rollPlaysWrong)

/-- 'hoardlaw10.RollNobody': WHATEVER THE INPUT: true; the input reads as it did. -/
def rollNobodySpec : ChangeSpec := { name := "rollNobody", fn := fun _ => fun
  | [d] => { results := [.lit (.bool true)], args := [d] }
  | _ => none }
def rollNobodyRow : OpenClaim := { program := "ytmmejcbiiojmlaa", sum := "99e529548e7141e18d52a43f584942797999619bf1655f294b446accfd4cf14c", func := "hoard/hoardlaw10.RollNobody", spec := "rollNobody", apart := false }
def RollNobodySaid : Prop := rollNobodyRow.holds Try.pinned (OpenSpec.ofChange rollNobodySpec)

/-- ITS FALSE NEIGHBOUR: 'it returns false'. Refute it at one input. -/
def rollNobodyWrong : ChangeSpec := { name := "rollNobody", fn := fun _ => fun
  | [d] => { results := [.lit (.bool false)], args := [d] }
  | _ => none }
def RollNobodyWrongFalsely : Prop := rollNobodyRow.holds Try.pinned (OpenSpec.ofChange rollNobodyWrong)

/-- 'hoardlaw10.RollLast': WHATEVER THE INPUT: true; the input reads as it did. -/
def rollLastSpec : ChangeSpec := { name := "rollLast", fn := fun _ => fun
  | [d1, d2, d3, d4, d5] => { results := [.lit (.bool true)], args := [d1, d2, d3, d4, d5] }
  | _ => none }
def rollLastRow : OpenClaim := { program := "ytmmejcbiiojmlaa", sum := "99e529548e7141e18d52a43f584942797999619bf1655f294b446accfd4cf14c", func := "hoard/hoardlaw10.RollLast", spec := "rollLast", apart := false }
def RollLastSaid : Prop := rollLastRow.holds Try.pinned (OpenSpec.ofChange rollLastSpec)

/-- ITS FALSE NEIGHBOUR: 'it returns false'. Refute it at one input. -/
def rollLastWrong : ChangeSpec := { name := "rollLast", fn := fun _ => fun
  | [d1, d2, d3, d4, d5] => { results := [.lit (.bool false)], args := [d1, d2, d3, d4, d5] }
  | _ => none }
def RollLastWrongFalsely : Prop := rollLastRow.holds Try.pinned (OpenSpec.ofChange rollLastWrong)

/- THE SECOND FORM. 'bulk': how many values and letters a reading holds, each counted each time it is reached (what is shared counts as often as it is met; a slice's spare places count too). A statement '..UptoSaid' is the law's where the arguments, and the package variables that the reading takes, are together of bulk at most 1048576: NARROWER than '..Said'. Prove '..Said' where nothing that the law and all that it calls make is longer than what came in: it says more and counts as full. Else prove '..UptoSaid'. A law counts once. -/
mutual
def uptoBulk {H : Type} : DataW H → Nat
  | .lit (.string bytes) => bytes.length + 1
  | .lit _ => 1
  | .nil => 1
  | .ptr d => uptoBulk d + 1
  | .slice elems spare => uptoBulkAll elems + uptoBulkAll spare + 1
  | .agg parts => uptoBulkAll parts + 1
  | .iface _ d => uptoBulk d + 1
  | .map entries => uptoBulkEntries entries + 1
  | .held _ => 1
def uptoBulkAll {H : Type} : List (DataW H) → Nat
  | [] => 0
  | d :: r => uptoBulk d + uptoBulkAll r
def uptoBulkEntries {H : Type} : List (Lit × DataW H) → Nat
  | [] => 0
  | x :: r => uptoBulkEntry x + uptoBulkEntries r
def uptoBulkEntry {H : Type} : Lit × DataW H → Nat
  | (.string bytes, d) => bytes.length + uptoBulk d + 1
  | (_, d) => uptoBulk d + 1
 end
def uptoSmall : (H : Type) → List (DataW H) → Bool := fun _ ds => decide (uptoBulkAll ds ≤ 1048576)
def OpenSpec.upto (s : _root_.Go.ChangeSpec) : _root_.Go.OpenSpec := { _root_.Go.OpenSpec.ofChange s with cond := some uptoSmall }

/-- 'hoardlaw10.RollApart', WHERE WHAT IT READS IS OF BULK AT MOST 1048576: true; the input reads as it did. -/
def rollApartUptoRow : OpenClaim := { program := "ytmmejcbiiojmlaa", sum := "99e529548e7141e18d52a43f584942797999619bf1655f294b446accfd4cf14c", func := "hoard/hoardlaw10.RollApart", spec := "rollApart", apart := false, narrowed := true }
def RollApartUptoSaid : Prop := rollApartUptoRow.holds Try.pinned (OpenSpec.upto rollApartSpec)

/-- 'hoardlaw10.RollWords', WHERE WHAT IT READS IS OF BULK AT MOST 1048576: true; the input reads as it did. -/
def rollWordsUptoRow : OpenClaim := { program := "ytmmejcbiiojmlaa", sum := "99e529548e7141e18d52a43f584942797999619bf1655f294b446accfd4cf14c", func := "hoard/hoardlaw10.RollWords", spec := "rollWords", apart := false, narrowed := true }
def RollWordsUptoSaid : Prop := rollWordsUptoRow.holds Try.pinned (OpenSpec.upto rollWordsSpec)

/-- 'hoardlaw10.RollGrows', WHERE WHAT IT READS IS OF BULK AT MOST 1048576: true; the input reads as it did. -/
def rollGrowsUptoRow : OpenClaim := { program := "ytmmejcbiiojmlaa", sum := "99e529548e7141e18d52a43f584942797999619bf1655f294b446accfd4cf14c", func := "hoard/hoardlaw10.RollGrows", spec := "rollGrows", apart := false, narrowed := true }
def RollGrowsUptoSaid : Prop := rollGrowsUptoRow.holds Try.pinned (OpenSpec.upto rollGrowsSpec)

/-- 'hoardlaw10.RollPlays', WHERE WHAT IT READS IS OF BULK AT MOST 1048576: true; the input reads as it did. -/
def rollPlaysUptoRow : OpenClaim := { program := "ytmmejcbiiojmlaa", sum := "99e529548e7141e18d52a43f584942797999619bf1655f294b446accfd4cf14c", func := "hoard/hoardlaw10.RollPlays", spec := "rollPlays", apart := false, narrowed := true }
def RollPlaysUptoSaid : Prop := rollPlaysUptoRow.holds Try.pinned (OpenSpec.upto rollPlaysSpec)

/-- 'hoardlaw10.RollNobody', WHERE WHAT IT READS IS OF BULK AT MOST 1048576: true; the input reads as it did. -/
def rollNobodyUptoRow : OpenClaim := { program := "ytmmejcbiiojmlaa", sum := "99e529548e7141e18d52a43f584942797999619bf1655f294b446accfd4cf14c", func := "hoard/hoardlaw10.RollNobody", spec := "rollNobody", apart := false, narrowed := true }
def RollNobodyUptoSaid : Prop := rollNobodyUptoRow.holds Try.pinned (OpenSpec.upto rollNobodySpec)

/-- 'hoardlaw10.RollLast', WHERE WHAT IT READS IS OF BULK AT MOST 1048576: true; the input reads as it did. -/
def rollLastUptoRow : OpenClaim := { program := "ytmmejcbiiojmlaa", sum := "99e529548e7141e18d52a43f584942797999619bf1655f294b446accfd4cf14c", func := "hoard/hoardlaw10.RollLast", spec := "rollLast", apart := false, narrowed := true }
def RollLastUptoSaid : Prop := rollLastUptoRow.holds Try.pinned (OpenSpec.upto rollLastSpec)

end Rows
end Go.Proofs.Ytmmejcbiiojmlaa
