/-
  No cell of these rows narrows 'for every input' (looked for: loops, veiled, ifaces, maps, wideKeys, modest, calm, conditions, laid).
  DERIVED. THE GIVEN ROWS OF THIS SEAT. 6 by the template 'for every input the law returns true; each argument reads behind the call as it read before'; 0 by the template 'total and deterministic' (their statements: YtogoiikgiohlhaaTotals.lean).
  GIVEN WITH THE SEED: the statements are not yours to turn. If you find one false, say at which input.
  Laid BY PROGRAM, IN A SANDBOX (cutbox-rows.mjs): the forced cells as the released guide's own fill.sh prints them over the translation 564af006d675d276… (all of the seat's roots in one cut). By AI agents, Wed Nov 11 2026. No macro, syntax, notation, axiom, sorry.
-/
import Derived.Test.YtogoiikgiohlhaaChecked
import GoSem.Claim
import GoSem.ClaimJoined
import GoSem.ClaimMapViews
import Derived.JoinedTies
import Derived.KernelRfl
namespace Go.Proofs.Ytogoiikgiohlhaa
/- THE CELL 'sum', in the pinned program and in every row, IS THE sha256 OF THE DUMP (.gsa) THAT YtogoiikgiohlhaaProg.lean LOADS. Nothing in Lean hashes anything: it is a label: what it is worth is what the hold of that sum in a sandbox is worth. -/
noncomputable def Try.pinned : Pinned := { name := "ytogoiikgiohlhaa", sum := "564af006d675d27657ac2951595030534b9447a9a68efd39b7c65ac1ea98e29b", checked := Try.checked }
namespace Rows
def none {H : Type} : Left H := { results := [], args := [] }

/-- 'hoardlaw25.PruneNext': WHATEVER THE INPUT: true; the input reads as it did. -/
def pruneNextSpec : ChangeSpec := { name := "pruneNext", fn := fun _ => fun
  | [d] => { results := [.lit (.bool true)], args := [d] }
  | _ => none }
def pruneNextRow : OpenClaim := { program := "ytogoiikgiohlhaa", sum := "564af006d675d27657ac2951595030534b9447a9a68efd39b7c65ac1ea98e29b", func := "hoard/hoardlaw25.PruneNext", spec := "pruneNext", apart := false }
def PruneNextSaid : Prop := pruneNextRow.holds Try.pinned (OpenSpec.ofChange pruneNextSpec)

/-- ITS FALSE NEIGHBOUR: 'it returns false'. Refute it at one input. -/
def pruneNextWrong : ChangeSpec := { name := "pruneNext", fn := fun _ => fun
  | [d] => { results := [.lit (.bool false)], args := [d] }
  | _ => none }
def PruneNextWrongFalsely : Prop := pruneNextRow.holds Try.pinned (OpenSpec.ofChange pruneNextWrong)

/-- 'hoardlaw25.PruneDays': WHATEVER THE INPUT: true; the input reads as it did. -/
def pruneDaysSpec : ChangeSpec := { name := "pruneDays", fn := fun _ => fun
  | [d1, d2, d3] => { results := [.lit (.bool true)], args := [d1, d2, d3] }
  | _ => none }
def pruneDaysRow : OpenClaim := { program := "ytogoiikgiohlhaa", sum := "564af006d675d27657ac2951595030534b9447a9a68efd39b7c65ac1ea98e29b", func := "hoard/hoardlaw25.PruneDays", spec := "pruneDays", apart := false }
def PruneDaysSaid : Prop := pruneDaysRow.holds Try.pinned (OpenSpec.ofChange pruneDaysSpec)

/-- ITS FALSE NEIGHBOUR: 'it returns false'. Refute it at one input. -/
def pruneDaysWrong : ChangeSpec := { name := "pruneDays", fn := fun _ => fun
  | [d1, d2, d3] => { results := [.lit (.bool false)], args := [d1, d2, d3] }
  | _ => none }
def PruneDaysWrongFalsely : Prop := pruneDaysRow.holds Try.pinned (OpenSpec.ofChange pruneDaysWrong)

/-- 'hoardlaw25.PruneBack': WHATEVER THE INPUT: true; the input reads as it did. -/
def pruneBackSpec : ChangeSpec := { name := "pruneBack", fn := fun _ => fun
  | [d1, d2, d3, d4] => { results := [.lit (.bool true)], args := [d1, d2, d3, d4] }
  | _ => none }
def pruneBackRow : OpenClaim := { program := "ytogoiikgiohlhaa", sum := "564af006d675d27657ac2951595030534b9447a9a68efd39b7c65ac1ea98e29b", func := "hoard/hoardlaw25.PruneBack", spec := "pruneBack", apart := false }
def PruneBackSaid : Prop := pruneBackRow.holds Try.pinned (OpenSpec.ofChange pruneBackSpec)

/-- ITS FALSE NEIGHBOUR: 'it returns false'. Refute it at one input. -/
def pruneBackWrong : ChangeSpec := { name := "pruneBack", fn := fun _ => fun
  | [d1, d2, d3, d4] => { results := [.lit (.bool false)], args := [d1, d2, d3, d4] }
  | _ => none }
def PruneBackWrongFalsely : Prop := pruneBackRow.holds Try.pinned (OpenSpec.ofChange pruneBackWrong)

/-- 'hoardlaw25.PruneChooses': WHATEVER THE INPUT: true; the input reads as it did. -/
def pruneChoosesSpec : ChangeSpec := { name := "pruneChooses", fn := fun _ => fun
  | [d1, d2] => { results := [.lit (.bool true)], args := [d1, d2] }
  | _ => none }
def pruneChoosesRow : OpenClaim := { program := "ytogoiikgiohlhaa", sum := "564af006d675d27657ac2951595030534b9447a9a68efd39b7c65ac1ea98e29b", func := "hoard/hoardlaw25.PruneChooses", spec := "pruneChooses", unfollowed := true, recurses := true, apart := false }
def PruneChoosesSaid : Prop := pruneChoosesRow.holds Try.pinned (OpenSpec.ofChange pruneChoosesSpec)

/-- ITS FALSE NEIGHBOUR: 'it returns false'. Refute it at one input. -/
def pruneChoosesWrong : ChangeSpec := { name := "pruneChooses", fn := fun _ => fun
  | [d1, d2] => { results := [.lit (.bool false)], args := [d1, d2] }
  | _ => none }
def PruneChoosesWrongFalsely : Prop := pruneChoosesRow.holds Try.pinned (OpenSpec.ofChange pruneChoosesWrong)

/-- 'hoardlaw25.PruneBounds': WHATEVER THE INPUT: true; the input reads as it did. -/
def pruneBoundsSpec : ChangeSpec := { name := "pruneBounds", fn := fun _ => fun
  | [d1, d2] => { results := [.lit (.bool true)], args := [d1, d2] }
  | _ => none }
def pruneBoundsRow : OpenClaim := { program := "ytogoiikgiohlhaa", sum := "564af006d675d27657ac2951595030534b9447a9a68efd39b7c65ac1ea98e29b", func := "hoard/hoardlaw25.PruneBounds", spec := "pruneBounds", unfollowed := true, recurses := true, apart := false }
def PruneBoundsSaid : Prop := pruneBoundsRow.holds Try.pinned (OpenSpec.ofChange pruneBoundsSpec)

/-- ITS FALSE NEIGHBOUR: 'it returns false'. Refute it at one input. -/
def pruneBoundsWrong : ChangeSpec := { name := "pruneBounds", fn := fun _ => fun
  | [d1, d2] => { results := [.lit (.bool false)], args := [d1, d2] }
  | _ => none }
def PruneBoundsWrongFalsely : Prop := pruneBoundsRow.holds Try.pinned (OpenSpec.ofChange pruneBoundsWrong)

/-- 'hoardlaw25.PruneEach': WHATEVER THE INPUT: true; the input reads as it did. -/
def pruneEachSpec : ChangeSpec := { name := "pruneEach", fn := fun _ => fun
  | [d1, d2] => { results := [.lit (.bool true)], args := [d1, d2] }
  | _ => none }
def pruneEachRow : OpenClaim := { program := "ytogoiikgiohlhaa", sum := "564af006d675d27657ac2951595030534b9447a9a68efd39b7c65ac1ea98e29b", func := "hoard/hoardlaw25.PruneEach", spec := "pruneEach", unfollowed := true, recurses := true, apart := false }
def PruneEachSaid : Prop := pruneEachRow.holds Try.pinned (OpenSpec.ofChange pruneEachSpec)

/-- ITS FALSE NEIGHBOUR: 'it returns false'. Refute it at one input. -/
def pruneEachWrong : ChangeSpec := { name := "pruneEach", fn := fun _ => fun
  | [d1, d2] => { results := [.lit (.bool false)], args := [d1, d2] }
  | _ => none }
def PruneEachWrongFalsely : Prop := pruneEachRow.holds Try.pinned (OpenSpec.ofChange pruneEachWrong)

/- THE SECOND FORM. 'bulk': how many values and letters a reading holds, each counted each time it is reached (what is shared counts as often as it is met; a slice's spare places count too). A statement '..UptoSaid' is the law's where the arguments, and the package variables that the reading takes, are together of bulk at most 1048576: NARROWER than '..Said'. Prove '..Said' where nothing that the law and all that it calls make is longer than what came in: it says more and counts as full. Else prove '..UptoSaid'. A law counts once. -/
mutual
def uptoBulk {H : Type} : DataW H → Nat
  | .lit (.string bytes) => bytes.length + 1
  | .lit _ => 1
  | .nil => 1
  | .ptr d => uptoBulk d + 1
  | .slice elems spare => uptoBulkAll elems + uptoBulkAll spare + 1
  | .agg parts => uptoBulkAll parts + 1
  | .iface _ d => uptoBulk d + 1
  | .map entries => uptoBulkEntries entries + 1
  | .held _ => 1
def uptoBulkAll {H : Type} : List (DataW H) → Nat
  | [] => 0
  | d :: r => uptoBulk d + uptoBulkAll r
def uptoBulkEntries {H : Type} : List (Lit × DataW H) → Nat
  | [] => 0
  | x :: r => uptoBulkEntry x + uptoBulkEntries r
def uptoBulkEntry {H : Type} : Lit × DataW H → Nat
  | (.string bytes, d) => bytes.length + uptoBulk d + 1
  | (_, d) => uptoBulk d + 1
 end
def uptoSmall : (H : Type) → List (DataW H) → Bool := fun _ ds => decide (uptoBulkAll ds ≤ 1048576)
def OpenSpec.upto (s : _root_.Go.ChangeSpec) : _root_.Go.OpenSpec := { _root_.Go.OpenSpec.ofChange s with cond := some uptoSmall }

/-- 'hoardlaw25.PruneNext', WHERE WHAT IT READS IS OF BULK AT MOST 1048576: true; the input reads as it did. -/
def pruneNextUptoRow : OpenClaim := { program := "ytogoiikgiohlhaa", sum := "564af006d675d27657ac2951595030534b9447a9a68efd39b7c65ac1ea98e29b", func := "hoard/hoardlaw25.PruneNext", spec := "pruneNext", apart := false, narrowed := true }
def PruneNextUptoSaid : Prop := pruneNextUptoRow.holds Try.pinned (OpenSpec.upto pruneNextSpec)

/-- 'hoardlaw25.PruneDays', WHERE WHAT IT READS IS OF BULK AT MOST 1048576: true; the input reads as it did. -/
def pruneDaysUptoRow : OpenClaim := { program := "ytogoiikgiohlhaa", sum := "564af006d675d27657ac2951595030534b9447a9a68efd39b7c65ac1ea98e29b", func := "hoard/hoardlaw25.PruneDays", spec := "pruneDays", apart := false, narrowed := true }
def PruneDaysUptoSaid : Prop := pruneDaysUptoRow.holds Try.pinned (OpenSpec.upto pruneDaysSpec)

/-- 'hoardlaw25.PruneBack', WHERE WHAT IT READS IS OF BULK AT MOST 1048576: true; the input reads as it did. -/
def pruneBackUptoRow : OpenClaim := { program := "ytogoiikgiohlhaa", sum := "564af006d675d27657ac2951595030534b9447a9a68efd39b7c65ac1ea98e29b", func := "hoard/hoardlaw25.PruneBack", spec := "pruneBack", apart := false, narrowed := true }
def PruneBackUptoSaid : Prop := pruneBackUptoRow.holds Try.pinned (OpenSpec.upto pruneBackSpec)

/-- 'hoardlaw25.PruneChooses', WHERE WHAT IT READS IS OF BULK AT MOST 1048576: true; the input reads as it did. -/
def pruneChoosesUptoRow : OpenClaim := { program := "ytogoiikgiohlhaa", sum := "564af006d675d27657ac2951595030534b9447a9a68efd39b7c65ac1ea98e29b", func := "hoard/hoardlaw25.PruneChooses", spec := "pruneChooses", unfollowed := true, recurses := true, apart := false, narrowed := true }
def PruneChoosesUptoSaid : Prop := pruneChoosesUptoRow.holds Try.pinned (OpenSpec.upto pruneChoosesSpec)

/-- 'hoardlaw25.PruneBounds', WHERE WHAT IT READS IS OF BULK AT MOST 1048576: true; the input reads as it did. -/
def pruneBoundsUptoRow : OpenClaim := { program := "ytogoiikgiohlhaa", sum := "564af006d675d27657ac2951595030534b9447a9a68efd39b7c65ac1ea98e29b", func := "hoard/hoardlaw25.PruneBounds", spec := "pruneBounds", unfollowed := true, recurses := true, apart := false, narrowed := true }
def PruneBoundsUptoSaid : Prop := pruneBoundsUptoRow.holds Try.pinned (OpenSpec.upto pruneBoundsSpec)

/-- 'hoardlaw25.PruneEach', WHERE WHAT IT READS IS OF BULK AT MOST 1048576: true; the input reads as it did. -/
def pruneEachUptoRow : OpenClaim := { program := "ytogoiikgiohlhaa", sum := "564af006d675d27657ac2951595030534b9447a9a68efd39b7c65ac1ea98e29b", func := "hoard/hoardlaw25.PruneEach", spec := "pruneEach", unfollowed := true, recurses := true, apart := false, narrowed := true }
def PruneEachUptoSaid : Prop := pruneEachUptoRow.holds Try.pinned (OpenSpec.upto pruneEachSpec)

end Rows
end Go.Proofs.Ytogoiikgiohlhaa
