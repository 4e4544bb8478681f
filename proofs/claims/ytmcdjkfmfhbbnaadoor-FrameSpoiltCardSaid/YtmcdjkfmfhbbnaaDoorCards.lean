/-
  DERIVED. GIVEN WITH THE SEED: THE CARDS: each row of YtmcdjkfmfhbbnaaDoorRows.lean that lists a variable, with what it lists TIED to the program's text (the seventh form; the later family's looks); each row that meets fmt, with fmt's text TOLD by the authors' own Lean function (tested against real Go, not proved from fmt's source: count such statements apart). THE CARD IS WHAT COUNTS. Prove the row's statement (the work); the ties are given (YtmcdjkfmfhbbnaaDoorTie.lean); close each card by the builder's one call (the guide's Derived/Test/ToyasCard.lean, 'card_holds'). Laid BY PROGRAM, IN A SANDBOX (cutbox-door.mjs). By AI agents, Wed Nov 11 2026. No macro, syntax, notation, axiom, sorry.
-/
import Derived.Test.YtmcdjkfmfhbbnaaDoorRows
import GoSem.ClaimSeven
namespace Go.Proofs.YtmcdjkfmfhbbnaaDoor
namespace Rows

/-- THE TIED CARD OF 'hoardlaw07.FrameWrites'. -/
def frameWritesCard : Claim7 := { stood := { row := frameWritesRow, standIns := [], harness := (true, "3db4f34cbd534cb37c8a4549e4ac67ad639c92c858147de452b5b324117a394a"), looks := false }, kinds := [], alts := [], laidByText := true, laidKinds := [.data], laidTests := true, laidLooks := .later }
def FrameWritesCardSaid : Prop := Claim7.holds Tryd.pinned (.plain (OpenSpec.ofChange frameWritesSpec)) frameWritesCard

/-- THE TIED CARD OF 'hoardlaw07.FrameReads'. -/
def frameReadsCard : Claim7 := { stood := { row := frameReadsRow, standIns := [], harness := (true, "3db4f34cbd534cb37c8a4549e4ac67ad639c92c858147de452b5b324117a394a"), looks := false }, kinds := [], alts := [], laidByText := true, laidKinds := [.data], laidTests := true, laidLooks := .later }
def FrameReadsCardSaid : Prop := Claim7.holds Tryd.pinned (.plain (OpenSpec.ofChange frameReadsSpec)) frameReadsCard

/-- THE TIED CARD OF 'hoardlaw07.FrameBack'. -/
def frameBackCard : Claim7 := { stood := { row := frameBackRow, standIns := [], harness := (true, "3db4f34cbd534cb37c8a4549e4ac67ad639c92c858147de452b5b324117a394a"), looks := false }, kinds := [], alts := [], laidByText := true, laidKinds := [.data], laidTests := true, laidLooks := .later }
def FrameBackCardSaid : Prop := Claim7.holds Tryd.pinned (.plain (OpenSpec.ofChange frameBackSpec)) frameBackCard

/-- THE TIED CARD OF 'hoardlaw07.FrameBurst'. -/
def frameBurstCard : Claim7 := { stood := { row := frameBurstRow, standIns := [], harness := (true, "3db4f34cbd534cb37c8a4549e4ac67ad639c92c858147de452b5b324117a394a"), looks := false }, kinds := [], alts := [], laidByText := true, laidKinds := [.data], laidTests := true, laidLooks := .later }
def FrameBurstCardSaid : Prop := Claim7.holds Tryd.pinned (.plain (OpenSpec.ofChange frameBurstSpec)) frameBurstCard

/-- THE TIED CARD OF 'hoardlaw07.FrameSaves'. -/
def frameSavesCard : Claim7 := { stood := { row := frameSavesRow, standIns := [], harness := (true, "3db4f34cbd534cb37c8a4549e4ac67ad639c92c858147de452b5b324117a394a"), looks := false }, kinds := [], alts := [], laidByText := true, laidKinds := [.data], laidTests := true, laidLooks := .later }
def FrameSavesCardSaid : Prop := Claim7.holds Tryd.pinned (.plain (OpenSpec.ofChange frameSavesSpec)) frameSavesCard

/-- THE TIED CARD OF 'hoardlaw07.FrameWhole'. -/
def frameWholeCard : Claim7 := { stood := { row := frameWholeRow, standIns := [], harness := (true, "3db4f34cbd534cb37c8a4549e4ac67ad639c92c858147de452b5b324117a394a"), looks := false }, kinds := [], alts := [], laidByText := true, laidKinds := [.data], laidTests := true, laidLooks := .later }
def FrameWholeCardSaid : Prop := Claim7.holds Tryd.pinned (.plain (OpenSpec.ofChange frameWholeSpec)) frameWholeCard

/-- THE TIED CARD OF 'hoardlaw07.FrameSpoilt'. -/
def frameSpoiltCard : Claim7 := { stood := { row := frameSpoiltRow, standIns := [], harness := (true, "3db4f34cbd534cb37c8a4549e4ac67ad639c92c858147de452b5b324117a394a"), looks := false }, kinds := [], alts := [], laidByText := true, laidKinds := [.data], laidTests := true, laidLooks := .later }
def FrameSpoiltCardSaid : Prop := Claim7.holds Tryd.pinned (.plain (OpenSpec.ofChange frameSpoiltSpec)) frameSpoiltCard

/-- THE TIED CARD OF 'hoardlaw07.FrameScans'. -/
def frameScansCard : Claim7 := { stood := { row := frameScansRow, standIns := [], harness := (true, "3db4f34cbd534cb37c8a4549e4ac67ad639c92c858147de452b5b324117a394a"), looks := false }, kinds := [], alts := [], laidByText := true, laidKinds := [.data], laidTests := true, laidLooks := .later }
def FrameScansCardSaid : Prop := Claim7.holds Tryd.pinned (.plain (OpenSpec.ofChange frameScansSpec)) frameScansCard

/-- THE SECOND FORM's CARD OF 'hoardlaw07.FrameWrites'. -/
def frameWritesUptoCard : Claim7 := { stood := { row := frameWritesUptoRow, standIns := [], harness := (true, "3db4f34cbd534cb37c8a4549e4ac67ad639c92c858147de452b5b324117a394a"), looks := false }, kinds := [], alts := [], laidByText := true, laidKinds := [.data], laidTests := true, laidLooks := .later }
def FrameWritesUptoCardSaid : Prop := Claim7.holds Tryd.pinned (.plain (OpenSpec.upto frameWritesSpec)) frameWritesUptoCard

/-- THE SECOND FORM's CARD OF 'hoardlaw07.FrameReads'. -/
def frameReadsUptoCard : Claim7 := { stood := { row := frameReadsUptoRow, standIns := [], harness := (true, "3db4f34cbd534cb37c8a4549e4ac67ad639c92c858147de452b5b324117a394a"), looks := false }, kinds := [], alts := [], laidByText := true, laidKinds := [.data], laidTests := true, laidLooks := .later }
def FrameReadsUptoCardSaid : Prop := Claim7.holds Tryd.pinned (.plain (OpenSpec.upto frameReadsSpec)) frameReadsUptoCard

/-- THE SECOND FORM's CARD OF 'hoardlaw07.FrameBack'. -/
def frameBackUptoCard : Claim7 := { stood := { row := frameBackUptoRow, standIns := [], harness := (true, "3db4f34cbd534cb37c8a4549e4ac67ad639c92c858147de452b5b324117a394a"), looks := false }, kinds := [], alts := [], laidByText := true, laidKinds := [.data], laidTests := true, laidLooks := .later }
def FrameBackUptoCardSaid : Prop := Claim7.holds Tryd.pinned (.plain (OpenSpec.upto frameBackSpec)) frameBackUptoCard

/-- THE SECOND FORM's CARD OF 'hoardlaw07.FrameBurst'. -/
def frameBurstUptoCard : Claim7 := { stood := { row := frameBurstUptoRow, standIns := [], harness := (true, "3db4f34cbd534cb37c8a4549e4ac67ad639c92c858147de452b5b324117a394a"), looks := false }, kinds := [], alts := [], laidByText := true, laidKinds := [.data], laidTests := true, laidLooks := .later }
def FrameBurstUptoCardSaid : Prop := Claim7.holds Tryd.pinned (.plain (OpenSpec.upto frameBurstSpec)) frameBurstUptoCard

/-- THE SECOND FORM's CARD OF 'hoardlaw07.FrameSaves'. -/
def frameSavesUptoCard : Claim7 := { stood := { row := frameSavesUptoRow, standIns := [], harness := (true, "3db4f34cbd534cb37c8a4549e4ac67ad639c92c858147de452b5b324117a394a"), looks := false }, kinds := [], alts := [], laidByText := true, laidKinds := [.data], laidTests := true, laidLooks := .later }
def FrameSavesUptoCardSaid : Prop := Claim7.holds Tryd.pinned (.plain (OpenSpec.upto frameSavesSpec)) frameSavesUptoCard

/-- THE SECOND FORM's CARD OF 'hoardlaw07.FrameWhole'. -/
def frameWholeUptoCard : Claim7 := { stood := { row := frameWholeUptoRow, standIns := [], harness := (true, "3db4f34cbd534cb37c8a4549e4ac67ad639c92c858147de452b5b324117a394a"), looks := false }, kinds := [], alts := [], laidByText := true, laidKinds := [.data], laidTests := true, laidLooks := .later }
def FrameWholeUptoCardSaid : Prop := Claim7.holds Tryd.pinned (.plain (OpenSpec.upto frameWholeSpec)) frameWholeUptoCard

/-- THE SECOND FORM's CARD OF 'hoardlaw07.FrameSpoilt'. -/
def frameSpoiltUptoCard : Claim7 := { stood := { row := frameSpoiltUptoRow, standIns := [], harness := (true, "3db4f34cbd534cb37c8a4549e4ac67ad639c92c858147de452b5b324117a394a"), looks := false }, kinds := [], alts := [], laidByText := true, laidKinds := [.data], laidTests := true, laidLooks := .later }
def FrameSpoiltUptoCardSaid : Prop := Claim7.holds Tryd.pinned (.plain (OpenSpec.upto frameSpoiltSpec)) frameSpoiltUptoCard

/-- THE SECOND FORM's CARD OF 'hoardlaw07.FrameScans'. -/
def frameScansUptoCard : Claim7 := { stood := { row := frameScansUptoRow, standIns := [], harness := (true, "3db4f34cbd534cb37c8a4549e4ac67ad639c92c858147de452b5b324117a394a"), looks := false }, kinds := [], alts := [], laidByText := true, laidKinds := [.data], laidTests := true, laidLooks := .later }
def FrameScansUptoCardSaid : Prop := Claim7.holds Tryd.pinned (.plain (OpenSpec.upto frameScansSpec)) frameScansUptoCard
end Rows
end Go.Proofs.YtmcdjkfmfhbbnaaDoor
