/-
  DERIVED. GIVEN WITH THE SEED: THE CARDS: each row of YtmjgfhegcdpkpaaGreatDoorRows.lean that lists a variable, with what it lists TIED to the program's text (the seventh form; the later family's looks); each row that meets fmt, with fmt's text TOLD by the authors' own Lean function (tested against real Go, not proved from fmt's source: count such statements apart). THE CARD IS WHAT COUNTS. Prove the row's statement (the work); the ties are given (YtmjgfhegcdpkpaaGreatDoorTie.lean); close each card by the builder's one call (the guide's Derived/Test/ToyasCard.lean, 'card_holds'). Laid BY PROGRAM, IN A SANDBOX (cutbox-door.mjs). By AI agents, Wed Nov 11 2026. No macro, syntax, notation, axiom, sorry.
-/
import Derived.Test.YtmjgfhegcdpkpaaGreatDoorRows
import GoSem.ClaimSeven
namespace Go.Proofs.YtmjgfhegcdpkpaaGreatDoor
namespace Rows

/-- THE TIED CARD OF 'flangelaw19.SnapshotReads'. -/
def snapshotReadsCard : Claim7 := { stood := { row := snapshotReadsRow, standIns := [], harness := (true, "1228200ff6632e389f5546c8c70f43e83b514e35b86c6d518e3b21f2ced906c2"), looks := true }, kinds := [], alts := [], laidByText := true, laidKinds := [.data, .data, .data, .data, .sentinel, .sentinel, .pinned], laidTests := true, laidLooks := .later }
def SnapshotReadsCardSaid : Prop := Claim7.holds Tryz.pinned (.plain (OpenSpec.ofChange snapshotReadsSpec)) snapshotReadsCard

/-- THE TIED CARD OF 'flangelaw19.SnapshotLines'. -/
def snapshotLinesCard : Claim7 := { stood := { row := snapshotLinesRow, standIns := [], harness := (true, "1228200ff6632e389f5546c8c70f43e83b514e35b86c6d518e3b21f2ced906c2"), looks := true }, kinds := [], alts := [], laidByText := true, laidKinds := [.data, .data, .data, .data, .sentinel, .sentinel, .pinned], laidTests := true, laidLooks := .later }
def SnapshotLinesCardSaid : Prop := Claim7.holds Tryz.pinned (.plain (OpenSpec.ofChange snapshotLinesSpec)) snapshotLinesCard

/-- THE TIED CARD OF 'flangelaw19.SnapshotSums'. -/
def snapshotSumsCard : Claim7 := { stood := { row := snapshotSumsRow, standIns := [], harness := (true, "1228200ff6632e389f5546c8c70f43e83b514e35b86c6d518e3b21f2ced906c2"), looks := true }, kinds := [], alts := [], laidByText := true, laidKinds := [.data, .data, .data, .data, .sentinel, .sentinel, .pinned], laidTests := true, laidLooks := .later }
def SnapshotSumsCardSaid : Prop := Claim7.holds Tryz.pinned (.plain (OpenSpec.ofChange snapshotSumsSpec)) snapshotSumsCard

/-- THE TIED CARD OF 'flangelaw31.LintFine'. -/
def lintFineCard : Claim7 := { stood := { row := lintFineRow, standIns := [], harness := (true, "1228200ff6632e389f5546c8c70f43e83b514e35b86c6d518e3b21f2ced906c2"), looks := true }, kinds := [], alts := [], laidByText := true, laidKinds := [.data, .data, .data, .data, .sentinel, .sentinel, .pinned], laidTests := true, laidLooks := .later }
def LintFineCardSaid : Prop := Claim7.holds Tryz.pinned (.plain (OpenSpec.ofChange lintFineSpec)) lintFineCard

/-- THE SECOND FORM's CARD OF 'flangelaw19.SnapshotReads'. -/
def snapshotReadsUptoCard : Claim7 := { stood := { row := snapshotReadsUptoRow, standIns := [], harness := (true, "1228200ff6632e389f5546c8c70f43e83b514e35b86c6d518e3b21f2ced906c2"), looks := true }, kinds := [], alts := [], laidByText := true, laidKinds := [.data, .data, .data, .data, .sentinel, .sentinel, .pinned], laidTests := true, laidLooks := .later }
def SnapshotReadsUptoCardSaid : Prop := Claim7.holds Tryz.pinned (.plain (OpenSpec.upto snapshotReadsSpec)) snapshotReadsUptoCard

/-- THE SECOND FORM's CARD OF 'flangelaw19.SnapshotLines'. -/
def snapshotLinesUptoCard : Claim7 := { stood := { row := snapshotLinesUptoRow, standIns := [], harness := (true, "1228200ff6632e389f5546c8c70f43e83b514e35b86c6d518e3b21f2ced906c2"), looks := true }, kinds := [], alts := [], laidByText := true, laidKinds := [.data, .data, .data, .data, .sentinel, .sentinel, .pinned], laidTests := true, laidLooks := .later }
def SnapshotLinesUptoCardSaid : Prop := Claim7.holds Tryz.pinned (.plain (OpenSpec.upto snapshotLinesSpec)) snapshotLinesUptoCard

/-- THE SECOND FORM's CARD OF 'flangelaw19.SnapshotSums'. -/
def snapshotSumsUptoCard : Claim7 := { stood := { row := snapshotSumsUptoRow, standIns := [], harness := (true, "1228200ff6632e389f5546c8c70f43e83b514e35b86c6d518e3b21f2ced906c2"), looks := true }, kinds := [], alts := [], laidByText := true, laidKinds := [.data, .data, .data, .data, .sentinel, .sentinel, .pinned], laidTests := true, laidLooks := .later }
def SnapshotSumsUptoCardSaid : Prop := Claim7.holds Tryz.pinned (.plain (OpenSpec.upto snapshotSumsSpec)) snapshotSumsUptoCard

/-- THE SECOND FORM's CARD OF 'flangelaw31.LintFine'. -/
def lintFineUptoCard : Claim7 := { stood := { row := lintFineUptoRow, standIns := [], harness := (true, "1228200ff6632e389f5546c8c70f43e83b514e35b86c6d518e3b21f2ced906c2"), looks := true }, kinds := [], alts := [], laidByText := true, laidKinds := [.data, .data, .data, .data, .sentinel, .sentinel, .pinned], laidTests := true, laidLooks := .later }
def LintFineUptoCardSaid : Prop := Claim7.holds Tryz.pinned (.plain (OpenSpec.upto lintFineSpec)) lintFineUptoCard
end Rows
end Go.Proofs.YtmjgfhegcdpkpaaGreatDoor
