/-
  DERIVED. GIVEN WITH THE SEED: THE CARDS: each row of YtdmahionfllhnaaGreatDoorRows.lean that lists a variable, with what it lists TIED to the program's text (the seventh form; the later family's looks); each row that meets fmt, with fmt's text TOLD by the authors' own Lean function (tested against real Go, not proved from fmt's source: count such statements apart). THE CARD IS WHAT COUNTS. Prove the row's statement (the work); the ties are given (YtdmahionfllhnaaGreatDoorTie.lean); close each card by the builder's one call (the guide's Derived/Test/ToyasCard.lean, 'card_holds'). Laid BY PROGRAM, IN A SANDBOX (cutbox-door.mjs). By AI agents, Wed Nov 11 2026. No macro, syntax, notation, axiom, sorry.
-/
import Derived.Test.YtdmahionfllhnaaGreatDoorRows
import GoSem.ClaimSeven
namespace Go.Proofs.YtdmahionfllhnaaGreatDoor
namespace Rows

/-- THE TIED CARD OF 'coxswainlaw24.FdAppends'. -/
def fdAppendsCard : Claim7 := { stood := { row := fdAppendsRow, standIns := [], harness := (true, "e30e1496f0bbc683f5f0dbfe2f89b384c48aa0cfcf45416d72ac855a20efd42c"), looks := false }, kinds := [], alts := [], laidByText := true, laidKinds := [.data, .pinned], laidTests := true, laidLooks := .later }
def FdAppendsCardSaid : Prop := Claim7.holds Tryz.pinned (.plain (OpenSpec.ofChange fdAppendsSpec)) fdAppendsCard

/-- THE TIED CARD OF 'coxswainlaw24.FdPieces'. -/
def fdPiecesCard : Claim7 := { stood := { row := fdPiecesRow, standIns := [], harness := (true, "e30e1496f0bbc683f5f0dbfe2f89b384c48aa0cfcf45416d72ac855a20efd42c"), looks := false }, kinds := [], alts := [], laidByText := true, laidKinds := [.data, .pinned], laidTests := true, laidLooks := .later }
def FdPiecesCardSaid : Prop := Claim7.holds Tryz.pinned (.plain (OpenSpec.ofChange fdPiecesSpec)) fdPiecesCard

/-- THE TIED CARD OF 'coxswainlaw24.FdShared'. -/
def fdSharedCard : Claim7 := { stood := { row := fdSharedRow, standIns := [], harness := (true, "e30e1496f0bbc683f5f0dbfe2f89b384c48aa0cfcf45416d72ac855a20efd42c"), looks := false }, kinds := [], alts := [], laidByText := true, laidKinds := [.data, .pinned], laidTests := true, laidLooks := .later }
def FdSharedCardSaid : Prop := Claim7.holds Tryz.pinned (.plain (OpenSpec.ofChange fdSharedSpec)) fdSharedCard

/-- THE TIED CARD OF 'coxswainlaw24.FdLeast'. -/
def fdLeastCard : Claim7 := { stood := { row := fdLeastRow, standIns := [], harness := (true, "e30e1496f0bbc683f5f0dbfe2f89b384c48aa0cfcf45416d72ac855a20efd42c"), looks := false }, kinds := [], alts := [], laidByText := true, laidKinds := [.data, .pinned], laidTests := true, laidLooks := .later }
def FdLeastCardSaid : Prop := Claim7.holds Tryz.pinned (.plain (OpenSpec.ofChange fdLeastSpec)) fdLeastCard

/-- THE TIED CARD OF 'coxswainlaw24.FdScript'. -/
def fdScriptCard : Claim7 := { stood := { row := fdScriptRow, standIns := [], harness := (true, "e30e1496f0bbc683f5f0dbfe2f89b384c48aa0cfcf45416d72ac855a20efd42c"), looks := false }, kinds := [], alts := [], laidByText := true, laidKinds := [.data, .pinned], laidTests := true, laidLooks := .later }
def FdScriptCardSaid : Prop := Claim7.holds Tryz.pinned (.plain (OpenSpec.ofChange fdScriptSpec)) fdScriptCard

/-- THE TIED CARD OF 'coxswainlaw24.FdEnds'. -/
def fdEndsCard : Claim7 := { stood := { row := fdEndsRow, standIns := [], harness := (true, "e30e1496f0bbc683f5f0dbfe2f89b384c48aa0cfcf45416d72ac855a20efd42c"), looks := false }, kinds := [], alts := [], laidByText := true, laidKinds := [.data, .pinned], laidTests := true, laidLooks := .later }
def FdEndsCardSaid : Prop := Claim7.holds Tryz.pinned (.plain (OpenSpec.ofChange fdEndsSpec)) fdEndsCard

/-- THE TIED CARD OF 'coxswainlaw24.FdNone'. -/
def fdNoneCard : Claim7 := { stood := { row := fdNoneRow, standIns := [], harness := (true, "e30e1496f0bbc683f5f0dbfe2f89b384c48aa0cfcf45416d72ac855a20efd42c"), looks := false }, kinds := [], alts := [], laidByText := true, laidKinds := [.data, .pinned], laidTests := true, laidLooks := .later }
def FdNoneCardSaid : Prop := Claim7.holds Tryz.pinned (.plain (OpenSpec.ofChange fdNoneSpec)) fdNoneCard

/-- THE TIED CARD OF 'coxswainlaw27.UnixAlone'. -/
def unixAloneCard : Claim7 := { stood := { row := unixAloneRow, standIns := [], harness := (true, "e30e1496f0bbc683f5f0dbfe2f89b384c48aa0cfcf45416d72ac855a20efd42c"), looks := false }, kinds := [], alts := [], laidByText := true, laidKinds := [.data, .pinned], laidTests := true, laidLooks := .later }
def UnixAloneCardSaid : Prop := Claim7.holds Tryz.pinned (.plain (OpenSpec.ofChange unixAloneSpec)) unixAloneCard

/-- THE TIED CARD OF 'coxswainlaw27.UnixErrors'. -/
def unixErrorsCard : Claim7 := { stood := { row := unixErrorsRow, standIns := [], harness := (true, "e30e1496f0bbc683f5f0dbfe2f89b384c48aa0cfcf45416d72ac855a20efd42c"), looks := false }, kinds := [], alts := [], laidByText := true, laidKinds := [.data, .pinned], laidTests := true, laidLooks := .later }
def UnixErrorsCardSaid : Prop := Claim7.holds Tryz.pinned (.plain (OpenSpec.ofChange unixErrorsSpec)) unixErrorsCard

/-- THE TIED CARD OF 'coxswainlaw27.UnixScript'. -/
def unixScriptCard : Claim7 := { stood := { row := unixScriptRow, standIns := [], harness := (true, "e30e1496f0bbc683f5f0dbfe2f89b384c48aa0cfcf45416d72ac855a20efd42c"), looks := false }, kinds := [], alts := [], laidByText := true, laidKinds := [.data, .pinned], laidTests := true, laidLooks := .later }
def UnixScriptCardSaid : Prop := Claim7.holds Tryz.pinned (.plain (OpenSpec.ofChange unixScriptSpec)) unixScriptCard

/-- THE TIED CARD OF 'coxswainlaw27.UnixGone'. -/
def unixGoneCard : Claim7 := { stood := { row := unixGoneRow, standIns := [], harness := (true, "e30e1496f0bbc683f5f0dbfe2f89b384c48aa0cfcf45416d72ac855a20efd42c"), looks := false }, kinds := [], alts := [], laidByText := true, laidKinds := [.data, .pinned], laidTests := true, laidLooks := .later }
def UnixGoneCardSaid : Prop := Claim7.holds Tryz.pinned (.plain (OpenSpec.ofChange unixGoneSpec)) unixGoneCard

/-- THE TIED CARD OF 'coxswainlaw27.UnixNone'. -/
def unixNoneCard : Claim7 := { stood := { row := unixNoneRow, standIns := [], harness := (true, "e30e1496f0bbc683f5f0dbfe2f89b384c48aa0cfcf45416d72ac855a20efd42c"), looks := false }, kinds := [], alts := [], laidByText := true, laidKinds := [.data, .pinned], laidTests := true, laidLooks := .later }
def UnixNoneCardSaid : Prop := Claim7.holds Tryz.pinned (.plain (OpenSpec.ofChange unixNoneSpec)) unixNoneCard

/-- THE SECOND FORM's CARD OF 'coxswainlaw24.FdAppends'. -/
def fdAppendsUptoCard : Claim7 := { stood := { row := fdAppendsUptoRow, standIns := [], harness := (true, "e30e1496f0bbc683f5f0dbfe2f89b384c48aa0cfcf45416d72ac855a20efd42c"), looks := false }, kinds := [], alts := [], laidByText := true, laidKinds := [.data, .pinned], laidTests := true, laidLooks := .later }
def FdAppendsUptoCardSaid : Prop := Claim7.holds Tryz.pinned (.plain (OpenSpec.upto fdAppendsSpec)) fdAppendsUptoCard

/-- THE SECOND FORM's CARD OF 'coxswainlaw24.FdPieces'. -/
def fdPiecesUptoCard : Claim7 := { stood := { row := fdPiecesUptoRow, standIns := [], harness := (true, "e30e1496f0bbc683f5f0dbfe2f89b384c48aa0cfcf45416d72ac855a20efd42c"), looks := false }, kinds := [], alts := [], laidByText := true, laidKinds := [.data, .pinned], laidTests := true, laidLooks := .later }
def FdPiecesUptoCardSaid : Prop := Claim7.holds Tryz.pinned (.plain (OpenSpec.upto fdPiecesSpec)) fdPiecesUptoCard

/-- THE SECOND FORM's CARD OF 'coxswainlaw24.FdShared'. -/
def fdSharedUptoCard : Claim7 := { stood := { row := fdSharedUptoRow, standIns := [], harness := (true, "e30e1496f0bbc683f5f0dbfe2f89b384c48aa0cfcf45416d72ac855a20efd42c"), looks := false }, kinds := [], alts := [], laidByText := true, laidKinds := [.data, .pinned], laidTests := true, laidLooks := .later }
def FdSharedUptoCardSaid : Prop := Claim7.holds Tryz.pinned (.plain (OpenSpec.upto fdSharedSpec)) fdSharedUptoCard

/-- THE SECOND FORM's CARD OF 'coxswainlaw24.FdLeast'. -/
def fdLeastUptoCard : Claim7 := { stood := { row := fdLeastUptoRow, standIns := [], harness := (true, "e30e1496f0bbc683f5f0dbfe2f89b384c48aa0cfcf45416d72ac855a20efd42c"), looks := false }, kinds := [], alts := [], laidByText := true, laidKinds := [.data, .pinned], laidTests := true, laidLooks := .later }
def FdLeastUptoCardSaid : Prop := Claim7.holds Tryz.pinned (.plain (OpenSpec.upto fdLeastSpec)) fdLeastUptoCard

/-- THE SECOND FORM's CARD OF 'coxswainlaw24.FdScript'. -/
def fdScriptUptoCard : Claim7 := { stood := { row := fdScriptUptoRow, standIns := [], harness := (true, "e30e1496f0bbc683f5f0dbfe2f89b384c48aa0cfcf45416d72ac855a20efd42c"), looks := false }, kinds := [], alts := [], laidByText := true, laidKinds := [.data, .pinned], laidTests := true, laidLooks := .later }
def FdScriptUptoCardSaid : Prop := Claim7.holds Tryz.pinned (.plain (OpenSpec.upto fdScriptSpec)) fdScriptUptoCard

/-- THE SECOND FORM's CARD OF 'coxswainlaw24.FdEnds'. -/
def fdEndsUptoCard : Claim7 := { stood := { row := fdEndsUptoRow, standIns := [], harness := (true, "e30e1496f0bbc683f5f0dbfe2f89b384c48aa0cfcf45416d72ac855a20efd42c"), looks := false }, kinds := [], alts := [], laidByText := true, laidKinds := [.data, .pinned], laidTests := true, laidLooks := .later }
def FdEndsUptoCardSaid : Prop := Claim7.holds Tryz.pinned (.plain (OpenSpec.upto fdEndsSpec)) fdEndsUptoCard

/-- THE SECOND FORM's CARD OF 'coxswainlaw24.FdNone'. -/
def fdNoneUptoCard : Claim7 := { stood := { row := fdNoneUptoRow, standIns := [], harness := (true, "e30e1496f0bbc683f5f0dbfe2f89b384c48aa0cfcf45416d72ac855a20efd42c"), looks := false }, kinds := [], alts := [], laidByText := true, laidKinds := [.data, .pinned], laidTests := true, laidLooks := .later }
def FdNoneUptoCardSaid : Prop := Claim7.holds Tryz.pinned (.plain (OpenSpec.upto fdNoneSpec)) fdNoneUptoCard

/-- THE SECOND FORM's CARD OF 'coxswainlaw27.UnixAlone'. -/
def unixAloneUptoCard : Claim7 := { stood := { row := unixAloneUptoRow, standIns := [], harness := (true, "e30e1496f0bbc683f5f0dbfe2f89b384c48aa0cfcf45416d72ac855a20efd42c"), looks := false }, kinds := [], alts := [], laidByText := true, laidKinds := [.data, .pinned], laidTests := true, laidLooks := .later }
def UnixAloneUptoCardSaid : Prop := Claim7.holds Tryz.pinned (.plain (OpenSpec.upto unixAloneSpec)) unixAloneUptoCard

/-- THE SECOND FORM's CARD OF 'coxswainlaw27.UnixErrors'. -/
def unixErrorsUptoCard : Claim7 := { stood := { row := unixErrorsUptoRow, standIns := [], harness := (true, "e30e1496f0bbc683f5f0dbfe2f89b384c48aa0cfcf45416d72ac855a20efd42c"), looks := false }, kinds := [], alts := [], laidByText := true, laidKinds := [.data, .pinned], laidTests := true, laidLooks := .later }
def UnixErrorsUptoCardSaid : Prop := Claim7.holds Tryz.pinned (.plain (OpenSpec.upto unixErrorsSpec)) unixErrorsUptoCard

/-- THE SECOND FORM's CARD OF 'coxswainlaw27.UnixScript'. -/
def unixScriptUptoCard : Claim7 := { stood := { row := unixScriptUptoRow, standIns := [], harness := (true, "e30e1496f0bbc683f5f0dbfe2f89b384c48aa0cfcf45416d72ac855a20efd42c"), looks := false }, kinds := [], alts := [], laidByText := true, laidKinds := [.data, .pinned], laidTests := true, laidLooks := .later }
def UnixScriptUptoCardSaid : Prop := Claim7.holds Tryz.pinned (.plain (OpenSpec.upto unixScriptSpec)) unixScriptUptoCard

/-- THE SECOND FORM's CARD OF 'coxswainlaw27.UnixGone'. -/
def unixGoneUptoCard : Claim7 := { stood := { row := unixGoneUptoRow, standIns := [], harness := (true, "e30e1496f0bbc683f5f0dbfe2f89b384c48aa0cfcf45416d72ac855a20efd42c"), looks := false }, kinds := [], alts := [], laidByText := true, laidKinds := [.data, .pinned], laidTests := true, laidLooks := .later }
def UnixGoneUptoCardSaid : Prop := Claim7.holds Tryz.pinned (.plain (OpenSpec.upto unixGoneSpec)) unixGoneUptoCard

/-- THE SECOND FORM's CARD OF 'coxswainlaw27.UnixNone'. -/
def unixNoneUptoCard : Claim7 := { stood := { row := unixNoneUptoRow, standIns := [], harness := (true, "e30e1496f0bbc683f5f0dbfe2f89b384c48aa0cfcf45416d72ac855a20efd42c"), looks := false }, kinds := [], alts := [], laidByText := true, laidKinds := [.data, .pinned], laidTests := true, laidLooks := .later }
def UnixNoneUptoCardSaid : Prop := Claim7.holds Tryz.pinned (.plain (OpenSpec.upto unixNoneSpec)) unixNoneUptoCard
end Rows
end Go.Proofs.YtdmahionfllhnaaGreatDoor
