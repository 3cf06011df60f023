/-
  DERIVED. GIVEN WITH THE SEED: THE CARDS: each row of YtkdlipbegdiaaaaGreatDoorRows.lean that lists a variable, with what it lists TIED to the program's text (the seventh form; the later family's looks); each row that meets fmt, with fmt's text TOLD by the authors' own Lean function (tested against real Go, not proved from fmt's source: count such statements apart). THE CARD IS WHAT COUNTS. Prove the row's statement (the work); the ties are given (YtkdlipbegdiaaaaGreatDoorTie.lean); close each card by the builder's one call (the guide's Derived/Test/ToyasCard.lean, 'card_holds'). Laid BY PROGRAM, IN A SANDBOX (cutbox-door.mjs). By AI agents, Wed Nov 11 2026. No macro, syntax, notation, axiom, sorry.
-/
import Derived.Test.YtkdlipbegdiaaaaGreatDoorRows
import GoSem.ClaimSeven
namespace Go.Proofs.YtkdlipbegdiaaaaGreatDoor
namespace Rows

/-- THE TIED CARD OF 'laws.FnExecuteStrip'. -/
def fnExecuteStripCard : Claim7 := { stood := { row := fnExecuteStripRow, standIns := [], harness := (true, "59b5782666bd05baa48672baf8df411521a8e4b82217ce020d7885946dd125e8"), looks := true }, kinds := [], alts := [], laidByText := true, laidKinds := [.data, .data, .data, .data, .pinned], laidTests := true, laidLooks := .later }
def FnExecuteStripCardSaid : Prop := Claim7.holds Tryz.pinned (.plain (OpenSpec.ofChange fnExecuteStripSpec)) fnExecuteStripCard

/-- THE TIED CARD OF 'laws.FnExactExecute'. -/
def fnExactExecuteCard : Claim7 := { stood := { row := fnExactExecuteRow, standIns := [], harness := (true, "59b5782666bd05baa48672baf8df411521a8e4b82217ce020d7885946dd125e8"), looks := true }, kinds := [], alts := [], laidByText := true, laidKinds := [.data, .data, .data, .data, .pinned], laidTests := true, laidLooks := .later }
def FnExactExecuteCardSaid : Prop := Claim7.holds Tryz.pinned (.plain (OpenSpec.ofChange fnExactExecuteSpec)) fnExactExecuteCard

/-- THE TIED CARD OF 'laws.FnExecuteNone'. -/
def fnExecuteNoneCard : Claim7 := { stood := { row := fnExecuteNoneRow, standIns := [], harness := (true, "59b5782666bd05baa48672baf8df411521a8e4b82217ce020d7885946dd125e8"), looks := true }, kinds := [], alts := [], laidByText := true, laidKinds := [.data, .data, .data, .data, .pinned], laidTests := true, laidLooks := .later }
def FnExecuteNoneCardSaid : Prop := Claim7.holds Tryz.pinned (.plain (OpenSpec.ofChange fnExecuteNoneSpec)) fnExecuteNoneCard

/-- THE TIED CARD OF 'laws.FnExecuteWhat'. -/
def fnExecuteWhatCard : Claim7 := { stood := { row := fnExecuteWhatRow, standIns := [], harness := (true, "59b5782666bd05baa48672baf8df411521a8e4b82217ce020d7885946dd125e8"), looks := true }, kinds := [], alts := [], laidByText := true, laidKinds := [.data, .data, .data, .data, .pinned], laidTests := true, laidLooks := .later }
def FnExecuteWhatCardSaid : Prop := Claim7.holds Tryz.pinned (.plain (OpenSpec.ofChange fnExecuteWhatSpec)) fnExecuteWhatCard

/-- THE TIED CARD OF 'laws.FnExecuteTwice'. -/
def fnExecuteTwiceCard : Claim7 := { stood := { row := fnExecuteTwiceRow, standIns := [], harness := (true, "59b5782666bd05baa48672baf8df411521a8e4b82217ce020d7885946dd125e8"), looks := true }, kinds := [], alts := [], laidByText := true, laidKinds := [.data, .data, .data, .data, .pinned], laidTests := true, laidLooks := .later }
def FnExecuteTwiceCardSaid : Prop := Claim7.holds Tryz.pinned (.plain (OpenSpec.ofChange fnExecuteTwiceSpec)) fnExecuteTwiceCard

/-- THE SECOND FORM's CARD OF 'laws.FnExecuteStrip'. -/
def fnExecuteStripUptoCard : Claim7 := { stood := { row := fnExecuteStripUptoRow, standIns := [], harness := (true, "59b5782666bd05baa48672baf8df411521a8e4b82217ce020d7885946dd125e8"), looks := true }, kinds := [], alts := [], laidByText := true, laidKinds := [.data, .data, .data, .data, .pinned], laidTests := true, laidLooks := .later }
def FnExecuteStripUptoCardSaid : Prop := Claim7.holds Tryz.pinned (.plain (OpenSpec.upto fnExecuteStripSpec)) fnExecuteStripUptoCard

/-- THE SECOND FORM's CARD OF 'laws.FnExactExecute'. -/
def fnExactExecuteUptoCard : Claim7 := { stood := { row := fnExactExecuteUptoRow, standIns := [], harness := (true, "59b5782666bd05baa48672baf8df411521a8e4b82217ce020d7885946dd125e8"), looks := true }, kinds := [], alts := [], laidByText := true, laidKinds := [.data, .data, .data, .data, .pinned], laidTests := true, laidLooks := .later }
def FnExactExecuteUptoCardSaid : Prop := Claim7.holds Tryz.pinned (.plain (OpenSpec.upto fnExactExecuteSpec)) fnExactExecuteUptoCard

/-- THE SECOND FORM's CARD OF 'laws.FnExecuteNone'. -/
def fnExecuteNoneUptoCard : Claim7 := { stood := { row := fnExecuteNoneUptoRow, standIns := [], harness := (true, "59b5782666bd05baa48672baf8df411521a8e4b82217ce020d7885946dd125e8"), looks := true }, kinds := [], alts := [], laidByText := true, laidKinds := [.data, .data, .data, .data, .pinned], laidTests := true, laidLooks := .later }
def FnExecuteNoneUptoCardSaid : Prop := Claim7.holds Tryz.pinned (.plain (OpenSpec.upto fnExecuteNoneSpec)) fnExecuteNoneUptoCard

/-- THE SECOND FORM's CARD OF 'laws.FnExecuteWhat'. -/
def fnExecuteWhatUptoCard : Claim7 := { stood := { row := fnExecuteWhatUptoRow, standIns := [], harness := (true, "59b5782666bd05baa48672baf8df411521a8e4b82217ce020d7885946dd125e8"), looks := true }, kinds := [], alts := [], laidByText := true, laidKinds := [.data, .data, .data, .data, .pinned], laidTests := true, laidLooks := .later }
def FnExecuteWhatUptoCardSaid : Prop := Claim7.holds Tryz.pinned (.plain (OpenSpec.upto fnExecuteWhatSpec)) fnExecuteWhatUptoCard

/-- THE SECOND FORM's CARD OF 'laws.FnExecuteTwice'. -/
def fnExecuteTwiceUptoCard : Claim7 := { stood := { row := fnExecuteTwiceUptoRow, standIns := [], harness := (true, "59b5782666bd05baa48672baf8df411521a8e4b82217ce020d7885946dd125e8"), looks := true }, kinds := [], alts := [], laidByText := true, laidKinds := [.data, .data, .data, .data, .pinned], laidTests := true, laidLooks := .later }
def FnExecuteTwiceUptoCardSaid : Prop := Claim7.holds Tryz.pinned (.plain (OpenSpec.upto fnExecuteTwiceSpec)) fnExecuteTwiceUptoCard
end Rows
end Go.Proofs.YtkdlipbegdiaaaaGreatDoor
