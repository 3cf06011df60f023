/-
  DERIVED. GIVEN WITH THE SEED: THE CARDS: each row of YtmohfibgefcefaaGreatDoorRows.lean that lists a variable, with what it lists TIED to the program's text (the seventh form; the later family's looks); each row that meets fmt, with fmt's text TOLD by the authors' own Lean function (tested against real Go, not proved from fmt's source: count such statements apart). THE CARD IS WHAT COUNTS. Prove the row's statement (the work); the ties are given (YtmohfibgefcefaaGreatDoorTie.lean); close each card by the builder's one call (the guide's Derived/Test/ToyasCard.lean, 'card_holds'). Laid BY PROGRAM, IN A SANDBOX (cutbox-door.mjs). By AI agents, Wed Nov 11 2026. No macro, syntax, notation, axiom, sorry.
-/
import Derived.Test.YtmohfibgefcefaaGreatDoorRows
import GoSem.ClaimSeven
namespace Go.Proofs.YtmohfibgefcefaaGreatDoor
namespace Rows

/-- THE TIED CARD OF 'laws.FnExecuteSheet'. -/
def fnExecuteSheetCard : Claim7 := { stood := { row := fnExecuteSheetRow, standIns := [], harness := (true, "bc0489aeab5761e7e754cb268ca12684b78422357f28a704649b1430e594b17f"), looks := true }, kinds := [], alts := [], laidByText := true, laidKinds := [.data, .data, .data, .data, .pinned], laidTests := true, laidLooks := .later }
def FnExecuteSheetCardSaid : Prop := Claim7.holds Tryz.pinned (.plain (OpenSpec.ofChange fnExecuteSheetSpec)) fnExecuteSheetCard

/-- THE TIED CARD OF 'laws.FnExecuteVertex'. -/
def fnExecuteVertexCard : Claim7 := { stood := { row := fnExecuteVertexRow, standIns := [], harness := (true, "bc0489aeab5761e7e754cb268ca12684b78422357f28a704649b1430e594b17f"), looks := true }, kinds := [], alts := [], laidByText := true, laidKinds := [.data, .data, .data, .data, .pinned], laidTests := true, laidLooks := .later }
def FnExecuteVertexCardSaid : Prop := Claim7.holds Tryz.pinned (.plain (OpenSpec.ofChange fnExecuteVertexSpec)) fnExecuteVertexCard

/-- THE TIED CARD OF 'laws.FnExecuteStrip'. -/
def fnExecuteStripCard : Claim7 := { stood := { row := fnExecuteStripRow, standIns := [], harness := (true, "bc0489aeab5761e7e754cb268ca12684b78422357f28a704649b1430e594b17f"), looks := true }, kinds := [], alts := [], laidByText := true, laidKinds := [.data, .data, .data, .data, .pinned], laidTests := true, laidLooks := .later }
def FnExecuteStripCardSaid : Prop := Claim7.holds Tryz.pinned (.plain (OpenSpec.ofChange fnExecuteStripSpec)) fnExecuteStripCard

/-- THE TIED CARD OF 'laws.FnExecuteCrimp'. -/
def fnExecuteCrimpCard : Claim7 := { stood := { row := fnExecuteCrimpRow, standIns := [], harness := (true, "bc0489aeab5761e7e754cb268ca12684b78422357f28a704649b1430e594b17f"), looks := true }, kinds := [], alts := [], laidByText := true, laidKinds := [.data, .data, .data, .data, .pinned], laidTests := true, laidLooks := .later }
def FnExecuteCrimpCardSaid : Prop := Claim7.holds Tryz.pinned (.plain (OpenSpec.ofChange fnExecuteCrimpSpec)) fnExecuteCrimpCard

/-- THE SECOND FORM's CARD OF 'laws.FnExecuteSheet'. -/
def fnExecuteSheetUptoCard : Claim7 := { stood := { row := fnExecuteSheetUptoRow, standIns := [], harness := (true, "bc0489aeab5761e7e754cb268ca12684b78422357f28a704649b1430e594b17f"), looks := true }, kinds := [], alts := [], laidByText := true, laidKinds := [.data, .data, .data, .data, .pinned], laidTests := true, laidLooks := .later }
def FnExecuteSheetUptoCardSaid : Prop := Claim7.holds Tryz.pinned (.plain (OpenSpec.upto fnExecuteSheetSpec)) fnExecuteSheetUptoCard

/-- THE SECOND FORM's CARD OF 'laws.FnExecuteVertex'. -/
def fnExecuteVertexUptoCard : Claim7 := { stood := { row := fnExecuteVertexUptoRow, standIns := [], harness := (true, "bc0489aeab5761e7e754cb268ca12684b78422357f28a704649b1430e594b17f"), looks := true }, kinds := [], alts := [], laidByText := true, laidKinds := [.data, .data, .data, .data, .pinned], laidTests := true, laidLooks := .later }
def FnExecuteVertexUptoCardSaid : Prop := Claim7.holds Tryz.pinned (.plain (OpenSpec.upto fnExecuteVertexSpec)) fnExecuteVertexUptoCard

/-- THE SECOND FORM's CARD OF 'laws.FnExecuteStrip'. -/
def fnExecuteStripUptoCard : Claim7 := { stood := { row := fnExecuteStripUptoRow, standIns := [], harness := (true, "bc0489aeab5761e7e754cb268ca12684b78422357f28a704649b1430e594b17f"), looks := true }, kinds := [], alts := [], laidByText := true, laidKinds := [.data, .data, .data, .data, .pinned], laidTests := true, laidLooks := .later }
def FnExecuteStripUptoCardSaid : Prop := Claim7.holds Tryz.pinned (.plain (OpenSpec.upto fnExecuteStripSpec)) fnExecuteStripUptoCard

/-- THE SECOND FORM's CARD OF 'laws.FnExecuteCrimp'. -/
def fnExecuteCrimpUptoCard : Claim7 := { stood := { row := fnExecuteCrimpUptoRow, standIns := [], harness := (true, "bc0489aeab5761e7e754cb268ca12684b78422357f28a704649b1430e594b17f"), looks := true }, kinds := [], alts := [], laidByText := true, laidKinds := [.data, .data, .data, .data, .pinned], laidTests := true, laidLooks := .later }
def FnExecuteCrimpUptoCardSaid : Prop := Claim7.holds Tryz.pinned (.plain (OpenSpec.upto fnExecuteCrimpSpec)) fnExecuteCrimpUptoCard
end Rows
end Go.Proofs.YtmohfibgefcefaaGreatDoor
