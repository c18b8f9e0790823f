/-
  DERIVED. GIVEN WITH THE SEED: THE CARDS: each row of YtlpgaekkhlinhaaGreatDoorRows.lean that lists a variable, with what it lists TIED to the program's text (the seventh form; the later family's looks); each row that meets fmt, with fmt's text TOLD by the authors' own Lean function (tested against real Go, not proved from fmt's source: count such statements apart). THE CARD IS WHAT COUNTS. Prove the row's statement (the work); the ties are given (YtlpgaekkhlinhaaGreatDoorTie.lean); close each card by the builder's one call (the guide's Derived/Test/ToyasCard.lean, 'card_holds'). Laid BY PROGRAM, IN A SANDBOX (cutbox-door.mjs). By AI agents, Wed Nov 11 2026. No macro, syntax, notation, axiom, sorry.
-/
import Derived.Test.YtlpgaekkhlinhaaGreatDoorRows
import GoSem.ClaimSeven
namespace Go.Proofs.YtlpgaekkhlinhaaGreatDoor
namespace Rows

/-- THE TIED CARD OF 'laws.FnExactReadCurve'. -/
def fnExactReadCurveCard : Claim7 := { stood := { row := fnExactReadCurveRow, standIns := [], harness := (true, "330eb6be1863d6309c77e33a9045d570e84e4b72efc1a3d567cdc8c425583a5b"), looks := true }, kinds := [], alts := [], laidByText := true, laidKinds := [.data, .data, .data, .data, .sentinel, .sentinel, .pinned], laidTests := true, laidLooks := .later }
def FnExactReadCurveCardSaid : Prop := Claim7.holds Tryz.pinned (.plain (OpenSpec.ofChange fnExactReadCurveSpec)) fnExactReadCurveCard

/-- THE TIED CARD OF 'laws.FnExactReadSheet'. -/
def fnExactReadSheetCard : Claim7 := { stood := { row := fnExactReadSheetRow, standIns := [], harness := (true, "330eb6be1863d6309c77e33a9045d570e84e4b72efc1a3d567cdc8c425583a5b"), looks := true }, kinds := [], alts := [], laidByText := true, laidKinds := [.data, .data, .data, .data, .sentinel, .sentinel, .pinned], laidTests := true, laidLooks := .later }
def FnExactReadSheetCardSaid : Prop := Claim7.holds Tryz.pinned (.plain (OpenSpec.ofChange fnExactReadSheetSpec)) fnExactReadSheetCard

/-- THE TIED CARD OF 'laws.FnExactReadSpline'. -/
def fnExactReadSplineCard : Claim7 := { stood := { row := fnExactReadSplineRow, standIns := [], harness := (true, "330eb6be1863d6309c77e33a9045d570e84e4b72efc1a3d567cdc8c425583a5b"), looks := true }, kinds := [], alts := [], laidByText := true, laidKinds := [.data, .data, .data, .data, .sentinel, .sentinel, .pinned], laidTests := true, laidLooks := .later }
def FnExactReadSplineCardSaid : Prop := Claim7.holds Tryz.pinned (.plain (OpenSpec.ofChange fnExactReadSplineSpec)) fnExactReadSplineCard

/-- THE SECOND FORM's CARD OF 'laws.FnExactReadCurve'. -/
def fnExactReadCurveUptoCard : Claim7 := { stood := { row := fnExactReadCurveUptoRow, standIns := [], harness := (true, "330eb6be1863d6309c77e33a9045d570e84e4b72efc1a3d567cdc8c425583a5b"), looks := true }, kinds := [], alts := [], laidByText := true, laidKinds := [.data, .data, .data, .data, .sentinel, .sentinel, .pinned], laidTests := true, laidLooks := .later }
def FnExactReadCurveUptoCardSaid : Prop := Claim7.holds Tryz.pinned (.plain (OpenSpec.upto fnExactReadCurveSpec)) fnExactReadCurveUptoCard

/-- THE SECOND FORM's CARD OF 'laws.FnExactReadSheet'. -/
def fnExactReadSheetUptoCard : Claim7 := { stood := { row := fnExactReadSheetUptoRow, standIns := [], harness := (true, "330eb6be1863d6309c77e33a9045d570e84e4b72efc1a3d567cdc8c425583a5b"), looks := true }, kinds := [], alts := [], laidByText := true, laidKinds := [.data, .data, .data, .data, .sentinel, .sentinel, .pinned], laidTests := true, laidLooks := .later }
def FnExactReadSheetUptoCardSaid : Prop := Claim7.holds Tryz.pinned (.plain (OpenSpec.upto fnExactReadSheetSpec)) fnExactReadSheetUptoCard

/-- THE SECOND FORM's CARD OF 'laws.FnExactReadSpline'. -/
def fnExactReadSplineUptoCard : Claim7 := { stood := { row := fnExactReadSplineUptoRow, standIns := [], harness := (true, "330eb6be1863d6309c77e33a9045d570e84e4b72efc1a3d567cdc8c425583a5b"), looks := true }, kinds := [], alts := [], laidByText := true, laidKinds := [.data, .data, .data, .data, .sentinel, .sentinel, .pinned], laidTests := true, laidLooks := .later }
def FnExactReadSplineUptoCardSaid : Prop := Claim7.holds Tryz.pinned (.plain (OpenSpec.upto fnExactReadSplineSpec)) fnExactReadSplineUptoCard
end Rows
end Go.Proofs.YtlpgaekkhlinhaaGreatDoor
