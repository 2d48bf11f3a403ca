/-
  DERIVED. GIVEN WITH THE SEED: THE CARDS: each row of YtbaekjnfijmakaaGreatDoorRows.lean that lists a variable, with what it lists TIED to the program's text (the seventh form; the later family's looks); each row that meets fmt, with fmt's text TOLD by the authors' own Lean function (tested against real Go, not proved from fmt's source: count such statements apart). THE CARD IS WHAT COUNTS. Prove the row's statement (the work); the ties are given (YtbaekjnfijmakaaGreatDoorTie.lean); close each card by the builder's one call (the guide's Derived/Test/ToyasCard.lean, 'card_holds'). Laid BY PROGRAM, IN A SANDBOX (cutbox-door.mjs). By AI agents, Wed Nov 11 2026. No macro, syntax, notation, axiom, sorry.
-/
import Derived.Test.YtbaekjnfijmakaaGreatDoorRows
import GoSem.ClaimSeven
namespace Go.Proofs.YtbaekjnfijmakaaGreatDoor
namespace Rows

/-- THE TIED CARD OF 'laws.FnFitsCall'. -/
def fnFitsCallCard : Claim7 := { stood := { row := fnFitsCallRow, standIns := [], harness := (true, "92d0d1b3f3d777785ac0902a7a2985ee4b3ffff5e50d5cb5fae5d8aeb4a02e91"), looks := false }, kinds := [], alts := [], laidByText := true, laidKinds := [.data, .pinned], laidTests := true, laidLooks := .later }
def FnFitsCallCardSaid : Prop := Claim7.holds Tryz.pinned (.plain (OpenSpec.ofChange fnFitsCallSpec)) fnFitsCallCard

/-- THE TIED CARD OF 'laws.FnExactFits'. -/
def fnExactFitsCard : Claim7 := { stood := { row := fnExactFitsRow, standIns := [], harness := (true, "92d0d1b3f3d777785ac0902a7a2985ee4b3ffff5e50d5cb5fae5d8aeb4a02e91"), looks := false }, kinds := [], alts := [], laidByText := true, laidKinds := [.data, .pinned], laidTests := true, laidLooks := .later }
def FnExactFitsCardSaid : Prop := Claim7.holds Tryz.pinned (.plain (OpenSpec.ofChange fnExactFitsSpec)) fnExactFitsCard

/-- THE TIED CARD OF 'laws.FnExactSameShapes'. -/
def fnExactSameShapesCard : Claim7 := { stood := { row := fnExactSameShapesRow, standIns := [], harness := (true, "92d0d1b3f3d777785ac0902a7a2985ee4b3ffff5e50d5cb5fae5d8aeb4a02e91"), looks := false }, kinds := [], alts := [], laidByText := true, laidKinds := [.data, .pinned], laidTests := true, laidLooks := .later }
def FnExactSameShapesCardSaid : Prop := Claim7.holds Tryz.pinned (.plain (OpenSpec.ofChange fnExactSameShapesSpec)) fnExactSameShapesCard

/-- THE TIED CARD OF 'laws.FnFirstRefusedLeast'. -/
def fnFirstRefusedLeastCard : Claim7 := { stood := { row := fnFirstRefusedLeastRow, standIns := [], harness := (true, "92d0d1b3f3d777785ac0902a7a2985ee4b3ffff5e50d5cb5fae5d8aeb4a02e91"), looks := false }, kinds := [], alts := [], laidByText := true, laidKinds := [.data, .pinned], laidTests := true, laidLooks := .later }
def FnFirstRefusedLeastCardSaid : Prop := Claim7.holds Tryz.pinned (.plain (OpenSpec.ofChange fnFirstRefusedLeastSpec)) fnFirstRefusedLeastCard

/-- THE TIED CARD OF 'laws.FnFirstRefused'. -/
def fnFirstRefusedCard : Claim7 := { stood := { row := fnFirstRefusedRow, standIns := [], harness := (true, "92d0d1b3f3d777785ac0902a7a2985ee4b3ffff5e50d5cb5fae5d8aeb4a02e91"), looks := false }, kinds := [], alts := [], laidByText := true, laidKinds := [.data, .pinned], laidTests := true, laidLooks := .later }
def FnFirstRefusedCardSaid : Prop := Claim7.holds Tryz.pinned (.plain (OpenSpec.ofChange fnFirstRefusedSpec)) fnFirstRefusedCard

/-- THE TIED CARD OF 'laws.FnFits'. -/
def fnFitsCard : Claim7 := { stood := { row := fnFitsRow, standIns := [], harness := (true, "92d0d1b3f3d777785ac0902a7a2985ee4b3ffff5e50d5cb5fae5d8aeb4a02e91"), looks := false }, kinds := [], alts := [], laidByText := true, laidKinds := [.data, .pinned], laidTests := true, laidLooks := .later }
def FnFitsCardSaid : Prop := Claim7.holds Tryz.pinned (.plain (OpenSpec.ofChange fnFitsSpec)) fnFitsCard

/-- THE TIED CARD OF 'laws.FnExactShadowOf'. -/
def fnExactShadowOfCard : Claim7 := { stood := { row := fnExactShadowOfRow, standIns := [], harness := (true, "92d0d1b3f3d777785ac0902a7a2985ee4b3ffff5e50d5cb5fae5d8aeb4a02e91"), looks := false }, kinds := [], alts := [], laidByText := true, laidKinds := [.data, .pinned], laidTests := true, laidLooks := .later }
def FnExactShadowOfCardSaid : Prop := Claim7.holds Tryz.pinned (.plain (OpenSpec.ofChange fnExactShadowOfSpec)) fnExactShadowOfCard

/-- THE TIED CARD OF 'laws.FnFitsTurned'. -/
def fnFitsTurnedCard : Claim7 := { stood := { row := fnFitsTurnedRow, standIns := [], harness := (true, "92d0d1b3f3d777785ac0902a7a2985ee4b3ffff5e50d5cb5fae5d8aeb4a02e91"), looks := false }, kinds := [], alts := [], laidByText := true, laidKinds := [.data, .pinned], laidTests := true, laidLooks := .later }
def FnFitsTurnedCardSaid : Prop := Claim7.holds Tryz.pinned (.plain (OpenSpec.ofChange fnFitsTurnedSpec)) fnFitsTurnedCard

/-- THE TIED CARD OF 'laws.FnSameShapes'. -/
def fnSameShapesCard : Claim7 := { stood := { row := fnSameShapesRow, standIns := [], harness := (true, "92d0d1b3f3d777785ac0902a7a2985ee4b3ffff5e50d5cb5fae5d8aeb4a02e91"), looks := false }, kinds := [], alts := [], laidByText := true, laidKinds := [.data, .pinned], laidTests := true, laidLooks := .later }
def FnSameShapesCardSaid : Prop := Claim7.holds Tryz.pinned (.plain (OpenSpec.ofChange fnSameShapesSpec)) fnSameShapesCard

/-- THE TIED CARD OF 'laws.FnExactFirstRefused'. -/
def fnExactFirstRefusedCard : Claim7 := { stood := { row := fnExactFirstRefusedRow, standIns := [], harness := (true, "92d0d1b3f3d777785ac0902a7a2985ee4b3ffff5e50d5cb5fae5d8aeb4a02e91"), looks := false }, kinds := [], alts := [], laidByText := true, laidKinds := [.data, .pinned], laidTests := true, laidLooks := .later }
def FnExactFirstRefusedCardSaid : Prop := Claim7.holds Tryz.pinned (.plain (OpenSpec.ofChange fnExactFirstRefusedSpec)) fnExactFirstRefusedCard

/-- THE TIED CARD OF 'laws.FnShadowOf'. -/
def fnShadowOfCard : Claim7 := { stood := { row := fnShadowOfRow, standIns := [], harness := (true, "92d0d1b3f3d777785ac0902a7a2985ee4b3ffff5e50d5cb5fae5d8aeb4a02e91"), looks := false }, kinds := [], alts := [], laidByText := true, laidKinds := [.data, .pinned], laidTests := true, laidLooks := .later }
def FnShadowOfCardSaid : Prop := Claim7.holds Tryz.pinned (.plain (OpenSpec.ofChange fnShadowOfSpec)) fnShadowOfCard

/-- THE SECOND FORM's CARD OF 'laws.FnFitsCall'. -/
def fnFitsCallUptoCard : Claim7 := { stood := { row := fnFitsCallUptoRow, standIns := [], harness := (true, "92d0d1b3f3d777785ac0902a7a2985ee4b3ffff5e50d5cb5fae5d8aeb4a02e91"), looks := false }, kinds := [], alts := [], laidByText := true, laidKinds := [.data, .pinned], laidTests := true, laidLooks := .later }
def FnFitsCallUptoCardSaid : Prop := Claim7.holds Tryz.pinned (.plain (OpenSpec.upto fnFitsCallSpec)) fnFitsCallUptoCard

/-- THE SECOND FORM's CARD OF 'laws.FnExactFits'. -/
def fnExactFitsUptoCard : Claim7 := { stood := { row := fnExactFitsUptoRow, standIns := [], harness := (true, "92d0d1b3f3d777785ac0902a7a2985ee4b3ffff5e50d5cb5fae5d8aeb4a02e91"), looks := false }, kinds := [], alts := [], laidByText := true, laidKinds := [.data, .pinned], laidTests := true, laidLooks := .later }
def FnExactFitsUptoCardSaid : Prop := Claim7.holds Tryz.pinned (.plain (OpenSpec.upto fnExactFitsSpec)) fnExactFitsUptoCard

/-- THE SECOND FORM's CARD OF 'laws.FnExactSameShapes'. -/
def fnExactSameShapesUptoCard : Claim7 := { stood := { row := fnExactSameShapesUptoRow, standIns := [], harness := (true, "92d0d1b3f3d777785ac0902a7a2985ee4b3ffff5e50d5cb5fae5d8aeb4a02e91"), looks := false }, kinds := [], alts := [], laidByText := true, laidKinds := [.data, .pinned], laidTests := true, laidLooks := .later }
def FnExactSameShapesUptoCardSaid : Prop := Claim7.holds Tryz.pinned (.plain (OpenSpec.upto fnExactSameShapesSpec)) fnExactSameShapesUptoCard

/-- THE SECOND FORM's CARD OF 'laws.FnFirstRefusedLeast'. -/
def fnFirstRefusedLeastUptoCard : Claim7 := { stood := { row := fnFirstRefusedLeastUptoRow, standIns := [], harness := (true, "92d0d1b3f3d777785ac0902a7a2985ee4b3ffff5e50d5cb5fae5d8aeb4a02e91"), looks := false }, kinds := [], alts := [], laidByText := true, laidKinds := [.data, .pinned], laidTests := true, laidLooks := .later }
def FnFirstRefusedLeastUptoCardSaid : Prop := Claim7.holds Tryz.pinned (.plain (OpenSpec.upto fnFirstRefusedLeastSpec)) fnFirstRefusedLeastUptoCard

/-- THE SECOND FORM's CARD OF 'laws.FnFirstRefused'. -/
def fnFirstRefusedUptoCard : Claim7 := { stood := { row := fnFirstRefusedUptoRow, standIns := [], harness := (true, "92d0d1b3f3d777785ac0902a7a2985ee4b3ffff5e50d5cb5fae5d8aeb4a02e91"), looks := false }, kinds := [], alts := [], laidByText := true, laidKinds := [.data, .pinned], laidTests := true, laidLooks := .later }
def FnFirstRefusedUptoCardSaid : Prop := Claim7.holds Tryz.pinned (.plain (OpenSpec.upto fnFirstRefusedSpec)) fnFirstRefusedUptoCard

/-- THE SECOND FORM's CARD OF 'laws.FnFits'. -/
def fnFitsUptoCard : Claim7 := { stood := { row := fnFitsUptoRow, standIns := [], harness := (true, "92d0d1b3f3d777785ac0902a7a2985ee4b3ffff5e50d5cb5fae5d8aeb4a02e91"), looks := false }, kinds := [], alts := [], laidByText := true, laidKinds := [.data, .pinned], laidTests := true, laidLooks := .later }
def FnFitsUptoCardSaid : Prop := Claim7.holds Tryz.pinned (.plain (OpenSpec.upto fnFitsSpec)) fnFitsUptoCard

/-- THE SECOND FORM's CARD OF 'laws.FnExactShadowOf'. -/
def fnExactShadowOfUptoCard : Claim7 := { stood := { row := fnExactShadowOfUptoRow, standIns := [], harness := (true, "92d0d1b3f3d777785ac0902a7a2985ee4b3ffff5e50d5cb5fae5d8aeb4a02e91"), looks := false }, kinds := [], alts := [], laidByText := true, laidKinds := [.data, .pinned], laidTests := true, laidLooks := .later }
def FnExactShadowOfUptoCardSaid : Prop := Claim7.holds Tryz.pinned (.plain (OpenSpec.upto fnExactShadowOfSpec)) fnExactShadowOfUptoCard

/-- THE SECOND FORM's CARD OF 'laws.FnFitsTurned'. -/
def fnFitsTurnedUptoCard : Claim7 := { stood := { row := fnFitsTurnedUptoRow, standIns := [], harness := (true, "92d0d1b3f3d777785ac0902a7a2985ee4b3ffff5e50d5cb5fae5d8aeb4a02e91"), looks := false }, kinds := [], alts := [], laidByText := true, laidKinds := [.data, .pinned], laidTests := true, laidLooks := .later }
def FnFitsTurnedUptoCardSaid : Prop := Claim7.holds Tryz.pinned (.plain (OpenSpec.upto fnFitsTurnedSpec)) fnFitsTurnedUptoCard

/-- THE SECOND FORM's CARD OF 'laws.FnSameShapes'. -/
def fnSameShapesUptoCard : Claim7 := { stood := { row := fnSameShapesUptoRow, standIns := [], harness := (true, "92d0d1b3f3d777785ac0902a7a2985ee4b3ffff5e50d5cb5fae5d8aeb4a02e91"), looks := false }, kinds := [], alts := [], laidByText := true, laidKinds := [.data, .pinned], laidTests := true, laidLooks := .later }
def FnSameShapesUptoCardSaid : Prop := Claim7.holds Tryz.pinned (.plain (OpenSpec.upto fnSameShapesSpec)) fnSameShapesUptoCard

/-- THE SECOND FORM's CARD OF 'laws.FnExactFirstRefused'. -/
def fnExactFirstRefusedUptoCard : Claim7 := { stood := { row := fnExactFirstRefusedUptoRow, standIns := [], harness := (true, "92d0d1b3f3d777785ac0902a7a2985ee4b3ffff5e50d5cb5fae5d8aeb4a02e91"), looks := false }, kinds := [], alts := [], laidByText := true, laidKinds := [.data, .pinned], laidTests := true, laidLooks := .later }
def FnExactFirstRefusedUptoCardSaid : Prop := Claim7.holds Tryz.pinned (.plain (OpenSpec.upto fnExactFirstRefusedSpec)) fnExactFirstRefusedUptoCard

/-- THE SECOND FORM's CARD OF 'laws.FnShadowOf'. -/
def fnShadowOfUptoCard : Claim7 := { stood := { row := fnShadowOfUptoRow, standIns := [], harness := (true, "92d0d1b3f3d777785ac0902a7a2985ee4b3ffff5e50d5cb5fae5d8aeb4a02e91"), looks := false }, kinds := [], alts := [], laidByText := true, laidKinds := [.data, .pinned], laidTests := true, laidLooks := .later }
def FnShadowOfUptoCardSaid : Prop := Claim7.holds Tryz.pinned (.plain (OpenSpec.upto fnShadowOfSpec)) fnShadowOfUptoCard
end Rows
end Go.Proofs.YtbaekjnfijmakaaGreatDoor
