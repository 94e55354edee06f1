/-
  DERIVED. GIVEN WITH THE SEED: THE CARDS: each row of YtagnkcdhenilbaaGreatDoorRows.lean that lists a variable, with what it lists TIED to the program's text (the seventh form; the later family's looks); each row that meets fmt, with fmt's text TOLD by the authors' own Lean function (tested against real Go, not proved from fmt's source: count such statements apart). THE CARD IS WHAT COUNTS. Prove the row's statement (the work); the ties are given (YtagnkcdhenilbaaGreatDoorTie.lean); close each card by the builder's one call (the guide's Derived/Test/ToyasCard.lean, 'card_holds'). Laid BY PROGRAM, IN A SANDBOX (cutbox-door.mjs). By AI agents, Wed Nov 11 2026. No macro, syntax, notation, axiom, sorry.
-/
import Derived.Test.YtagnkcdhenilbaaGreatDoorRows
import GoSem.ClaimSeven
namespace Go.Proofs.YtagnkcdhenilbaaGreatDoor
namespace Rows

/-- THE TIED CARD OF 'hoarstonelaw07.SpaceChecks'. -/
def spaceChecksCard : Claim7 := { stood := { row := spaceChecksRow, standIns := [], harness := (true, "741236cc5b20ecf9231cd754c31f353a4db33778f57635b8c3d6120baba9e75f"), looks := false }, kinds := [], alts := [], laidByText := true, laidKinds := [.data, .data, .data, .pinned], laidTests := true, laidLooks := .later }
def SpaceChecksCardSaid : Prop := Claim7.holds Tryz.pinned (.plain (OpenSpec.ofChange spaceChecksSpec)) spaceChecksCard

/-- THE TIED CARD OF 'hoarstonelaw07.SpaceFinds'. -/
def spaceFindsCard : Claim7 := { stood := { row := spaceFindsRow, standIns := [], harness := (true, "741236cc5b20ecf9231cd754c31f353a4db33778f57635b8c3d6120baba9e75f"), looks := false }, kinds := [], alts := [], laidByText := true, laidKinds := [.data, .data, .data, .pinned], laidTests := true, laidLooks := .later }
def SpaceFindsCardSaid : Prop := Claim7.holds Tryz.pinned (.plain (OpenSpec.ofChange spaceFindsSpec)) spaceFindsCard

/-- THE TIED CARD OF 'hoarstonelaw07.SpaceNames'. -/
def spaceNamesCard : Claim7 := { stood := { row := spaceNamesRow, standIns := [], harness := (true, "741236cc5b20ecf9231cd754c31f353a4db33778f57635b8c3d6120baba9e75f"), looks := false }, kinds := [], alts := [], laidByText := true, laidKinds := [.data, .data, .data, .pinned], laidTests := true, laidLooks := .later }
def SpaceNamesCardSaid : Prop := Claim7.holds Tryz.pinned (.plain (OpenSpec.ofChange spaceNamesSpec)) spaceNamesCard

/-- THE TIED CARD OF 'hoarstonelaw07.SpaceParts'. -/
def spacePartsCard : Claim7 := { stood := { row := spacePartsRow, standIns := [], harness := (true, "741236cc5b20ecf9231cd754c31f353a4db33778f57635b8c3d6120baba9e75f"), looks := false }, kinds := [], alts := [], laidByText := true, laidKinds := [.data, .data, .data, .pinned], laidTests := true, laidLooks := .later }
def SpacePartsCardSaid : Prop := Claim7.holds Tryz.pinned (.plain (OpenSpec.ofChange spacePartsSpec)) spacePartsCard

/-- THE TIED CARD OF 'hoarstonelaw07.SpaceShortest'. -/
def spaceShortestCard : Claim7 := { stood := { row := spaceShortestRow, standIns := [], harness := (true, "741236cc5b20ecf9231cd754c31f353a4db33778f57635b8c3d6120baba9e75f"), looks := false }, kinds := [], alts := [], laidByText := true, laidKinds := [.data, .data, .data, .pinned], laidTests := true, laidLooks := .later }
def SpaceShortestCardSaid : Prop := Claim7.holds Tryz.pinned (.plain (OpenSpec.ofChange spaceShortestSpec)) spaceShortestCard

/-- THE TIED CARD OF 'hoarstonelaw07.SpacePlaces'. -/
def spacePlacesCard : Claim7 := { stood := { row := spacePlacesRow, standIns := [], harness := (true, "741236cc5b20ecf9231cd754c31f353a4db33778f57635b8c3d6120baba9e75f"), looks := false }, kinds := [], alts := [], laidByText := true, laidKinds := [.data, .data, .data, .pinned], laidTests := true, laidLooks := .later }
def SpacePlacesCardSaid : Prop := Claim7.holds Tryz.pinned (.plain (OpenSpec.ofChange spacePlacesSpec)) spacePlacesCard

/-- THE TIED CARD OF 'hoarstonelaw07.SpaceEdits'. -/
def spaceEditsCard : Claim7 := { stood := { row := spaceEditsRow, standIns := [], harness := (true, "741236cc5b20ecf9231cd754c31f353a4db33778f57635b8c3d6120baba9e75f"), looks := false }, kinds := [], alts := [], laidByText := true, laidKinds := [.data, .data, .data, .pinned], laidTests := true, laidLooks := .later }
def SpaceEditsCardSaid : Prop := Claim7.holds Tryz.pinned (.plain (OpenSpec.ofChange spaceEditsSpec)) spaceEditsCard

/-- THE TIED CARD OF 'hoarstonelaw07.SpaceCommits'. -/
def spaceCommitsCard : Claim7 := { stood := { row := spaceCommitsRow, standIns := [], harness := (true, "741236cc5b20ecf9231cd754c31f353a4db33778f57635b8c3d6120baba9e75f"), looks := false }, kinds := [], alts := [], laidByText := true, laidKinds := [.data, .data, .data, .pinned], laidTests := true, laidLooks := .later }
def SpaceCommitsCardSaid : Prop := Claim7.holds Tryz.pinned (.plain (OpenSpec.ofChange spaceCommitsSpec)) spaceCommitsCard

/-- THE TIED CARD OF 'hoarstonelaw07.SpaceBases'. -/
def spaceBasesCard : Claim7 := { stood := { row := spaceBasesRow, standIns := [], harness := (true, "741236cc5b20ecf9231cd754c31f353a4db33778f57635b8c3d6120baba9e75f"), looks := false }, kinds := [], alts := [], laidByText := true, laidKinds := [.data, .data, .data, .pinned], laidTests := true, laidLooks := .later }
def SpaceBasesCardSaid : Prop := Claim7.holds Tryz.pinned (.plain (OpenSpec.ofChange spaceBasesSpec)) spaceBasesCard

/-- THE TIED CARD OF 'hoarstonelaw07.SpaceMoves'. -/
def spaceMovesCard : Claim7 := { stood := { row := spaceMovesRow, standIns := [], harness := (true, "741236cc5b20ecf9231cd754c31f353a4db33778f57635b8c3d6120baba9e75f"), looks := false }, kinds := [], alts := [], laidByText := true, laidKinds := [.data, .data, .data, .pinned], laidTests := true, laidLooks := .later }
def SpaceMovesCardSaid : Prop := Claim7.holds Tryz.pinned (.plain (OpenSpec.ofChange spaceMovesSpec)) spaceMovesCard

/-- THE TIED CARD OF 'hoarstonelaw07.SpaceApplies'. -/
def spaceAppliesCard : Claim7 := { stood := { row := spaceAppliesRow, standIns := [], harness := (true, "741236cc5b20ecf9231cd754c31f353a4db33778f57635b8c3d6120baba9e75f"), looks := false }, kinds := [], alts := [], laidByText := true, laidKinds := [.data, .data, .data, .pinned], laidTests := true, laidLooks := .later }
def SpaceAppliesCardSaid : Prop := Claim7.holds Tryz.pinned (.plain (OpenSpec.ofChange spaceAppliesSpec)) spaceAppliesCard

/-- THE SECOND FORM's CARD OF 'hoarstonelaw07.SpaceChecks'. -/
def spaceChecksUptoCard : Claim7 := { stood := { row := spaceChecksUptoRow, standIns := [], harness := (true, "741236cc5b20ecf9231cd754c31f353a4db33778f57635b8c3d6120baba9e75f"), looks := false }, kinds := [], alts := [], laidByText := true, laidKinds := [.data, .data, .data, .pinned], laidTests := true, laidLooks := .later }
def SpaceChecksUptoCardSaid : Prop := Claim7.holds Tryz.pinned (.plain (OpenSpec.upto spaceChecksSpec)) spaceChecksUptoCard

/-- THE SECOND FORM's CARD OF 'hoarstonelaw07.SpaceFinds'. -/
def spaceFindsUptoCard : Claim7 := { stood := { row := spaceFindsUptoRow, standIns := [], harness := (true, "741236cc5b20ecf9231cd754c31f353a4db33778f57635b8c3d6120baba9e75f"), looks := false }, kinds := [], alts := [], laidByText := true, laidKinds := [.data, .data, .data, .pinned], laidTests := true, laidLooks := .later }
def SpaceFindsUptoCardSaid : Prop := Claim7.holds Tryz.pinned (.plain (OpenSpec.upto spaceFindsSpec)) spaceFindsUptoCard

/-- THE SECOND FORM's CARD OF 'hoarstonelaw07.SpaceNames'. -/
def spaceNamesUptoCard : Claim7 := { stood := { row := spaceNamesUptoRow, standIns := [], harness := (true, "741236cc5b20ecf9231cd754c31f353a4db33778f57635b8c3d6120baba9e75f"), looks := false }, kinds := [], alts := [], laidByText := true, laidKinds := [.data, .data, .data, .pinned], laidTests := true, laidLooks := .later }
def SpaceNamesUptoCardSaid : Prop := Claim7.holds Tryz.pinned (.plain (OpenSpec.upto spaceNamesSpec)) spaceNamesUptoCard

/-- THE SECOND FORM's CARD OF 'hoarstonelaw07.SpaceParts'. -/
def spacePartsUptoCard : Claim7 := { stood := { row := spacePartsUptoRow, standIns := [], harness := (true, "741236cc5b20ecf9231cd754c31f353a4db33778f57635b8c3d6120baba9e75f"), looks := false }, kinds := [], alts := [], laidByText := true, laidKinds := [.data, .data, .data, .pinned], laidTests := true, laidLooks := .later }
def SpacePartsUptoCardSaid : Prop := Claim7.holds Tryz.pinned (.plain (OpenSpec.upto spacePartsSpec)) spacePartsUptoCard

/-- THE SECOND FORM's CARD OF 'hoarstonelaw07.SpaceShortest'. -/
def spaceShortestUptoCard : Claim7 := { stood := { row := spaceShortestUptoRow, standIns := [], harness := (true, "741236cc5b20ecf9231cd754c31f353a4db33778f57635b8c3d6120baba9e75f"), looks := false }, kinds := [], alts := [], laidByText := true, laidKinds := [.data, .data, .data, .pinned], laidTests := true, laidLooks := .later }
def SpaceShortestUptoCardSaid : Prop := Claim7.holds Tryz.pinned (.plain (OpenSpec.upto spaceShortestSpec)) spaceShortestUptoCard

/-- THE SECOND FORM's CARD OF 'hoarstonelaw07.SpacePlaces'. -/
def spacePlacesUptoCard : Claim7 := { stood := { row := spacePlacesUptoRow, standIns := [], harness := (true, "741236cc5b20ecf9231cd754c31f353a4db33778f57635b8c3d6120baba9e75f"), looks := false }, kinds := [], alts := [], laidByText := true, laidKinds := [.data, .data, .data, .pinned], laidTests := true, laidLooks := .later }
def SpacePlacesUptoCardSaid : Prop := Claim7.holds Tryz.pinned (.plain (OpenSpec.upto spacePlacesSpec)) spacePlacesUptoCard

/-- THE SECOND FORM's CARD OF 'hoarstonelaw07.SpaceEdits'. -/
def spaceEditsUptoCard : Claim7 := { stood := { row := spaceEditsUptoRow, standIns := [], harness := (true, "741236cc5b20ecf9231cd754c31f353a4db33778f57635b8c3d6120baba9e75f"), looks := false }, kinds := [], alts := [], laidByText := true, laidKinds := [.data, .data, .data, .pinned], laidTests := true, laidLooks := .later }
def SpaceEditsUptoCardSaid : Prop := Claim7.holds Tryz.pinned (.plain (OpenSpec.upto spaceEditsSpec)) spaceEditsUptoCard

/-- THE SECOND FORM's CARD OF 'hoarstonelaw07.SpaceCommits'. -/
def spaceCommitsUptoCard : Claim7 := { stood := { row := spaceCommitsUptoRow, standIns := [], harness := (true, "741236cc5b20ecf9231cd754c31f353a4db33778f57635b8c3d6120baba9e75f"), looks := false }, kinds := [], alts := [], laidByText := true, laidKinds := [.data, .data, .data, .pinned], laidTests := true, laidLooks := .later }
def SpaceCommitsUptoCardSaid : Prop := Claim7.holds Tryz.pinned (.plain (OpenSpec.upto spaceCommitsSpec)) spaceCommitsUptoCard

/-- THE SECOND FORM's CARD OF 'hoarstonelaw07.SpaceBases'. -/
def spaceBasesUptoCard : Claim7 := { stood := { row := spaceBasesUptoRow, standIns := [], harness := (true, "741236cc5b20ecf9231cd754c31f353a4db33778f57635b8c3d6120baba9e75f"), looks := false }, kinds := [], alts := [], laidByText := true, laidKinds := [.data, .data, .data, .pinned], laidTests := true, laidLooks := .later }
def SpaceBasesUptoCardSaid : Prop := Claim7.holds Tryz.pinned (.plain (OpenSpec.upto spaceBasesSpec)) spaceBasesUptoCard

/-- THE SECOND FORM's CARD OF 'hoarstonelaw07.SpaceMoves'. -/
def spaceMovesUptoCard : Claim7 := { stood := { row := spaceMovesUptoRow, standIns := [], harness := (true, "741236cc5b20ecf9231cd754c31f353a4db33778f57635b8c3d6120baba9e75f"), looks := false }, kinds := [], alts := [], laidByText := true, laidKinds := [.data, .data, .data, .pinned], laidTests := true, laidLooks := .later }
def SpaceMovesUptoCardSaid : Prop := Claim7.holds Tryz.pinned (.plain (OpenSpec.upto spaceMovesSpec)) spaceMovesUptoCard

/-- THE SECOND FORM's CARD OF 'hoarstonelaw07.SpaceApplies'. -/
def spaceAppliesUptoCard : Claim7 := { stood := { row := spaceAppliesUptoRow, standIns := [], harness := (true, "741236cc5b20ecf9231cd754c31f353a4db33778f57635b8c3d6120baba9e75f"), looks := false }, kinds := [], alts := [], laidByText := true, laidKinds := [.data, .data, .data, .pinned], laidTests := true, laidLooks := .later }
def SpaceAppliesUptoCardSaid : Prop := Claim7.holds Tryz.pinned (.plain (OpenSpec.upto spaceAppliesSpec)) spaceAppliesUptoCard
end Rows
end Go.Proofs.YtagnkcdhenilbaaGreatDoor
