/-
  DERIVED. GIVEN WITH THE SEED: THE CARDS: each row of YtbfjmimiigjenaaGreatDoorRows.lean that lists a variable, with what it lists TIED to the program's text (the seventh form; the later family's looks); each row that meets fmt, with fmt's text TOLD by the authors' own Lean function (tested against real Go, not proved from fmt's source: count such statements apart). THE CARD IS WHAT COUNTS. Prove the row's statement (the work); the ties are given (YtbfjmimiigjenaaGreatDoorTie.lean); close each card by the builder's one call (the guide's Derived/Test/ToyasCard.lean, 'card_holds'). Laid BY PROGRAM, IN A SANDBOX (cutbox-door.mjs). By AI agents, Wed Nov 11 2026. No macro, syntax, notation, axiom, sorry.
-/
import Derived.Test.YtbfjmimiigjenaaGreatDoorRows
import GoSem.ClaimSeven
namespace Go.Proofs.YtbfjmimiigjenaaGreatDoor
namespace Rows

/-- THE TIED CARD OF 'hoarstonelaw03.TrieShape'. -/
def trieShapeCard : Claim7 := { stood := { row := trieShapeRow, standIns := [], harness := (true, "b1785478c5c956bf6fa4dcafa57b1e57ff12581b99249b9e8a75bf556b3299e2"), looks := false }, kinds := [], alts := [], laidByText := true, laidKinds := [.data, .data, .sentinel], laidTests := true, laidLooks := .later }
def TrieShapeCardSaid : Prop := Claim7.holds Tryz.pinned (.plain (OpenSpec.ofChange trieShapeSpec)) trieShapeCard

/-- THE TIED CARD OF 'hoarstonelaw03.TrieTogether'. -/
def trieTogetherCard : Claim7 := { stood := { row := trieTogetherRow, standIns := [], harness := (true, "b1785478c5c956bf6fa4dcafa57b1e57ff12581b99249b9e8a75bf556b3299e2"), looks := false }, kinds := [], alts := [], laidByText := true, laidKinds := [.data, .data, .sentinel], laidTests := true, laidLooks := .later }
def TrieTogetherCardSaid : Prop := Claim7.holds Tryz.pinned (.plain (OpenSpec.ofChange trieTogetherSpec)) trieTogetherCard

/-- THE TIED CARD OF 'hoarstonelaw03.TrieVerifies'. -/
def trieVerifiesCard : Claim7 := { stood := { row := trieVerifiesRow, standIns := [], harness := (true, "b1785478c5c956bf6fa4dcafa57b1e57ff12581b99249b9e8a75bf556b3299e2"), looks := false }, kinds := [], alts := [], laidByText := true, laidKinds := [.data, .data, .sentinel], laidTests := true, laidLooks := .later }
def TrieVerifiesCardSaid : Prop := Claim7.holds Tryz.pinned (.plain (OpenSpec.ofChange trieVerifiesSpec)) trieVerifiesCard

/-- THE TIED CARD OF 'hoarstonelaw03.TrieReads'. -/
def trieReadsCard : Claim7 := { stood := { row := trieReadsRow, standIns := [], harness := (true, "b1785478c5c956bf6fa4dcafa57b1e57ff12581b99249b9e8a75bf556b3299e2"), looks := false }, kinds := [], alts := [], laidByText := true, laidKinds := [.data, .data, .sentinel], laidTests := true, laidLooks := .later }
def TrieReadsCardSaid : Prop := Claim7.holds Tryz.pinned (.plain (OpenSpec.ofChange trieReadsSpec)) trieReadsCard

/-- THE TIED CARD OF 'hoarstonelaw03.TrieRoots'. -/
def trieRootsCard : Claim7 := { stood := { row := trieRootsRow, standIns := [], harness := (true, "b1785478c5c956bf6fa4dcafa57b1e57ff12581b99249b9e8a75bf556b3299e2"), looks := false }, kinds := [], alts := [], laidByText := true, laidKinds := [.data, .data, .sentinel], laidTests := true, laidLooks := .later }
def TrieRootsCardSaid : Prop := Claim7.holds Tryz.pinned (.plain (OpenSpec.ofChange trieRootsSpec)) trieRootsCard

/-- THE TIED CARD OF 'hoarstonelaw03.TrieDiffs'. -/
def trieDiffsCard : Claim7 := { stood := { row := trieDiffsRow, standIns := [], harness := (true, "b1785478c5c956bf6fa4dcafa57b1e57ff12581b99249b9e8a75bf556b3299e2"), looks := false }, kinds := [], alts := [], laidByText := true, laidKinds := [.data, .data, .sentinel], laidTests := true, laidLooks := .later }
def TrieDiffsCardSaid : Prop := Claim7.holds Tryz.pinned (.plain (OpenSpec.ofChange trieDiffsSpec)) trieDiffsCard

/-- THE TIED CARD OF 'hoarstonelaw03.TrieMaps'. -/
def trieMapsCard : Claim7 := { stood := { row := trieMapsRow, standIns := [], harness := (true, "b1785478c5c956bf6fa4dcafa57b1e57ff12581b99249b9e8a75bf556b3299e2"), looks := false }, kinds := [], alts := [], laidByText := true, laidKinds := [.data, .data, .sentinel], laidTests := true, laidLooks := .later }
def TrieMapsCardSaid : Prop := Claim7.holds Tryz.pinned (.plain (OpenSpec.ofChange trieMapsSpec)) trieMapsCard

/-- THE TIED CARD OF 'hoarstonelaw03.TrieParts'. -/
def triePartsCard : Claim7 := { stood := { row := triePartsRow, standIns := [], harness := (true, "b1785478c5c956bf6fa4dcafa57b1e57ff12581b99249b9e8a75bf556b3299e2"), looks := false }, kinds := [], alts := [], laidByText := true, laidKinds := [.data, .data, .sentinel], laidTests := true, laidLooks := .later }
def TriePartsCardSaid : Prop := Claim7.holds Tryz.pinned (.plain (OpenSpec.ofChange triePartsSpec)) triePartsCard

/-- THE TIED CARD OF 'hoarstonelaw03.TrieApplies'. -/
def trieAppliesCard : Claim7 := { stood := { row := trieAppliesRow, standIns := [], harness := (true, "b1785478c5c956bf6fa4dcafa57b1e57ff12581b99249b9e8a75bf556b3299e2"), looks := false }, kinds := [], alts := [], laidByText := true, laidKinds := [.data, .data, .sentinel], laidTests := true, laidLooks := .later }
def TrieAppliesCardSaid : Prop := Claim7.holds Tryz.pinned (.plain (OpenSpec.ofChange trieAppliesSpec)) trieAppliesCard

/-- THE TIED CARD OF 'hoarstonelaw03.TrieDecodes'. -/
def trieDecodesCard : Claim7 := { stood := { row := trieDecodesRow, standIns := [], harness := (true, "b1785478c5c956bf6fa4dcafa57b1e57ff12581b99249b9e8a75bf556b3299e2"), looks := false }, kinds := [], alts := [], laidByText := true, laidKinds := [.data, .data, .sentinel], laidTests := true, laidLooks := .later }
def TrieDecodesCardSaid : Prop := Claim7.holds Tryz.pinned (.plain (OpenSpec.ofChange trieDecodesSpec)) trieDecodesCard

/-- THE TIED CARD OF 'hoarstonelaw03.TrieBinds'. -/
def trieBindsCard : Claim7 := { stood := { row := trieBindsRow, standIns := [], harness := (true, "b1785478c5c956bf6fa4dcafa57b1e57ff12581b99249b9e8a75bf556b3299e2"), looks := false }, kinds := [], alts := [], laidByText := true, laidKinds := [.data, .data, .sentinel], laidTests := true, laidLooks := .later }
def TrieBindsCardSaid : Prop := Claim7.holds Tryz.pinned (.plain (OpenSpec.ofChange trieBindsSpec)) trieBindsCard

/-- THE TIED CARD OF 'hoarstonelaw07.SpaceRoots'. -/
def spaceRootsCard : Claim7 := { stood := { row := spaceRootsRow, standIns := [], harness := (true, "b1785478c5c956bf6fa4dcafa57b1e57ff12581b99249b9e8a75bf556b3299e2"), looks := false }, kinds := [], alts := [], laidByText := true, laidKinds := [.data, .data, .data, .sentinel, .pinned], laidTests := true, laidLooks := .later }
def SpaceRootsCardSaid : Prop := Claim7.holds Tryz.pinned (.plain (OpenSpec.ofChange spaceRootsSpec)) spaceRootsCard

/-- THE SECOND FORM's CARD OF 'hoarstonelaw03.TrieShape'. -/
def trieShapeUptoCard : Claim7 := { stood := { row := trieShapeUptoRow, standIns := [], harness := (true, "b1785478c5c956bf6fa4dcafa57b1e57ff12581b99249b9e8a75bf556b3299e2"), looks := false }, kinds := [], alts := [], laidByText := true, laidKinds := [.data, .data, .sentinel], laidTests := true, laidLooks := .later }
def TrieShapeUptoCardSaid : Prop := Claim7.holds Tryz.pinned (.plain (OpenSpec.upto trieShapeSpec)) trieShapeUptoCard

/-- THE SECOND FORM's CARD OF 'hoarstonelaw03.TrieTogether'. -/
def trieTogetherUptoCard : Claim7 := { stood := { row := trieTogetherUptoRow, standIns := [], harness := (true, "b1785478c5c956bf6fa4dcafa57b1e57ff12581b99249b9e8a75bf556b3299e2"), looks := false }, kinds := [], alts := [], laidByText := true, laidKinds := [.data, .data, .sentinel], laidTests := true, laidLooks := .later }
def TrieTogetherUptoCardSaid : Prop := Claim7.holds Tryz.pinned (.plain (OpenSpec.upto trieTogetherSpec)) trieTogetherUptoCard

/-- THE SECOND FORM's CARD OF 'hoarstonelaw03.TrieVerifies'. -/
def trieVerifiesUptoCard : Claim7 := { stood := { row := trieVerifiesUptoRow, standIns := [], harness := (true, "b1785478c5c956bf6fa4dcafa57b1e57ff12581b99249b9e8a75bf556b3299e2"), looks := false }, kinds := [], alts := [], laidByText := true, laidKinds := [.data, .data, .sentinel], laidTests := true, laidLooks := .later }
def TrieVerifiesUptoCardSaid : Prop := Claim7.holds Tryz.pinned (.plain (OpenSpec.upto trieVerifiesSpec)) trieVerifiesUptoCard

/-- THE SECOND FORM's CARD OF 'hoarstonelaw03.TrieReads'. -/
def trieReadsUptoCard : Claim7 := { stood := { row := trieReadsUptoRow, standIns := [], harness := (true, "b1785478c5c956bf6fa4dcafa57b1e57ff12581b99249b9e8a75bf556b3299e2"), looks := false }, kinds := [], alts := [], laidByText := true, laidKinds := [.data, .data, .sentinel], laidTests := true, laidLooks := .later }
def TrieReadsUptoCardSaid : Prop := Claim7.holds Tryz.pinned (.plain (OpenSpec.upto trieReadsSpec)) trieReadsUptoCard

/-- THE SECOND FORM's CARD OF 'hoarstonelaw03.TrieRoots'. -/
def trieRootsUptoCard : Claim7 := { stood := { row := trieRootsUptoRow, standIns := [], harness := (true, "b1785478c5c956bf6fa4dcafa57b1e57ff12581b99249b9e8a75bf556b3299e2"), looks := false }, kinds := [], alts := [], laidByText := true, laidKinds := [.data, .data, .sentinel], laidTests := true, laidLooks := .later }
def TrieRootsUptoCardSaid : Prop := Claim7.holds Tryz.pinned (.plain (OpenSpec.upto trieRootsSpec)) trieRootsUptoCard

/-- THE SECOND FORM's CARD OF 'hoarstonelaw03.TrieDiffs'. -/
def trieDiffsUptoCard : Claim7 := { stood := { row := trieDiffsUptoRow, standIns := [], harness := (true, "b1785478c5c956bf6fa4dcafa57b1e57ff12581b99249b9e8a75bf556b3299e2"), looks := false }, kinds := [], alts := [], laidByText := true, laidKinds := [.data, .data, .sentinel], laidTests := true, laidLooks := .later }
def TrieDiffsUptoCardSaid : Prop := Claim7.holds Tryz.pinned (.plain (OpenSpec.upto trieDiffsSpec)) trieDiffsUptoCard

/-- THE SECOND FORM's CARD OF 'hoarstonelaw03.TrieMaps'. -/
def trieMapsUptoCard : Claim7 := { stood := { row := trieMapsUptoRow, standIns := [], harness := (true, "b1785478c5c956bf6fa4dcafa57b1e57ff12581b99249b9e8a75bf556b3299e2"), looks := false }, kinds := [], alts := [], laidByText := true, laidKinds := [.data, .data, .sentinel], laidTests := true, laidLooks := .later }
def TrieMapsUptoCardSaid : Prop := Claim7.holds Tryz.pinned (.plain (OpenSpec.upto trieMapsSpec)) trieMapsUptoCard

/-- THE SECOND FORM's CARD OF 'hoarstonelaw03.TrieParts'. -/
def triePartsUptoCard : Claim7 := { stood := { row := triePartsUptoRow, standIns := [], harness := (true, "b1785478c5c956bf6fa4dcafa57b1e57ff12581b99249b9e8a75bf556b3299e2"), looks := false }, kinds := [], alts := [], laidByText := true, laidKinds := [.data, .data, .sentinel], laidTests := true, laidLooks := .later }
def TriePartsUptoCardSaid : Prop := Claim7.holds Tryz.pinned (.plain (OpenSpec.upto triePartsSpec)) triePartsUptoCard

/-- THE SECOND FORM's CARD OF 'hoarstonelaw03.TrieApplies'. -/
def trieAppliesUptoCard : Claim7 := { stood := { row := trieAppliesUptoRow, standIns := [], harness := (true, "b1785478c5c956bf6fa4dcafa57b1e57ff12581b99249b9e8a75bf556b3299e2"), looks := false }, kinds := [], alts := [], laidByText := true, laidKinds := [.data, .data, .sentinel], laidTests := true, laidLooks := .later }
def TrieAppliesUptoCardSaid : Prop := Claim7.holds Tryz.pinned (.plain (OpenSpec.upto trieAppliesSpec)) trieAppliesUptoCard

/-- THE SECOND FORM's CARD OF 'hoarstonelaw03.TrieDecodes'. -/
def trieDecodesUptoCard : Claim7 := { stood := { row := trieDecodesUptoRow, standIns := [], harness := (true, "b1785478c5c956bf6fa4dcafa57b1e57ff12581b99249b9e8a75bf556b3299e2"), looks := false }, kinds := [], alts := [], laidByText := true, laidKinds := [.data, .data, .sentinel], laidTests := true, laidLooks := .later }
def TrieDecodesUptoCardSaid : Prop := Claim7.holds Tryz.pinned (.plain (OpenSpec.upto trieDecodesSpec)) trieDecodesUptoCard

/-- THE SECOND FORM's CARD OF 'hoarstonelaw03.TrieBinds'. -/
def trieBindsUptoCard : Claim7 := { stood := { row := trieBindsUptoRow, standIns := [], harness := (true, "b1785478c5c956bf6fa4dcafa57b1e57ff12581b99249b9e8a75bf556b3299e2"), looks := false }, kinds := [], alts := [], laidByText := true, laidKinds := [.data, .data, .sentinel], laidTests := true, laidLooks := .later }
def TrieBindsUptoCardSaid : Prop := Claim7.holds Tryz.pinned (.plain (OpenSpec.upto trieBindsSpec)) trieBindsUptoCard

/-- THE SECOND FORM's CARD OF 'hoarstonelaw07.SpaceRoots'. -/
def spaceRootsUptoCard : Claim7 := { stood := { row := spaceRootsUptoRow, standIns := [], harness := (true, "b1785478c5c956bf6fa4dcafa57b1e57ff12581b99249b9e8a75bf556b3299e2"), looks := false }, kinds := [], alts := [], laidByText := true, laidKinds := [.data, .data, .data, .sentinel, .pinned], laidTests := true, laidLooks := .later }
def SpaceRootsUptoCardSaid : Prop := Claim7.holds Tryz.pinned (.plain (OpenSpec.upto spaceRootsSpec)) spaceRootsUptoCard
end Rows
end Go.Proofs.YtbfjmimiigjenaaGreatDoor
