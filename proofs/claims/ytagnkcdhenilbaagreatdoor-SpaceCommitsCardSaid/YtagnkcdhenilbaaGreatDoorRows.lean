/-
  NARROWER THAN 'FOR EVERY INPUT', by the rows' own cells (each row's printed sentence says how): SpaceChecks: laid · SpaceFinds: laid · SpaceNames: laid · SpaceParts: laid · SpaceShortest: laid · SpacePlaces: laid · SpaceEdits: laid · SpaceCommits: laid · SpaceBases: laid · SpaceMoves: laid · SpaceApplies: laid.
  DERIVED. THE GIVEN ROWS OF THIS SEAT. 11 by the template 'for every input the law returns true; each argument reads behind the call as it read before'; 0 by the template 'total and deterministic' (their statements: YtagnkcdhenilbaaGreatDoorTotals.lean).
  GIVEN WITH THE SEED: the statements are not yours to turn. If you find one false, say at which input.
  Laid BY PROGRAM, IN A SANDBOX (cutbox-rows.mjs): the forced cells as the released guide's own fill.sh prints them over the translation db9c494f3f56e47f… (all of the seat's roots in one cut). By AI agents, Wed Nov 11 2026. No macro, syntax, notation, axiom, sorry.
-/
import Derived.Test.YtagnkcdhenilbaaGreatDoorChecked
import GoSem.PinnedTables
import GoSem.Claim
import GoSem.ClaimJoined
import GoSem.ClaimMapViews
import Derived.JoinedTies
import Derived.KernelRfl
namespace Go.Proofs.YtagnkcdhenilbaaGreatDoor
/- THE CELL 'sum', in the pinned program and in every row, IS THE sha256 OF THE DUMP (.gsa) THAT YtagnkcdhenilbaaGreatDoorProg.lean LOADS. Nothing in Lean hashes anything: it is a label: what it is worth is what the hold of that sum in a sandbox is worth. -/
noncomputable def Tryz.pinned : Pinned := { name := "ytagnkcdhenilbaagreatdoor", sum := "db9c494f3f56e47f53b85b7c87a5d56848058daa1df0d975da91b0302665fdff", checked := Tryz.checked }
namespace Rows
def none {H : Type} : Left H := { results := [], args := [] }

/- WHAT THE LISTED PACKAGE-LEVEL VARIABLES READ AS WHEN THE CALL BEGINS. Each datum BY PROGRAM (the guide's laid-datum.mjs) off the statement by which the dump's own 'gosem.cut.vars' lays the variable. In a bare row this is a premise. The card (YtagnkcdhenilbaaGreatDoorCards.lean) ties it to the program's text. -/
def laid_unicode_utf8_acceptRanges {H : Type} : DataW H := .agg [.agg [.lit (.int .u8 128), .lit (.int .u8 191)], .agg [.lit (.int .u8 160), .lit (.int .u8 191)], .agg [.lit (.int .u8 128), .lit (.int .u8 159)], .agg [.lit (.int .u8 144), .lit (.int .u8 191)], .agg [.lit (.int .u8 128), .lit (.int .u8 143)], .agg [.lit (.int .u8 0), .lit (.int .u8 0)], .agg [.lit (.int .u8 0), .lit (.int .u8 0)], .agg [.lit (.int .u8 0), .lit (.int .u8 0)], .agg [.lit (.int .u8 0), .lit (.int .u8 0)], .agg [.lit (.int .u8 0), .lit (.int .u8 0)], .agg [.lit (.int .u8 0), .lit (.int .u8 0)], .agg [.lit (.int .u8 0), .lit (.int .u8 0)], .agg [.lit (.int .u8 0), .lit (.int .u8 0)], .agg [.lit (.int .u8 0), .lit (.int .u8 0)], .agg [.lit (.int .u8 0), .lit (.int .u8 0)], .agg [.lit (.int .u8 0), .lit (.int .u8 0)]]
def laid_hoarstone_sum_constants {H : Type} : DataW H := .agg [.lit (.int .u32 1116352408), .lit (.int .u32 1899447441), .lit (.int .u32 3049323471), .lit (.int .u32 3921009573), .lit (.int .u32 961987163), .lit (.int .u32 1508970993), .lit (.int .u32 2453635748), .lit (.int .u32 2870763221), .lit (.int .u32 3624381080), .lit (.int .u32 310598401), .lit (.int .u32 607225278), .lit (.int .u32 1426881987), .lit (.int .u32 1925078388), .lit (.int .u32 2162078206), .lit (.int .u32 2614888103), .lit (.int .u32 3248222580), .lit (.int .u32 3835390401), .lit (.int .u32 4022224774), .lit (.int .u32 264347078), .lit (.int .u32 604807628), .lit (.int .u32 770255983), .lit (.int .u32 1249150122), .lit (.int .u32 1555081692), .lit (.int .u32 1996064986), .lit (.int .u32 2554220882), .lit (.int .u32 2821834349), .lit (.int .u32 2952996808), .lit (.int .u32 3210313671), .lit (.int .u32 3336571891), .lit (.int .u32 3584528711), .lit (.int .u32 113926993), .lit (.int .u32 338241895), .lit (.int .u32 666307205), .lit (.int .u32 773529912), .lit (.int .u32 1294757372), .lit (.int .u32 1396182291), .lit (.int .u32 1695183700), .lit (.int .u32 1986661051), .lit (.int .u32 2177026350), .lit (.int .u32 2456956037), .lit (.int .u32 2730485921), .lit (.int .u32 2820302411), .lit (.int .u32 3259730800), .lit (.int .u32 3345764771), .lit (.int .u32 3516065817), .lit (.int .u32 3600352804), .lit (.int .u32 4094571909), .lit (.int .u32 275423344), .lit (.int .u32 430227734), .lit (.int .u32 506948616), .lit (.int .u32 659060556), .lit (.int .u32 883997877), .lit (.int .u32 958139571), .lit (.int .u32 1322822218), .lit (.int .u32 1537002063), .lit (.int .u32 1747873779), .lit (.int .u32 1955562222), .lit (.int .u32 2024104815), .lit (.int .u32 2227730452), .lit (.int .u32 2361852424), .lit (.int .u32 2428436474), .lit (.int .u32 2756734187), .lit (.int .u32 3204031479), .lit (.int .u32 3329325298)]
def laid_hoarstone_sum_begin {H : Type} : DataW H := .agg [.lit (.int .u32 1779033703), .lit (.int .u32 3144134277), .lit (.int .u32 1013904242), .lit (.int .u32 2773480762), .lit (.int .u32 1359893119), .lit (.int .u32 2600822924), .lit (.int .u32 528734635), .lit (.int .u32 1541459225)]
/-- One of Go's own tables, pinned by name: the form's constant. -/
def laid_unicode_utf8_first : DataW Unit := Go.Pinned.utf8First

/-- 'hoarstonelaw07.SpaceChecks': WHATEVER THE INPUT: true; the input reads as it did. -/
def spaceChecksSpec : ChangeSpec := { name := "spaceChecks", fn := fun _ => fun
  | [d1, d2, d3] => { results := [.lit (.bool true)], args := [d1, d2, d3] }
  | _ => none }
def spaceChecksRow : OpenClaim := { program := "ytagnkcdhenilbaagreatdoor", sum := "db9c494f3f56e47f53b85b7c87a5d56848058daa1df0d975da91b0302665fdff", func := "hoarstone/hoarstonelaw07.SpaceChecks", spec := "spaceChecks", inPlace := ["internal/bytealg.CountString", "internal/bytealg.IndexByteString", "internal/bytealg.IndexString", "internal/abi.NoEscape", "internal/bytealg.MakeNoZero", "slices.overlaps[hoarstone/api.Entry]"], unfollowed := true, recurses := true, named := ["unicode/utf8.first", "unicode/utf8.acceptRanges", "internal/bytealg.MaxLen", "hoarstone/sum.begin", "hoarstone/sum.constants"], plainKeys := false, apart := false, laid := [("unicode/utf8.acceptRanges", laid_unicode_utf8_acceptRanges), ("hoarstone/sum.constants", laid_hoarstone_sum_constants), ("hoarstone/sum.begin", laid_hoarstone_sum_begin), ("unicode/utf8.first", laid_unicode_utf8_first)] }
def SpaceChecksSaid : Prop := spaceChecksRow.holds Tryz.pinned (OpenSpec.ofChange spaceChecksSpec)

/-- ITS FALSE NEIGHBOUR: 'it returns false'. Refute it at one input. -/
def spaceChecksWrong : ChangeSpec := { name := "spaceChecks", fn := fun _ => fun
  | [d1, d2, d3] => { results := [.lit (.bool false)], args := [d1, d2, d3] }
  | _ => none }
def SpaceChecksWrongFalsely : Prop := spaceChecksRow.holds Tryz.pinned (OpenSpec.ofChange spaceChecksWrong)

/-- 'hoarstonelaw07.SpaceFinds': WHATEVER THE INPUT: true; the input reads as it did. -/
def spaceFindsSpec : ChangeSpec := { name := "spaceFinds", fn := fun _ => fun
  | [d1, d2, d3] => { results := [.lit (.bool true)], args := [d1, d2, d3] }
  | _ => none }
def spaceFindsRow : OpenClaim := { program := "ytagnkcdhenilbaagreatdoor", sum := "db9c494f3f56e47f53b85b7c87a5d56848058daa1df0d975da91b0302665fdff", func := "hoarstone/hoarstonelaw07.SpaceFinds", spec := "spaceFinds", inPlace := ["internal/bytealg.CountString", "internal/bytealg.IndexByteString", "internal/bytealg.IndexString", "internal/abi.NoEscape", "internal/bytealg.MakeNoZero", "slices.overlaps[hoarstone/api.Entry]"], unfollowed := true, recurses := true, named := ["unicode/utf8.first", "unicode/utf8.acceptRanges", "internal/bytealg.MaxLen", "hoarstone/sum.begin", "hoarstone/sum.constants"], plainKeys := false, apart := false, laid := [("unicode/utf8.acceptRanges", laid_unicode_utf8_acceptRanges), ("hoarstone/sum.constants", laid_hoarstone_sum_constants), ("hoarstone/sum.begin", laid_hoarstone_sum_begin), ("unicode/utf8.first", laid_unicode_utf8_first)] }
def SpaceFindsSaid : Prop := spaceFindsRow.holds Tryz.pinned (OpenSpec.ofChange spaceFindsSpec)

/-- ITS FALSE NEIGHBOUR: 'it returns false'. Refute it at one input. -/
def spaceFindsWrong : ChangeSpec := { name := "spaceFinds", fn := fun _ => fun
  | [d1, d2, d3] => { results := [.lit (.bool false)], args := [d1, d2, d3] }
  | _ => none }
def SpaceFindsWrongFalsely : Prop := spaceFindsRow.holds Tryz.pinned (OpenSpec.ofChange spaceFindsWrong)

/-- 'hoarstonelaw07.SpaceNames': WHATEVER THE INPUT: true; the input reads as it did. -/
def spaceNamesSpec : ChangeSpec := { name := "spaceNames", fn := fun _ => fun
  | [d1, d2, d3] => { results := [.lit (.bool true)], args := [d1, d2, d3] }
  | _ => none }
def spaceNamesRow : OpenClaim := { program := "ytagnkcdhenilbaagreatdoor", sum := "db9c494f3f56e47f53b85b7c87a5d56848058daa1df0d975da91b0302665fdff", func := "hoarstone/hoarstonelaw07.SpaceNames", spec := "spaceNames", inPlace := ["internal/bytealg.CountString", "internal/bytealg.IndexByteString", "internal/bytealg.IndexString", "internal/abi.NoEscape", "internal/bytealg.MakeNoZero", "slices.overlaps[hoarstone/api.Entry]"], unfollowed := true, recurses := true, named := ["unicode/utf8.first", "unicode/utf8.acceptRanges", "internal/bytealg.MaxLen", "hoarstone/sum.begin", "hoarstone/sum.constants"], plainKeys := false, apart := false, laid := [("unicode/utf8.acceptRanges", laid_unicode_utf8_acceptRanges), ("hoarstone/sum.constants", laid_hoarstone_sum_constants), ("hoarstone/sum.begin", laid_hoarstone_sum_begin), ("unicode/utf8.first", laid_unicode_utf8_first)] }
def SpaceNamesSaid : Prop := spaceNamesRow.holds Tryz.pinned (OpenSpec.ofChange spaceNamesSpec)

/-- ITS FALSE NEIGHBOUR: 'it returns false'. Refute it at one input. -/
def spaceNamesWrong : ChangeSpec := { name := "spaceNames", fn := fun _ => fun
  | [d1, d2, d3] => { results := [.lit (.bool false)], args := [d1, d2, d3] }
  | _ => none }
def SpaceNamesWrongFalsely : Prop := spaceNamesRow.holds Tryz.pinned (OpenSpec.ofChange spaceNamesWrong)

/-- 'hoarstonelaw07.SpaceParts': WHATEVER THE INPUT: true; the input reads as it did. -/
def spacePartsSpec : ChangeSpec := { name := "spaceParts", fn := fun _ => fun
  | [d1, d2, d3] => { results := [.lit (.bool true)], args := [d1, d2, d3] }
  | _ => none }
def spacePartsRow : OpenClaim := { program := "ytagnkcdhenilbaagreatdoor", sum := "db9c494f3f56e47f53b85b7c87a5d56848058daa1df0d975da91b0302665fdff", func := "hoarstone/hoarstonelaw07.SpaceParts", spec := "spaceParts", inPlace := ["internal/bytealg.CountString", "internal/bytealg.IndexByteString", "internal/bytealg.IndexString", "internal/abi.NoEscape", "internal/bytealg.MakeNoZero", "slices.overlaps[hoarstone/api.Entry]"], unfollowed := true, recurses := true, named := ["unicode/utf8.first", "unicode/utf8.acceptRanges", "internal/bytealg.MaxLen", "hoarstone/sum.begin", "hoarstone/sum.constants"], plainKeys := false, apart := false, laid := [("unicode/utf8.acceptRanges", laid_unicode_utf8_acceptRanges), ("hoarstone/sum.constants", laid_hoarstone_sum_constants), ("hoarstone/sum.begin", laid_hoarstone_sum_begin), ("unicode/utf8.first", laid_unicode_utf8_first)] }
def SpacePartsSaid : Prop := spacePartsRow.holds Tryz.pinned (OpenSpec.ofChange spacePartsSpec)

/-- ITS FALSE NEIGHBOUR: 'it returns false'. Refute it at one input. -/
def spacePartsWrong : ChangeSpec := { name := "spaceParts", fn := fun _ => fun
  | [d1, d2, d3] => { results := [.lit (.bool false)], args := [d1, d2, d3] }
  | _ => none }
def SpacePartsWrongFalsely : Prop := spacePartsRow.holds Tryz.pinned (OpenSpec.ofChange spacePartsWrong)

/-- 'hoarstonelaw07.SpaceShortest': WHATEVER THE INPUT: true; the input reads as it did. -/
def spaceShortestSpec : ChangeSpec := { name := "spaceShortest", fn := fun _ => fun
  | [d1, d2] => { results := [.lit (.bool true)], args := [d1, d2] }
  | _ => none }
def spaceShortestRow : OpenClaim := { program := "ytagnkcdhenilbaagreatdoor", sum := "db9c494f3f56e47f53b85b7c87a5d56848058daa1df0d975da91b0302665fdff", func := "hoarstone/hoarstonelaw07.SpaceShortest", spec := "spaceShortest", inPlace := ["internal/abi.NoEscape", "internal/bytealg.MakeNoZero", "internal/bytealg.abigen_runtime_cmpstring", "slices.overlaps[hoarstone/api.Entry]", "internal/bytealg.CountString", "internal/bytealg.IndexByteString", "internal/bytealg.IndexString"], unfollowed := true, recurses := true, named := ["unicode/utf8.first", "unicode/utf8.acceptRanges", "internal/bytealg.MaxLen", "hoarstone/sum.begin", "hoarstone/sum.constants"], plainKeys := false, apart := false, laid := [("unicode/utf8.acceptRanges", laid_unicode_utf8_acceptRanges), ("hoarstone/sum.constants", laid_hoarstone_sum_constants), ("hoarstone/sum.begin", laid_hoarstone_sum_begin), ("unicode/utf8.first", laid_unicode_utf8_first)] }
def SpaceShortestSaid : Prop := spaceShortestRow.holds Tryz.pinned (OpenSpec.ofChange spaceShortestSpec)

/-- ITS FALSE NEIGHBOUR: 'it returns false'. Refute it at one input. -/
def spaceShortestWrong : ChangeSpec := { name := "spaceShortest", fn := fun _ => fun
  | [d1, d2] => { results := [.lit (.bool false)], args := [d1, d2] }
  | _ => none }
def SpaceShortestWrongFalsely : Prop := spaceShortestRow.holds Tryz.pinned (OpenSpec.ofChange spaceShortestWrong)

/-- 'hoarstonelaw07.SpacePlaces': WHATEVER THE INPUT: true; the input reads as it did. -/
def spacePlacesSpec : ChangeSpec := { name := "spacePlaces", fn := fun _ => fun
  | [d1, d2] => { results := [.lit (.bool true)], args := [d1, d2] }
  | _ => none }
def spacePlacesRow : OpenClaim := { program := "ytagnkcdhenilbaagreatdoor", sum := "db9c494f3f56e47f53b85b7c87a5d56848058daa1df0d975da91b0302665fdff", func := "hoarstone/hoarstonelaw07.SpacePlaces", spec := "spacePlaces", inPlace := ["internal/abi.NoEscape", "internal/bytealg.MakeNoZero", "internal/bytealg.abigen_runtime_cmpstring", "slices.overlaps[hoarstone/api.Entry]", "internal/bytealg.CountString", "internal/bytealg.IndexByteString", "internal/bytealg.IndexString"], unfollowed := true, recurses := true, named := ["unicode/utf8.first", "unicode/utf8.acceptRanges", "internal/bytealg.MaxLen", "hoarstone/sum.begin", "hoarstone/sum.constants"], plainKeys := false, apart := false, laid := [("unicode/utf8.acceptRanges", laid_unicode_utf8_acceptRanges), ("hoarstone/sum.constants", laid_hoarstone_sum_constants), ("hoarstone/sum.begin", laid_hoarstone_sum_begin), ("unicode/utf8.first", laid_unicode_utf8_first)] }
def SpacePlacesSaid : Prop := spacePlacesRow.holds Tryz.pinned (OpenSpec.ofChange spacePlacesSpec)

/-- ITS FALSE NEIGHBOUR: 'it returns false'. Refute it at one input. -/
def spacePlacesWrong : ChangeSpec := { name := "spacePlaces", fn := fun _ => fun
  | [d1, d2] => { results := [.lit (.bool false)], args := [d1, d2] }
  | _ => none }
def SpacePlacesWrongFalsely : Prop := spacePlacesRow.holds Tryz.pinned (OpenSpec.ofChange spacePlacesWrong)

/-- 'hoarstonelaw07.SpaceEdits': WHATEVER THE INPUT: true; the input reads as it did. -/
def spaceEditsSpec : ChangeSpec := { name := "spaceEdits", fn := fun _ => fun
  | [d1, d2, d3, d4, d5] => { results := [.lit (.bool true)], args := [d1, d2, d3, d4, d5] }
  | _ => none }
def spaceEditsRow : OpenClaim := { program := "ytagnkcdhenilbaagreatdoor", sum := "db9c494f3f56e47f53b85b7c87a5d56848058daa1df0d975da91b0302665fdff", func := "hoarstone/hoarstonelaw07.SpaceEdits", spec := "spaceEdits", inPlace := ["internal/bytealg.CountString", "internal/bytealg.IndexByteString", "internal/bytealg.IndexString", "internal/abi.NoEscape", "internal/bytealg.MakeNoZero", "slices.overlaps[hoarstone/api.Entry]"], unfollowed := true, recurses := true, named := ["unicode/utf8.first", "unicode/utf8.acceptRanges", "internal/bytealg.MaxLen", "hoarstone/sum.begin", "hoarstone/sum.constants"], plainKeys := false, apart := false, laid := [("unicode/utf8.acceptRanges", laid_unicode_utf8_acceptRanges), ("hoarstone/sum.constants", laid_hoarstone_sum_constants), ("hoarstone/sum.begin", laid_hoarstone_sum_begin), ("unicode/utf8.first", laid_unicode_utf8_first)] }
def SpaceEditsSaid : Prop := spaceEditsRow.holds Tryz.pinned (OpenSpec.ofChange spaceEditsSpec)

/-- ITS FALSE NEIGHBOUR: 'it returns false'. Refute it at one input. -/
def spaceEditsWrong : ChangeSpec := { name := "spaceEdits", fn := fun _ => fun
  | [d1, d2, d3, d4, d5] => { results := [.lit (.bool false)], args := [d1, d2, d3, d4, d5] }
  | _ => none }
def SpaceEditsWrongFalsely : Prop := spaceEditsRow.holds Tryz.pinned (OpenSpec.ofChange spaceEditsWrong)

/-- 'hoarstonelaw07.SpaceCommits': WHATEVER THE INPUT: true; the input reads as it did. -/
def spaceCommitsSpec : ChangeSpec := { name := "spaceCommits", fn := fun _ => fun
  | [d1, d2, d3] => { results := [.lit (.bool true)], args := [d1, d2, d3] }
  | _ => none }
def spaceCommitsRow : OpenClaim := { program := "ytagnkcdhenilbaagreatdoor", sum := "db9c494f3f56e47f53b85b7c87a5d56848058daa1df0d975da91b0302665fdff", func := "hoarstone/hoarstonelaw07.SpaceCommits", spec := "spaceCommits", inPlace := ["internal/bytealg.CountString", "internal/bytealg.IndexByteString", "internal/bytealg.IndexString", "internal/abi.NoEscape", "internal/bytealg.MakeNoZero", "slices.overlaps[hoarstone/api.Entry]"], unfollowed := true, recurses := true, named := ["unicode/utf8.first", "unicode/utf8.acceptRanges", "internal/bytealg.MaxLen", "hoarstone/sum.begin", "hoarstone/sum.constants"], plainKeys := false, apart := false, laid := [("unicode/utf8.acceptRanges", laid_unicode_utf8_acceptRanges), ("hoarstone/sum.constants", laid_hoarstone_sum_constants), ("hoarstone/sum.begin", laid_hoarstone_sum_begin), ("unicode/utf8.first", laid_unicode_utf8_first)] }
def SpaceCommitsSaid : Prop := spaceCommitsRow.holds Tryz.pinned (OpenSpec.ofChange spaceCommitsSpec)

/-- ITS FALSE NEIGHBOUR: 'it returns false'. Refute it at one input. -/
def spaceCommitsWrong : ChangeSpec := { name := "spaceCommits", fn := fun _ => fun
  | [d1, d2, d3] => { results := [.lit (.bool false)], args := [d1, d2, d3] }
  | _ => none }
def SpaceCommitsWrongFalsely : Prop := spaceCommitsRow.holds Tryz.pinned (OpenSpec.ofChange spaceCommitsWrong)

/-- 'hoarstonelaw07.SpaceBases': WHATEVER THE INPUT: true; the input reads as it did. -/
def spaceBasesSpec : ChangeSpec := { name := "spaceBases", fn := fun _ => fun
  | [d1, d2, d3] => { results := [.lit (.bool true)], args := [d1, d2, d3] }
  | _ => none }
def spaceBasesRow : OpenClaim := { program := "ytagnkcdhenilbaagreatdoor", sum := "db9c494f3f56e47f53b85b7c87a5d56848058daa1df0d975da91b0302665fdff", func := "hoarstone/hoarstonelaw07.SpaceBases", spec := "spaceBases", inPlace := ["internal/bytealg.CountString", "internal/bytealg.IndexByteString", "internal/bytealg.IndexString", "internal/abi.NoEscape", "internal/bytealg.MakeNoZero", "slices.overlaps[hoarstone/api.Entry]"], unfollowed := true, recurses := true, named := ["hoarstone/sum.begin", "hoarstone/sum.constants", "unicode/utf8.first", "unicode/utf8.acceptRanges", "internal/bytealg.MaxLen"], plainKeys := false, apart := false, laid := [("unicode/utf8.acceptRanges", laid_unicode_utf8_acceptRanges), ("hoarstone/sum.constants", laid_hoarstone_sum_constants), ("hoarstone/sum.begin", laid_hoarstone_sum_begin), ("unicode/utf8.first", laid_unicode_utf8_first)] }
def SpaceBasesSaid : Prop := spaceBasesRow.holds Tryz.pinned (OpenSpec.ofChange spaceBasesSpec)

/-- ITS FALSE NEIGHBOUR: 'it returns false'. Refute it at one input. -/
def spaceBasesWrong : ChangeSpec := { name := "spaceBases", fn := fun _ => fun
  | [d1, d2, d3] => { results := [.lit (.bool false)], args := [d1, d2, d3] }
  | _ => none }
def SpaceBasesWrongFalsely : Prop := spaceBasesRow.holds Tryz.pinned (OpenSpec.ofChange spaceBasesWrong)

/-- 'hoarstonelaw07.SpaceMoves': WHATEVER THE INPUT: true; the input reads as it did. -/
def spaceMovesSpec : ChangeSpec := { name := "spaceMoves", fn := fun _ => fun
  | [d1, d2, d3] => { results := [.lit (.bool true)], args := [d1, d2, d3] }
  | _ => none }
def spaceMovesRow : OpenClaim := { program := "ytagnkcdhenilbaagreatdoor", sum := "db9c494f3f56e47f53b85b7c87a5d56848058daa1df0d975da91b0302665fdff", func := "hoarstone/hoarstonelaw07.SpaceMoves", spec := "spaceMoves", inPlace := ["internal/abi.NoEscape", "internal/bytealg.MakeNoZero", "internal/bytealg.abigen_runtime_cmpstring", "slices.overlaps[hoarstone/api.Entry]", "internal/bytealg.CountString", "internal/bytealg.IndexByteString", "internal/bytealg.IndexString"], unfollowed := true, recurses := true, named := ["unicode/utf8.first", "unicode/utf8.acceptRanges", "internal/bytealg.MaxLen", "hoarstone/sum.begin", "hoarstone/sum.constants"], plainKeys := false, apart := false, laid := [("unicode/utf8.acceptRanges", laid_unicode_utf8_acceptRanges), ("hoarstone/sum.constants", laid_hoarstone_sum_constants), ("hoarstone/sum.begin", laid_hoarstone_sum_begin), ("unicode/utf8.first", laid_unicode_utf8_first)] }
def SpaceMovesSaid : Prop := spaceMovesRow.holds Tryz.pinned (OpenSpec.ofChange spaceMovesSpec)

/-- ITS FALSE NEIGHBOUR: 'it returns false'. Refute it at one input. -/
def spaceMovesWrong : ChangeSpec := { name := "spaceMoves", fn := fun _ => fun
  | [d1, d2, d3] => { results := [.lit (.bool false)], args := [d1, d2, d3] }
  | _ => none }
def SpaceMovesWrongFalsely : Prop := spaceMovesRow.holds Tryz.pinned (OpenSpec.ofChange spaceMovesWrong)

/-- 'hoarstonelaw07.SpaceApplies': WHATEVER THE INPUT: true; the input reads as it did. -/
def spaceAppliesSpec : ChangeSpec := { name := "spaceApplies", fn := fun _ => fun
  | [d1, d2] => { results := [.lit (.bool true)], args := [d1, d2] }
  | _ => none }
def spaceAppliesRow : OpenClaim := { program := "ytagnkcdhenilbaagreatdoor", sum := "db9c494f3f56e47f53b85b7c87a5d56848058daa1df0d975da91b0302665fdff", func := "hoarstone/hoarstonelaw07.SpaceApplies", spec := "spaceApplies", inPlace := ["internal/bytealg.CountString", "internal/bytealg.IndexByteString", "internal/bytealg.IndexString", "internal/abi.NoEscape", "internal/bytealg.MakeNoZero", "slices.overlaps[hoarstone/api.Entry]"], unfollowed := true, recurses := true, named := ["unicode/utf8.first", "unicode/utf8.acceptRanges", "internal/bytealg.MaxLen", "hoarstone/sum.begin", "hoarstone/sum.constants"], plainKeys := false, apart := false, laid := [("unicode/utf8.acceptRanges", laid_unicode_utf8_acceptRanges), ("hoarstone/sum.constants", laid_hoarstone_sum_constants), ("hoarstone/sum.begin", laid_hoarstone_sum_begin), ("unicode/utf8.first", laid_unicode_utf8_first)] }
def SpaceAppliesSaid : Prop := spaceAppliesRow.holds Tryz.pinned (OpenSpec.ofChange spaceAppliesSpec)

/-- ITS FALSE NEIGHBOUR: 'it returns false'. Refute it at one input. -/
def spaceAppliesWrong : ChangeSpec := { name := "spaceApplies", fn := fun _ => fun
  | [d1, d2] => { results := [.lit (.bool false)], args := [d1, d2] }
  | _ => none }
def SpaceAppliesWrongFalsely : Prop := spaceAppliesRow.holds Tryz.pinned (OpenSpec.ofChange spaceAppliesWrong)

/- THE SECOND FORM. 'bulk': how many values and letters a reading holds, each counted each time it is reached (what is shared counts as often as it is met; a slice's spare places count too). A statement '..UptoSaid' is the law's where the arguments, and the package variables that the reading takes, are together of bulk at most 1048576: NARROWER than '..Said'. Prove '..Said' where nothing that the law and all that it calls make is longer than what came in: it says more and counts as full. Else prove '..UptoSaid'. A law counts once. -/
mutual
def uptoBulk {H : Type} : DataW H → Nat
  | .lit (.string bytes) => bytes.length + 1
  | .lit _ => 1
  | .nil => 1
  | .ptr d => uptoBulk d + 1
  | .slice elems spare => uptoBulkAll elems + uptoBulkAll spare + 1
  | .agg parts => uptoBulkAll parts + 1
  | .iface _ d => uptoBulk d + 1
  | .map entries => uptoBulkEntries entries + 1
  | .held _ => 1
def uptoBulkAll {H : Type} : List (DataW H) → Nat
  | [] => 0
  | d :: r => uptoBulk d + uptoBulkAll r
def uptoBulkEntries {H : Type} : List (Lit × DataW H) → Nat
  | [] => 0
  | x :: r => uptoBulkEntry x + uptoBulkEntries r
def uptoBulkEntry {H : Type} : Lit × DataW H → Nat
  | (.string bytes, d) => bytes.length + uptoBulk d + 1
  | (_, d) => uptoBulk d + 1
 end
def uptoSmall : (H : Type) → List (DataW H) → Bool := fun _ ds => decide (uptoBulkAll ds ≤ 1048576)
def OpenSpec.upto (s : _root_.Go.ChangeSpec) : _root_.Go.OpenSpec := { _root_.Go.OpenSpec.ofChange s with cond := some uptoSmall }

/-- 'hoarstonelaw07.SpaceChecks', WHERE WHAT IT READS IS OF BULK AT MOST 1048576: true; the input reads as it did. -/
def spaceChecksUptoRow : OpenClaim := { program := "ytagnkcdhenilbaagreatdoor", sum := "db9c494f3f56e47f53b85b7c87a5d56848058daa1df0d975da91b0302665fdff", func := "hoarstone/hoarstonelaw07.SpaceChecks", spec := "spaceChecks", inPlace := ["internal/bytealg.CountString", "internal/bytealg.IndexByteString", "internal/bytealg.IndexString", "internal/abi.NoEscape", "internal/bytealg.MakeNoZero", "slices.overlaps[hoarstone/api.Entry]"], unfollowed := true, recurses := true, named := ["unicode/utf8.first", "unicode/utf8.acceptRanges", "internal/bytealg.MaxLen", "hoarstone/sum.begin", "hoarstone/sum.constants"], plainKeys := false, apart := false, laid := [("unicode/utf8.acceptRanges", laid_unicode_utf8_acceptRanges), ("hoarstone/sum.constants", laid_hoarstone_sum_constants), ("hoarstone/sum.begin", laid_hoarstone_sum_begin), ("unicode/utf8.first", laid_unicode_utf8_first)], narrowed := true }
def SpaceChecksUptoSaid : Prop := spaceChecksUptoRow.holds Tryz.pinned (OpenSpec.upto spaceChecksSpec)

/-- 'hoarstonelaw07.SpaceFinds', WHERE WHAT IT READS IS OF BULK AT MOST 1048576: true; the input reads as it did. -/
def spaceFindsUptoRow : OpenClaim := { program := "ytagnkcdhenilbaagreatdoor", sum := "db9c494f3f56e47f53b85b7c87a5d56848058daa1df0d975da91b0302665fdff", func := "hoarstone/hoarstonelaw07.SpaceFinds", spec := "spaceFinds", inPlace := ["internal/bytealg.CountString", "internal/bytealg.IndexByteString", "internal/bytealg.IndexString", "internal/abi.NoEscape", "internal/bytealg.MakeNoZero", "slices.overlaps[hoarstone/api.Entry]"], unfollowed := true, recurses := true, named := ["unicode/utf8.first", "unicode/utf8.acceptRanges", "internal/bytealg.MaxLen", "hoarstone/sum.begin", "hoarstone/sum.constants"], plainKeys := false, apart := false, laid := [("unicode/utf8.acceptRanges", laid_unicode_utf8_acceptRanges), ("hoarstone/sum.constants", laid_hoarstone_sum_constants), ("hoarstone/sum.begin", laid_hoarstone_sum_begin), ("unicode/utf8.first", laid_unicode_utf8_first)], narrowed := true }
def SpaceFindsUptoSaid : Prop := spaceFindsUptoRow.holds Tryz.pinned (OpenSpec.upto spaceFindsSpec)

/-- 'hoarstonelaw07.SpaceNames', WHERE WHAT IT READS IS OF BULK AT MOST 1048576: true; the input reads as it did. -/
def spaceNamesUptoRow : OpenClaim := { program := "ytagnkcdhenilbaagreatdoor", sum := "db9c494f3f56e47f53b85b7c87a5d56848058daa1df0d975da91b0302665fdff", func := "hoarstone/hoarstonelaw07.SpaceNames", spec := "spaceNames", inPlace := ["internal/bytealg.CountString", "internal/bytealg.IndexByteString", "internal/bytealg.IndexString", "internal/abi.NoEscape", "internal/bytealg.MakeNoZero", "slices.overlaps[hoarstone/api.Entry]"], unfollowed := true, recurses := true, named := ["unicode/utf8.first", "unicode/utf8.acceptRanges", "internal/bytealg.MaxLen", "hoarstone/sum.begin", "hoarstone/sum.constants"], plainKeys := false, apart := false, laid := [("unicode/utf8.acceptRanges", laid_unicode_utf8_acceptRanges), ("hoarstone/sum.constants", laid_hoarstone_sum_constants), ("hoarstone/sum.begin", laid_hoarstone_sum_begin), ("unicode/utf8.first", laid_unicode_utf8_first)], narrowed := true }
def SpaceNamesUptoSaid : Prop := spaceNamesUptoRow.holds Tryz.pinned (OpenSpec.upto spaceNamesSpec)

/-- 'hoarstonelaw07.SpaceParts', WHERE WHAT IT READS IS OF BULK AT MOST 1048576: true; the input reads as it did. -/
def spacePartsUptoRow : OpenClaim := { program := "ytagnkcdhenilbaagreatdoor", sum := "db9c494f3f56e47f53b85b7c87a5d56848058daa1df0d975da91b0302665fdff", func := "hoarstone/hoarstonelaw07.SpaceParts", spec := "spaceParts", inPlace := ["internal/bytealg.CountString", "internal/bytealg.IndexByteString", "internal/bytealg.IndexString", "internal/abi.NoEscape", "internal/bytealg.MakeNoZero", "slices.overlaps[hoarstone/api.Entry]"], unfollowed := true, recurses := true, named := ["unicode/utf8.first", "unicode/utf8.acceptRanges", "internal/bytealg.MaxLen", "hoarstone/sum.begin", "hoarstone/sum.constants"], plainKeys := false, apart := false, laid := [("unicode/utf8.acceptRanges", laid_unicode_utf8_acceptRanges), ("hoarstone/sum.constants", laid_hoarstone_sum_constants), ("hoarstone/sum.begin", laid_hoarstone_sum_begin), ("unicode/utf8.first", laid_unicode_utf8_first)], narrowed := true }
def SpacePartsUptoSaid : Prop := spacePartsUptoRow.holds Tryz.pinned (OpenSpec.upto spacePartsSpec)

/-- 'hoarstonelaw07.SpaceShortest', WHERE WHAT IT READS IS OF BULK AT MOST 1048576: true; the input reads as it did. -/
def spaceShortestUptoRow : OpenClaim := { program := "ytagnkcdhenilbaagreatdoor", sum := "db9c494f3f56e47f53b85b7c87a5d56848058daa1df0d975da91b0302665fdff", func := "hoarstone/hoarstonelaw07.SpaceShortest", spec := "spaceShortest", inPlace := ["internal/abi.NoEscape", "internal/bytealg.MakeNoZero", "internal/bytealg.abigen_runtime_cmpstring", "slices.overlaps[hoarstone/api.Entry]", "internal/bytealg.CountString", "internal/bytealg.IndexByteString", "internal/bytealg.IndexString"], unfollowed := true, recurses := true, named := ["unicode/utf8.first", "unicode/utf8.acceptRanges", "internal/bytealg.MaxLen", "hoarstone/sum.begin", "hoarstone/sum.constants"], plainKeys := false, apart := false, laid := [("unicode/utf8.acceptRanges", laid_unicode_utf8_acceptRanges), ("hoarstone/sum.constants", laid_hoarstone_sum_constants), ("hoarstone/sum.begin", laid_hoarstone_sum_begin), ("unicode/utf8.first", laid_unicode_utf8_first)], narrowed := true }
def SpaceShortestUptoSaid : Prop := spaceShortestUptoRow.holds Tryz.pinned (OpenSpec.upto spaceShortestSpec)

/-- 'hoarstonelaw07.SpacePlaces', WHERE WHAT IT READS IS OF BULK AT MOST 1048576: true; the input reads as it did. -/
def spacePlacesUptoRow : OpenClaim := { program := "ytagnkcdhenilbaagreatdoor", sum := "db9c494f3f56e47f53b85b7c87a5d56848058daa1df0d975da91b0302665fdff", func := "hoarstone/hoarstonelaw07.SpacePlaces", spec := "spacePlaces", inPlace := ["internal/abi.NoEscape", "internal/bytealg.MakeNoZero", "internal/bytealg.abigen_runtime_cmpstring", "slices.overlaps[hoarstone/api.Entry]", "internal/bytealg.CountString", "internal/bytealg.IndexByteString", "internal/bytealg.IndexString"], unfollowed := true, recurses := true, named := ["unicode/utf8.first", "unicode/utf8.acceptRanges", "internal/bytealg.MaxLen", "hoarstone/sum.begin", "hoarstone/sum.constants"], plainKeys := false, apart := false, laid := [("unicode/utf8.acceptRanges", laid_unicode_utf8_acceptRanges), ("hoarstone/sum.constants", laid_hoarstone_sum_constants), ("hoarstone/sum.begin", laid_hoarstone_sum_begin), ("unicode/utf8.first", laid_unicode_utf8_first)], narrowed := true }
def SpacePlacesUptoSaid : Prop := spacePlacesUptoRow.holds Tryz.pinned (OpenSpec.upto spacePlacesSpec)

/-- 'hoarstonelaw07.SpaceEdits', WHERE WHAT IT READS IS OF BULK AT MOST 1048576: true; the input reads as it did. -/
def spaceEditsUptoRow : OpenClaim := { program := "ytagnkcdhenilbaagreatdoor", sum := "db9c494f3f56e47f53b85b7c87a5d56848058daa1df0d975da91b0302665fdff", func := "hoarstone/hoarstonelaw07.SpaceEdits", spec := "spaceEdits", inPlace := ["internal/bytealg.CountString", "internal/bytealg.IndexByteString", "internal/bytealg.IndexString", "internal/abi.NoEscape", "internal/bytealg.MakeNoZero", "slices.overlaps[hoarstone/api.Entry]"], unfollowed := true, recurses := true, named := ["unicode/utf8.first", "unicode/utf8.acceptRanges", "internal/bytealg.MaxLen", "hoarstone/sum.begin", "hoarstone/sum.constants"], plainKeys := false, apart := false, laid := [("unicode/utf8.acceptRanges", laid_unicode_utf8_acceptRanges), ("hoarstone/sum.constants", laid_hoarstone_sum_constants), ("hoarstone/sum.begin", laid_hoarstone_sum_begin), ("unicode/utf8.first", laid_unicode_utf8_first)], narrowed := true }
def SpaceEditsUptoSaid : Prop := spaceEditsUptoRow.holds Tryz.pinned (OpenSpec.upto spaceEditsSpec)

/-- 'hoarstonelaw07.SpaceCommits', WHERE WHAT IT READS IS OF BULK AT MOST 1048576: true; the input reads as it did. -/
def spaceCommitsUptoRow : OpenClaim := { program := "ytagnkcdhenilbaagreatdoor", sum := "db9c494f3f56e47f53b85b7c87a5d56848058daa1df0d975da91b0302665fdff", func := "hoarstone/hoarstonelaw07.SpaceCommits", spec := "spaceCommits", inPlace := ["internal/bytealg.CountString", "internal/bytealg.IndexByteString", "internal/bytealg.IndexString", "internal/abi.NoEscape", "internal/bytealg.MakeNoZero", "slices.overlaps[hoarstone/api.Entry]"], unfollowed := true, recurses := true, named := ["unicode/utf8.first", "unicode/utf8.acceptRanges", "internal/bytealg.MaxLen", "hoarstone/sum.begin", "hoarstone/sum.constants"], plainKeys := false, apart := false, laid := [("unicode/utf8.acceptRanges", laid_unicode_utf8_acceptRanges), ("hoarstone/sum.constants", laid_hoarstone_sum_constants), ("hoarstone/sum.begin", laid_hoarstone_sum_begin), ("unicode/utf8.first", laid_unicode_utf8_first)], narrowed := true }
def SpaceCommitsUptoSaid : Prop := spaceCommitsUptoRow.holds Tryz.pinned (OpenSpec.upto spaceCommitsSpec)

/-- 'hoarstonelaw07.SpaceBases', WHERE WHAT IT READS IS OF BULK AT MOST 1048576: true; the input reads as it did. -/
def spaceBasesUptoRow : OpenClaim := { program := "ytagnkcdhenilbaagreatdoor", sum := "db9c494f3f56e47f53b85b7c87a5d56848058daa1df0d975da91b0302665fdff", func := "hoarstone/hoarstonelaw07.SpaceBases", spec := "spaceBases", inPlace := ["internal/bytealg.CountString", "internal/bytealg.IndexByteString", "internal/bytealg.IndexString", "internal/abi.NoEscape", "internal/bytealg.MakeNoZero", "slices.overlaps[hoarstone/api.Entry]"], unfollowed := true, recurses := true, named := ["hoarstone/sum.begin", "hoarstone/sum.constants", "unicode/utf8.first", "unicode/utf8.acceptRanges", "internal/bytealg.MaxLen"], plainKeys := false, apart := false, laid := [("unicode/utf8.acceptRanges", laid_unicode_utf8_acceptRanges), ("hoarstone/sum.constants", laid_hoarstone_sum_constants), ("hoarstone/sum.begin", laid_hoarstone_sum_begin), ("unicode/utf8.first", laid_unicode_utf8_first)], narrowed := true }
def SpaceBasesUptoSaid : Prop := spaceBasesUptoRow.holds Tryz.pinned (OpenSpec.upto spaceBasesSpec)

/-- 'hoarstonelaw07.SpaceMoves', WHERE WHAT IT READS IS OF BULK AT MOST 1048576: true; the input reads as it did. -/
def spaceMovesUptoRow : OpenClaim := { program := "ytagnkcdhenilbaagreatdoor", sum := "db9c494f3f56e47f53b85b7c87a5d56848058daa1df0d975da91b0302665fdff", func := "hoarstone/hoarstonelaw07.SpaceMoves", spec := "spaceMoves", inPlace := ["internal/abi.NoEscape", "internal/bytealg.MakeNoZero", "internal/bytealg.abigen_runtime_cmpstring", "slices.overlaps[hoarstone/api.Entry]", "internal/bytealg.CountString", "internal/bytealg.IndexByteString", "internal/bytealg.IndexString"], unfollowed := true, recurses := true, named := ["unicode/utf8.first", "unicode/utf8.acceptRanges", "internal/bytealg.MaxLen", "hoarstone/sum.begin", "hoarstone/sum.constants"], plainKeys := false, apart := false, laid := [("unicode/utf8.acceptRanges", laid_unicode_utf8_acceptRanges), ("hoarstone/sum.constants", laid_hoarstone_sum_constants), ("hoarstone/sum.begin", laid_hoarstone_sum_begin), ("unicode/utf8.first", laid_unicode_utf8_first)], narrowed := true }
def SpaceMovesUptoSaid : Prop := spaceMovesUptoRow.holds Tryz.pinned (OpenSpec.upto spaceMovesSpec)

/-- 'hoarstonelaw07.SpaceApplies', WHERE WHAT IT READS IS OF BULK AT MOST 1048576: true; the input reads as it did. -/
def spaceAppliesUptoRow : OpenClaim := { program := "ytagnkcdhenilbaagreatdoor", sum := "db9c494f3f56e47f53b85b7c87a5d56848058daa1df0d975da91b0302665fdff", func := "hoarstone/hoarstonelaw07.SpaceApplies", spec := "spaceApplies", inPlace := ["internal/bytealg.CountString", "internal/bytealg.IndexByteString", "internal/bytealg.IndexString", "internal/abi.NoEscape", "internal/bytealg.MakeNoZero", "slices.overlaps[hoarstone/api.Entry]"], unfollowed := true, recurses := true, named := ["unicode/utf8.first", "unicode/utf8.acceptRanges", "internal/bytealg.MaxLen", "hoarstone/sum.begin", "hoarstone/sum.constants"], plainKeys := false, apart := false, laid := [("unicode/utf8.acceptRanges", laid_unicode_utf8_acceptRanges), ("hoarstone/sum.constants", laid_hoarstone_sum_constants), ("hoarstone/sum.begin", laid_hoarstone_sum_begin), ("unicode/utf8.first", laid_unicode_utf8_first)], narrowed := true }
def SpaceAppliesUptoSaid : Prop := spaceAppliesUptoRow.holds Tryz.pinned (OpenSpec.upto spaceAppliesSpec)

end Rows
end Go.Proofs.YtagnkcdhenilbaaGreatDoor
