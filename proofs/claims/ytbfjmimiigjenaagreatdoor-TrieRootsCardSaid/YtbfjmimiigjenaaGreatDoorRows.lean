/-
  NARROWER THAN 'FOR EVERY INPUT', by the rows' own cells (each row's printed sentence says how): TrieShape: laid · TrieTogether: laid · TrieVerifies: laid · TrieReads: laid · TrieRoots: laid · TrieDiffs: laid · TrieMaps: laid · TrieParts: laid · TrieApplies: laid · TrieDecodes: laid · TrieBinds: laid · SpaceRoots: laid.
  DERIVED. THE GIVEN ROWS OF THIS SEAT. 12 by the template 'for every input the law returns true; each argument reads behind the call as it read before'; 0 by the template 'total and deterministic' (their statements: YtbfjmimiigjenaaGreatDoorTotals.lean).
  GIVEN WITH THE SEED: the statements are not yours to turn. If you find one false, say at which input.
  Laid BY PROGRAM, IN A SANDBOX (cutbox-rows.mjs): the forced cells as the released guide's own fill.sh prints them over the translation 6323e6faca63c329… (all of the seat's roots in one cut). By AI agents, Wed Nov 11 2026. No macro, syntax, notation, axiom, sorry.
-/
import Derived.Test.YtbfjmimiigjenaaGreatDoorChecked
import GoSem.PinnedTables
import GoSem.Claim
import GoSem.ClaimJoined
import GoSem.ClaimMapViews
import Derived.JoinedTies
import Derived.KernelRfl
namespace Go.Proofs.YtbfjmimiigjenaaGreatDoor
/- THE CELL 'sum', in the pinned program and in every row, IS THE sha256 OF THE DUMP (.gsa) THAT YtbfjmimiigjenaaGreatDoorProg.lean LOADS. Nothing in Lean hashes anything: it is a label: what it is worth is what the hold of that sum in a sandbox is worth. -/
noncomputable def Tryz.pinned : Pinned := { name := "ytbfjmimiigjenaagreatdoor", sum := "6323e6faca63c329319cdebb08062cd9e7111adcf1e3c4dbeabcedf1f2ffb17c", checked := Tryz.checked }
namespace Rows
def none {H : Type} : Left H := { results := [], args := [] }

/- WHAT THE LISTED PACKAGE-LEVEL VARIABLES READ AS WHEN THE CALL BEGINS. Each datum BY PROGRAM (the guide's laid-datum.mjs) off the statement by which the dump's own 'gosem.cut.vars' lays the variable. In a bare row this is a premise. The card (YtbfjmimiigjenaaGreatDoorCards.lean) ties it to the program's text. -/
def laid_hoarstone_sum_constants {H : Type} : DataW H := .agg [.lit (.int .u32 1116352408), .lit (.int .u32 1899447441), .lit (.int .u32 3049323471), .lit (.int .u32 3921009573), .lit (.int .u32 961987163), .lit (.int .u32 1508970993), .lit (.int .u32 2453635748), .lit (.int .u32 2870763221), .lit (.int .u32 3624381080), .lit (.int .u32 310598401), .lit (.int .u32 607225278), .lit (.int .u32 1426881987), .lit (.int .u32 1925078388), .lit (.int .u32 2162078206), .lit (.int .u32 2614888103), .lit (.int .u32 3248222580), .lit (.int .u32 3835390401), .lit (.int .u32 4022224774), .lit (.int .u32 264347078), .lit (.int .u32 604807628), .lit (.int .u32 770255983), .lit (.int .u32 1249150122), .lit (.int .u32 1555081692), .lit (.int .u32 1996064986), .lit (.int .u32 2554220882), .lit (.int .u32 2821834349), .lit (.int .u32 2952996808), .lit (.int .u32 3210313671), .lit (.int .u32 3336571891), .lit (.int .u32 3584528711), .lit (.int .u32 113926993), .lit (.int .u32 338241895), .lit (.int .u32 666307205), .lit (.int .u32 773529912), .lit (.int .u32 1294757372), .lit (.int .u32 1396182291), .lit (.int .u32 1695183700), .lit (.int .u32 1986661051), .lit (.int .u32 2177026350), .lit (.int .u32 2456956037), .lit (.int .u32 2730485921), .lit (.int .u32 2820302411), .lit (.int .u32 3259730800), .lit (.int .u32 3345764771), .lit (.int .u32 3516065817), .lit (.int .u32 3600352804), .lit (.int .u32 4094571909), .lit (.int .u32 275423344), .lit (.int .u32 430227734), .lit (.int .u32 506948616), .lit (.int .u32 659060556), .lit (.int .u32 883997877), .lit (.int .u32 958139571), .lit (.int .u32 1322822218), .lit (.int .u32 1537002063), .lit (.int .u32 1747873779), .lit (.int .u32 1955562222), .lit (.int .u32 2024104815), .lit (.int .u32 2227730452), .lit (.int .u32 2361852424), .lit (.int .u32 2428436474), .lit (.int .u32 2756734187), .lit (.int .u32 3204031479), .lit (.int .u32 3329325298)]
def laid_hoarstone_sum_begin {H : Type} : DataW H := .agg [.lit (.int .u32 1779033703), .lit (.int .u32 3144134277), .lit (.int .u32 1013904242), .lit (.int .u32 2773480762), .lit (.int .u32 1359893119), .lit (.int .u32 2600822924), .lit (.int .u32 528734635), .lit (.int .u32 1541459225)]
def laid_bytes_ErrTooLarge {H : Type} : DataW H := .iface "*errors.errorString" (.ptr (.agg [.lit (.string [98, 121, 116, 101, 115, 46, 66, 117, 102, 102, 101, 114, 58, 32, 116, 111, 111, 32, 108, 97, 114, 103, 101])]))
def laid_unicode_utf8_acceptRanges {H : Type} : DataW H := .agg [.agg [.lit (.int .u8 128), .lit (.int .u8 191)], .agg [.lit (.int .u8 160), .lit (.int .u8 191)], .agg [.lit (.int .u8 128), .lit (.int .u8 159)], .agg [.lit (.int .u8 144), .lit (.int .u8 191)], .agg [.lit (.int .u8 128), .lit (.int .u8 143)], .agg [.lit (.int .u8 0), .lit (.int .u8 0)], .agg [.lit (.int .u8 0), .lit (.int .u8 0)], .agg [.lit (.int .u8 0), .lit (.int .u8 0)], .agg [.lit (.int .u8 0), .lit (.int .u8 0)], .agg [.lit (.int .u8 0), .lit (.int .u8 0)], .agg [.lit (.int .u8 0), .lit (.int .u8 0)], .agg [.lit (.int .u8 0), .lit (.int .u8 0)], .agg [.lit (.int .u8 0), .lit (.int .u8 0)], .agg [.lit (.int .u8 0), .lit (.int .u8 0)], .agg [.lit (.int .u8 0), .lit (.int .u8 0)], .agg [.lit (.int .u8 0), .lit (.int .u8 0)]]
/-- One of Go's own tables, pinned by name: the form's constant. -/
def laid_unicode_utf8_first : DataW Unit := Go.Pinned.utf8First

/-- 'hoarstonelaw03.TrieShape': WHATEVER THE INPUT: true; the input reads as it did. -/
def trieShapeSpec : ChangeSpec := { name := "trieShape", fn := fun _ => fun
  | [d1, d2] => { results := [.lit (.bool true)], args := [d1, d2] }
  | _ => none }
def trieShapeRow : OpenClaim := { program := "ytbfjmimiigjenaagreatdoor", sum := "6323e6faca63c329319cdebb08062cd9e7111adcf1e3c4dbeabcedf1f2ffb17c", func := "hoarstone/hoarstonelaw03.TrieShape", spec := "trieShape", unfollowed := true, recurses := true, named := ["bytes.ErrTooLarge", "hoarstone/sum.begin", "hoarstone/sum.constants"], plainKeys := false, apart := false, laid := [("hoarstone/sum.constants", laid_hoarstone_sum_constants), ("hoarstone/sum.begin", laid_hoarstone_sum_begin), ("bytes.ErrTooLarge", laid_bytes_ErrTooLarge)] }
def TrieShapeSaid : Prop := trieShapeRow.holds Tryz.pinned (OpenSpec.ofChange trieShapeSpec)

/-- ITS FALSE NEIGHBOUR: 'it returns false'. Refute it at one input. -/
def trieShapeWrong : ChangeSpec := { name := "trieShape", fn := fun _ => fun
  | [d1, d2] => { results := [.lit (.bool false)], args := [d1, d2] }
  | _ => none }
def TrieShapeWrongFalsely : Prop := trieShapeRow.holds Tryz.pinned (OpenSpec.ofChange trieShapeWrong)

/-- 'hoarstonelaw03.TrieTogether': WHATEVER THE INPUT: true; the input reads as it did. -/
def trieTogetherSpec : ChangeSpec := { name := "trieTogether", fn := fun _ => fun
  | [d1, d2, d3] => { results := [.lit (.bool true)], args := [d1, d2, d3] }
  | _ => none }
def trieTogetherRow : OpenClaim := { program := "ytbfjmimiigjenaagreatdoor", sum := "6323e6faca63c329319cdebb08062cd9e7111adcf1e3c4dbeabcedf1f2ffb17c", func := "hoarstone/hoarstonelaw03.TrieTogether", spec := "trieTogether", unfollowed := true, recurses := true, named := ["bytes.ErrTooLarge", "hoarstone/sum.begin", "hoarstone/sum.constants"], plainKeys := false, apart := false, laid := [("hoarstone/sum.constants", laid_hoarstone_sum_constants), ("hoarstone/sum.begin", laid_hoarstone_sum_begin), ("bytes.ErrTooLarge", laid_bytes_ErrTooLarge)] }
def TrieTogetherSaid : Prop := trieTogetherRow.holds Tryz.pinned (OpenSpec.ofChange trieTogetherSpec)

/-- ITS FALSE NEIGHBOUR: 'it returns false'. Refute it at one input. -/
def trieTogetherWrong : ChangeSpec := { name := "trieTogether", fn := fun _ => fun
  | [d1, d2, d3] => { results := [.lit (.bool false)], args := [d1, d2, d3] }
  | _ => none }
def TrieTogetherWrongFalsely : Prop := trieTogetherRow.holds Tryz.pinned (OpenSpec.ofChange trieTogetherWrong)

/-- 'hoarstonelaw03.TrieVerifies': WHATEVER THE INPUT: true; the input reads as it did. -/
def trieVerifiesSpec : ChangeSpec := { name := "trieVerifies", fn := fun _ => fun
  | [d1, d2, d3] => { results := [.lit (.bool true)], args := [d1, d2, d3] }
  | _ => none }
def trieVerifiesRow : OpenClaim := { program := "ytbfjmimiigjenaagreatdoor", sum := "6323e6faca63c329319cdebb08062cd9e7111adcf1e3c4dbeabcedf1f2ffb17c", func := "hoarstone/hoarstonelaw03.TrieVerifies", spec := "trieVerifies", unfollowed := true, recurses := true, named := ["bytes.ErrTooLarge", "hoarstone/sum.begin", "hoarstone/sum.constants"], plainKeys := false, apart := false, laid := [("hoarstone/sum.constants", laid_hoarstone_sum_constants), ("hoarstone/sum.begin", laid_hoarstone_sum_begin), ("bytes.ErrTooLarge", laid_bytes_ErrTooLarge)] }
def TrieVerifiesSaid : Prop := trieVerifiesRow.holds Tryz.pinned (OpenSpec.ofChange trieVerifiesSpec)

/-- ITS FALSE NEIGHBOUR: 'it returns false'. Refute it at one input. -/
def trieVerifiesWrong : ChangeSpec := { name := "trieVerifies", fn := fun _ => fun
  | [d1, d2, d3] => { results := [.lit (.bool false)], args := [d1, d2, d3] }
  | _ => none }
def TrieVerifiesWrongFalsely : Prop := trieVerifiesRow.holds Tryz.pinned (OpenSpec.ofChange trieVerifiesWrong)

/-- 'hoarstonelaw03.TrieReads': WHATEVER THE INPUT: true; the input reads as it did. -/
def trieReadsSpec : ChangeSpec := { name := "trieReads", fn := fun _ => fun
  | [d1, d2, d3] => { results := [.lit (.bool true)], args := [d1, d2, d3] }
  | _ => none }
def trieReadsRow : OpenClaim := { program := "ytbfjmimiigjenaagreatdoor", sum := "6323e6faca63c329319cdebb08062cd9e7111adcf1e3c4dbeabcedf1f2ffb17c", func := "hoarstone/hoarstonelaw03.TrieReads", spec := "trieReads", unfollowed := true, recurses := true, named := ["bytes.ErrTooLarge", "hoarstone/sum.begin", "hoarstone/sum.constants"], plainKeys := false, apart := false, laid := [("hoarstone/sum.constants", laid_hoarstone_sum_constants), ("hoarstone/sum.begin", laid_hoarstone_sum_begin), ("bytes.ErrTooLarge", laid_bytes_ErrTooLarge)] }
def TrieReadsSaid : Prop := trieReadsRow.holds Tryz.pinned (OpenSpec.ofChange trieReadsSpec)

/-- ITS FALSE NEIGHBOUR: 'it returns false'. Refute it at one input. -/
def trieReadsWrong : ChangeSpec := { name := "trieReads", fn := fun _ => fun
  | [d1, d2, d3] => { results := [.lit (.bool false)], args := [d1, d2, d3] }
  | _ => none }
def TrieReadsWrongFalsely : Prop := trieReadsRow.holds Tryz.pinned (OpenSpec.ofChange trieReadsWrong)

/-- 'hoarstonelaw03.TrieRoots': WHATEVER THE INPUT: true; the input reads as it did. -/
def trieRootsSpec : ChangeSpec := { name := "trieRoots", fn := fun _ => fun
  | [d1, d2, d3] => { results := [.lit (.bool true)], args := [d1, d2, d3] }
  | _ => none }
def trieRootsRow : OpenClaim := { program := "ytbfjmimiigjenaagreatdoor", sum := "6323e6faca63c329319cdebb08062cd9e7111adcf1e3c4dbeabcedf1f2ffb17c", func := "hoarstone/hoarstonelaw03.TrieRoots", spec := "trieRoots", unfollowed := true, recurses := true, named := ["bytes.ErrTooLarge", "hoarstone/sum.begin", "hoarstone/sum.constants"], plainKeys := false, apart := false, laid := [("hoarstone/sum.constants", laid_hoarstone_sum_constants), ("hoarstone/sum.begin", laid_hoarstone_sum_begin), ("bytes.ErrTooLarge", laid_bytes_ErrTooLarge)] }
def TrieRootsSaid : Prop := trieRootsRow.holds Tryz.pinned (OpenSpec.ofChange trieRootsSpec)

/-- ITS FALSE NEIGHBOUR: 'it returns false'. Refute it at one input. -/
def trieRootsWrong : ChangeSpec := { name := "trieRoots", fn := fun _ => fun
  | [d1, d2, d3] => { results := [.lit (.bool false)], args := [d1, d2, d3] }
  | _ => none }
def TrieRootsWrongFalsely : Prop := trieRootsRow.holds Tryz.pinned (OpenSpec.ofChange trieRootsWrong)

/-- 'hoarstonelaw03.TrieDiffs': WHATEVER THE INPUT: true; the input reads as it did. -/
def trieDiffsSpec : ChangeSpec := { name := "trieDiffs", fn := fun _ => fun
  | [d1, d2] => { results := [.lit (.bool true)], args := [d1, d2] }
  | _ => none }
def trieDiffsRow : OpenClaim := { program := "ytbfjmimiigjenaagreatdoor", sum := "6323e6faca63c329319cdebb08062cd9e7111adcf1e3c4dbeabcedf1f2ffb17c", func := "hoarstone/hoarstonelaw03.TrieDiffs", spec := "trieDiffs", unfollowed := true, recurses := true, named := ["bytes.ErrTooLarge", "hoarstone/sum.begin", "hoarstone/sum.constants"], plainKeys := false, apart := false, laid := [("hoarstone/sum.constants", laid_hoarstone_sum_constants), ("hoarstone/sum.begin", laid_hoarstone_sum_begin), ("bytes.ErrTooLarge", laid_bytes_ErrTooLarge)] }
def TrieDiffsSaid : Prop := trieDiffsRow.holds Tryz.pinned (OpenSpec.ofChange trieDiffsSpec)

/-- ITS FALSE NEIGHBOUR: 'it returns false'. Refute it at one input. -/
def trieDiffsWrong : ChangeSpec := { name := "trieDiffs", fn := fun _ => fun
  | [d1, d2] => { results := [.lit (.bool false)], args := [d1, d2] }
  | _ => none }
def TrieDiffsWrongFalsely : Prop := trieDiffsRow.holds Tryz.pinned (OpenSpec.ofChange trieDiffsWrong)

/-- 'hoarstonelaw03.TrieMaps': WHATEVER THE INPUT: true; the input reads as it did. -/
def trieMapsSpec : ChangeSpec := { name := "trieMaps", fn := fun _ => fun
  | [d1, d2, d3, d4] => { results := [.lit (.bool true)], args := [d1, d2, d3, d4] }
  | _ => none }
def trieMapsRow : OpenClaim := { program := "ytbfjmimiigjenaagreatdoor", sum := "6323e6faca63c329319cdebb08062cd9e7111adcf1e3c4dbeabcedf1f2ffb17c", func := "hoarstone/hoarstonelaw03.TrieMaps", spec := "trieMaps", unfollowed := true, recurses := true, named := ["bytes.ErrTooLarge", "hoarstone/sum.begin", "hoarstone/sum.constants"], plainKeys := false, apart := false, laid := [("hoarstone/sum.constants", laid_hoarstone_sum_constants), ("hoarstone/sum.begin", laid_hoarstone_sum_begin), ("bytes.ErrTooLarge", laid_bytes_ErrTooLarge)] }
def TrieMapsSaid : Prop := trieMapsRow.holds Tryz.pinned (OpenSpec.ofChange trieMapsSpec)

/-- ITS FALSE NEIGHBOUR: 'it returns false'. Refute it at one input. -/
def trieMapsWrong : ChangeSpec := { name := "trieMaps", fn := fun _ => fun
  | [d1, d2, d3, d4] => { results := [.lit (.bool false)], args := [d1, d2, d3, d4] }
  | _ => none }
def TrieMapsWrongFalsely : Prop := trieMapsRow.holds Tryz.pinned (OpenSpec.ofChange trieMapsWrong)

/-- 'hoarstonelaw03.TrieParts': WHATEVER THE INPUT: true; the input reads as it did. -/
def triePartsSpec : ChangeSpec := { name := "trieParts", fn := fun _ => fun
  | [d1, d2, d3, d4, d5] => { results := [.lit (.bool true)], args := [d1, d2, d3, d4, d5] }
  | _ => none }
def triePartsRow : OpenClaim := { program := "ytbfjmimiigjenaagreatdoor", sum := "6323e6faca63c329319cdebb08062cd9e7111adcf1e3c4dbeabcedf1f2ffb17c", func := "hoarstone/hoarstonelaw03.TrieParts", spec := "trieParts", unfollowed := true, recurses := true, named := ["bytes.ErrTooLarge", "hoarstone/sum.begin", "hoarstone/sum.constants"], plainKeys := false, apart := false, laid := [("hoarstone/sum.constants", laid_hoarstone_sum_constants), ("hoarstone/sum.begin", laid_hoarstone_sum_begin), ("bytes.ErrTooLarge", laid_bytes_ErrTooLarge)] }
def TriePartsSaid : Prop := triePartsRow.holds Tryz.pinned (OpenSpec.ofChange triePartsSpec)

/-- ITS FALSE NEIGHBOUR: 'it returns false'. Refute it at one input. -/
def triePartsWrong : ChangeSpec := { name := "trieParts", fn := fun _ => fun
  | [d1, d2, d3, d4, d5] => { results := [.lit (.bool false)], args := [d1, d2, d3, d4, d5] }
  | _ => none }
def TriePartsWrongFalsely : Prop := triePartsRow.holds Tryz.pinned (OpenSpec.ofChange triePartsWrong)

/-- 'hoarstonelaw03.TrieApplies': WHATEVER THE INPUT: true; the input reads as it did. -/
def trieAppliesSpec : ChangeSpec := { name := "trieApplies", fn := fun _ => fun
  | [d1, d2, d3] => { results := [.lit (.bool true)], args := [d1, d2, d3] }
  | _ => none }
def trieAppliesRow : OpenClaim := { program := "ytbfjmimiigjenaagreatdoor", sum := "6323e6faca63c329319cdebb08062cd9e7111adcf1e3c4dbeabcedf1f2ffb17c", func := "hoarstone/hoarstonelaw03.TrieApplies", spec := "trieApplies", unfollowed := true, recurses := true, named := ["bytes.ErrTooLarge", "hoarstone/sum.begin", "hoarstone/sum.constants"], plainKeys := false, apart := false, laid := [("hoarstone/sum.constants", laid_hoarstone_sum_constants), ("hoarstone/sum.begin", laid_hoarstone_sum_begin), ("bytes.ErrTooLarge", laid_bytes_ErrTooLarge)] }
def TrieAppliesSaid : Prop := trieAppliesRow.holds Tryz.pinned (OpenSpec.ofChange trieAppliesSpec)

/-- ITS FALSE NEIGHBOUR: 'it returns false'. Refute it at one input. -/
def trieAppliesWrong : ChangeSpec := { name := "trieApplies", fn := fun _ => fun
  | [d1, d2, d3] => { results := [.lit (.bool false)], args := [d1, d2, d3] }
  | _ => none }
def TrieAppliesWrongFalsely : Prop := trieAppliesRow.holds Tryz.pinned (OpenSpec.ofChange trieAppliesWrong)

/-- 'hoarstonelaw03.TrieDecodes': WHATEVER THE INPUT: true; the input reads as it did. -/
def trieDecodesSpec : ChangeSpec := { name := "trieDecodes", fn := fun _ => fun
  | [d] => { results := [.lit (.bool true)], args := [d] }
  | _ => none }
def trieDecodesRow : OpenClaim := { program := "ytbfjmimiigjenaagreatdoor", sum := "6323e6faca63c329319cdebb08062cd9e7111adcf1e3c4dbeabcedf1f2ffb17c", func := "hoarstone/hoarstonelaw03.TrieDecodes", spec := "trieDecodes", unfollowed := true, recurses := true, named := ["bytes.ErrTooLarge", "hoarstone/sum.begin", "hoarstone/sum.constants"], plainKeys := false, apart := false, laid := [("hoarstone/sum.constants", laid_hoarstone_sum_constants), ("hoarstone/sum.begin", laid_hoarstone_sum_begin), ("bytes.ErrTooLarge", laid_bytes_ErrTooLarge)] }
def TrieDecodesSaid : Prop := trieDecodesRow.holds Tryz.pinned (OpenSpec.ofChange trieDecodesSpec)

/-- ITS FALSE NEIGHBOUR: 'it returns false'. Refute it at one input. -/
def trieDecodesWrong : ChangeSpec := { name := "trieDecodes", fn := fun _ => fun
  | [d] => { results := [.lit (.bool false)], args := [d] }
  | _ => none }
def TrieDecodesWrongFalsely : Prop := trieDecodesRow.holds Tryz.pinned (OpenSpec.ofChange trieDecodesWrong)

/-- 'hoarstonelaw03.TrieBinds': WHATEVER THE INPUT: true; the input reads as it did. -/
def trieBindsSpec : ChangeSpec := { name := "trieBinds", fn := fun _ => fun
  | [d1, d2, d3, d4] => { results := [.lit (.bool true)], args := [d1, d2, d3, d4] }
  | _ => none }
def trieBindsRow : OpenClaim := { program := "ytbfjmimiigjenaagreatdoor", sum := "6323e6faca63c329319cdebb08062cd9e7111adcf1e3c4dbeabcedf1f2ffb17c", func := "hoarstone/hoarstonelaw03.TrieBinds", spec := "trieBinds", inPlace := ["internal/abi.NoEscape", "internal/bytealg.MakeNoZero"], unfollowed := true, recurses := true, named := ["bytes.ErrTooLarge", "hoarstone/sum.begin", "hoarstone/sum.constants"], plainKeys := false, apart := false, laid := [("hoarstone/sum.constants", laid_hoarstone_sum_constants), ("hoarstone/sum.begin", laid_hoarstone_sum_begin), ("bytes.ErrTooLarge", laid_bytes_ErrTooLarge)] }
def TrieBindsSaid : Prop := trieBindsRow.holds Tryz.pinned (OpenSpec.ofChange trieBindsSpec)

/-- ITS FALSE NEIGHBOUR: 'it returns false'. Refute it at one input. -/
def trieBindsWrong : ChangeSpec := { name := "trieBinds", fn := fun _ => fun
  | [d1, d2, d3, d4] => { results := [.lit (.bool false)], args := [d1, d2, d3, d4] }
  | _ => none }
def TrieBindsWrongFalsely : Prop := trieBindsRow.holds Tryz.pinned (OpenSpec.ofChange trieBindsWrong)

/-- 'hoarstonelaw07.SpaceRoots': WHATEVER THE INPUT: true; the input reads as it did. -/
def spaceRootsSpec : ChangeSpec := { name := "spaceRoots", fn := fun _ => fun
  | [d1, d2] => { results := [.lit (.bool true)], args := [d1, d2] }
  | _ => none }
def spaceRootsRow : OpenClaim := { program := "ytbfjmimiigjenaagreatdoor", sum := "6323e6faca63c329319cdebb08062cd9e7111adcf1e3c4dbeabcedf1f2ffb17c", func := "hoarstone/hoarstonelaw07.SpaceRoots", spec := "spaceRoots", inPlace := ["internal/bytealg.CountString", "internal/bytealg.IndexByteString", "internal/bytealg.IndexString", "internal/abi.NoEscape", "internal/bytealg.MakeNoZero", "slices.overlaps[hoarstone/api.Entry]"], unfollowed := true, recurses := true, named := ["unicode/utf8.first", "unicode/utf8.acceptRanges", "internal/bytealg.MaxLen", "hoarstone/sum.begin", "hoarstone/sum.constants", "bytes.ErrTooLarge"], plainKeys := false, apart := false, laid := [("unicode/utf8.acceptRanges", laid_unicode_utf8_acceptRanges), ("hoarstone/sum.constants", laid_hoarstone_sum_constants), ("hoarstone/sum.begin", laid_hoarstone_sum_begin), ("bytes.ErrTooLarge", laid_bytes_ErrTooLarge), ("unicode/utf8.first", laid_unicode_utf8_first)] }
def SpaceRootsSaid : Prop := spaceRootsRow.holds Tryz.pinned (OpenSpec.ofChange spaceRootsSpec)

/-- ITS FALSE NEIGHBOUR: 'it returns false'. Refute it at one input. -/
def spaceRootsWrong : ChangeSpec := { name := "spaceRoots", fn := fun _ => fun
  | [d1, d2] => { results := [.lit (.bool false)], args := [d1, d2] }
  | _ => none }
def SpaceRootsWrongFalsely : Prop := spaceRootsRow.holds Tryz.pinned (OpenSpec.ofChange spaceRootsWrong)

/- THE SECOND FORM. 'bulk': how many values and letters a reading holds, each counted each time it is reached (what is shared counts as often as it is met; a slice's spare places count too). A statement '..UptoSaid' is the law's where the arguments, and the package variables that the reading takes, are together of bulk at most 1048576: NARROWER than '..Said'. Prove '..Said' where nothing that the law and all that it calls make is longer than what came in: it says more and counts as full. Else prove '..UptoSaid'. A law counts once. -/
mutual
def uptoBulk {H : Type} : DataW H → Nat
  | .lit (.string bytes) => bytes.length + 1
  | .lit _ => 1
  | .nil => 1
  | .ptr d => uptoBulk d + 1
  | .slice elems spare => uptoBulkAll elems + uptoBulkAll spare + 1
  | .agg parts => uptoBulkAll parts + 1
  | .iface _ d => uptoBulk d + 1
  | .map entries => uptoBulkEntries entries + 1
  | .held _ => 1
def uptoBulkAll {H : Type} : List (DataW H) → Nat
  | [] => 0
  | d :: r => uptoBulk d + uptoBulkAll r
def uptoBulkEntries {H : Type} : List (Lit × DataW H) → Nat
  | [] => 0
  | x :: r => uptoBulkEntry x + uptoBulkEntries r
def uptoBulkEntry {H : Type} : Lit × DataW H → Nat
  | (.string bytes, d) => bytes.length + uptoBulk d + 1
  | (_, d) => uptoBulk d + 1
 end
def uptoSmall : (H : Type) → List (DataW H) → Bool := fun _ ds => decide (uptoBulkAll ds ≤ 1048576)
def OpenSpec.upto (s : _root_.Go.ChangeSpec) : _root_.Go.OpenSpec := { _root_.Go.OpenSpec.ofChange s with cond := some uptoSmall }

/-- 'hoarstonelaw03.TrieShape', WHERE WHAT IT READS IS OF BULK AT MOST 1048576: true; the input reads as it did. -/
def trieShapeUptoRow : OpenClaim := { program := "ytbfjmimiigjenaagreatdoor", sum := "6323e6faca63c329319cdebb08062cd9e7111adcf1e3c4dbeabcedf1f2ffb17c", func := "hoarstone/hoarstonelaw03.TrieShape", spec := "trieShape", unfollowed := true, recurses := true, named := ["bytes.ErrTooLarge", "hoarstone/sum.begin", "hoarstone/sum.constants"], plainKeys := false, apart := false, laid := [("hoarstone/sum.constants", laid_hoarstone_sum_constants), ("hoarstone/sum.begin", laid_hoarstone_sum_begin), ("bytes.ErrTooLarge", laid_bytes_ErrTooLarge)], narrowed := true }
def TrieShapeUptoSaid : Prop := trieShapeUptoRow.holds Tryz.pinned (OpenSpec.upto trieShapeSpec)

/-- 'hoarstonelaw03.TrieTogether', WHERE WHAT IT READS IS OF BULK AT MOST 1048576: true; the input reads as it did. -/
def trieTogetherUptoRow : OpenClaim := { program := "ytbfjmimiigjenaagreatdoor", sum := "6323e6faca63c329319cdebb08062cd9e7111adcf1e3c4dbeabcedf1f2ffb17c", func := "hoarstone/hoarstonelaw03.TrieTogether", spec := "trieTogether", unfollowed := true, recurses := true, named := ["bytes.ErrTooLarge", "hoarstone/sum.begin", "hoarstone/sum.constants"], plainKeys := false, apart := false, laid := [("hoarstone/sum.constants", laid_hoarstone_sum_constants), ("hoarstone/sum.begin", laid_hoarstone_sum_begin), ("bytes.ErrTooLarge", laid_bytes_ErrTooLarge)], narrowed := true }
def TrieTogetherUptoSaid : Prop := trieTogetherUptoRow.holds Tryz.pinned (OpenSpec.upto trieTogetherSpec)

/-- 'hoarstonelaw03.TrieVerifies', WHERE WHAT IT READS IS OF BULK AT MOST 1048576: true; the input reads as it did. -/
def trieVerifiesUptoRow : OpenClaim := { program := "ytbfjmimiigjenaagreatdoor", sum := "6323e6faca63c329319cdebb08062cd9e7111adcf1e3c4dbeabcedf1f2ffb17c", func := "hoarstone/hoarstonelaw03.TrieVerifies", spec := "trieVerifies", unfollowed := true, recurses := true, named := ["bytes.ErrTooLarge", "hoarstone/sum.begin", "hoarstone/sum.constants"], plainKeys := false, apart := false, laid := [("hoarstone/sum.constants", laid_hoarstone_sum_constants), ("hoarstone/sum.begin", laid_hoarstone_sum_begin), ("bytes.ErrTooLarge", laid_bytes_ErrTooLarge)], narrowed := true }
def TrieVerifiesUptoSaid : Prop := trieVerifiesUptoRow.holds Tryz.pinned (OpenSpec.upto trieVerifiesSpec)

/-- 'hoarstonelaw03.TrieReads', WHERE WHAT IT READS IS OF BULK AT MOST 1048576: true; the input reads as it did. -/
def trieReadsUptoRow : OpenClaim := { program := "ytbfjmimiigjenaagreatdoor", sum := "6323e6faca63c329319cdebb08062cd9e7111adcf1e3c4dbeabcedf1f2ffb17c", func := "hoarstone/hoarstonelaw03.TrieReads", spec := "trieReads", unfollowed := true, recurses := true, named := ["bytes.ErrTooLarge", "hoarstone/sum.begin", "hoarstone/sum.constants"], plainKeys := false, apart := false, laid := [("hoarstone/sum.constants", laid_hoarstone_sum_constants), ("hoarstone/sum.begin", laid_hoarstone_sum_begin), ("bytes.ErrTooLarge", laid_bytes_ErrTooLarge)], narrowed := true }
def TrieReadsUptoSaid : Prop := trieReadsUptoRow.holds Tryz.pinned (OpenSpec.upto trieReadsSpec)

/-- 'hoarstonelaw03.TrieRoots', WHERE WHAT IT READS IS OF BULK AT MOST 1048576: true; the input reads as it did. -/
def trieRootsUptoRow : OpenClaim := { program := "ytbfjmimiigjenaagreatdoor", sum := "6323e6faca63c329319cdebb08062cd9e7111adcf1e3c4dbeabcedf1f2ffb17c", func := "hoarstone/hoarstonelaw03.TrieRoots", spec := "trieRoots", unfollowed := true, recurses := true, named := ["bytes.ErrTooLarge", "hoarstone/sum.begin", "hoarstone/sum.constants"], plainKeys := false, apart := false, laid := [("hoarstone/sum.constants", laid_hoarstone_sum_constants), ("hoarstone/sum.begin", laid_hoarstone_sum_begin), ("bytes.ErrTooLarge", laid_bytes_ErrTooLarge)], narrowed := true }
def TrieRootsUptoSaid : Prop := trieRootsUptoRow.holds Tryz.pinned (OpenSpec.upto trieRootsSpec)

/-- 'hoarstonelaw03.TrieDiffs', WHERE WHAT IT READS IS OF BULK AT MOST 1048576: true; the input reads as it did. -/
def trieDiffsUptoRow : OpenClaim := { program := "ytbfjmimiigjenaagreatdoor", sum := "6323e6faca63c329319cdebb08062cd9e7111adcf1e3c4dbeabcedf1f2ffb17c", func := "hoarstone/hoarstonelaw03.TrieDiffs", spec := "trieDiffs", unfollowed := true, recurses := true, named := ["bytes.ErrTooLarge", "hoarstone/sum.begin", "hoarstone/sum.constants"], plainKeys := false, apart := false, laid := [("hoarstone/sum.constants", laid_hoarstone_sum_constants), ("hoarstone/sum.begin", laid_hoarstone_sum_begin), ("bytes.ErrTooLarge", laid_bytes_ErrTooLarge)], narrowed := true }
def TrieDiffsUptoSaid : Prop := trieDiffsUptoRow.holds Tryz.pinned (OpenSpec.upto trieDiffsSpec)

/-- 'hoarstonelaw03.TrieMaps', WHERE WHAT IT READS IS OF BULK AT MOST 1048576: true; the input reads as it did. -/
def trieMapsUptoRow : OpenClaim := { program := "ytbfjmimiigjenaagreatdoor", sum := "6323e6faca63c329319cdebb08062cd9e7111adcf1e3c4dbeabcedf1f2ffb17c", func := "hoarstone/hoarstonelaw03.TrieMaps", spec := "trieMaps", unfollowed := true, recurses := true, named := ["bytes.ErrTooLarge", "hoarstone/sum.begin", "hoarstone/sum.constants"], plainKeys := false, apart := false, laid := [("hoarstone/sum.constants", laid_hoarstone_sum_constants), ("hoarstone/sum.begin", laid_hoarstone_sum_begin), ("bytes.ErrTooLarge", laid_bytes_ErrTooLarge)], narrowed := true }
def TrieMapsUptoSaid : Prop := trieMapsUptoRow.holds Tryz.pinned (OpenSpec.upto trieMapsSpec)

/-- 'hoarstonelaw03.TrieParts', WHERE WHAT IT READS IS OF BULK AT MOST 1048576: true; the input reads as it did. -/
def triePartsUptoRow : OpenClaim := { program := "ytbfjmimiigjenaagreatdoor", sum := "6323e6faca63c329319cdebb08062cd9e7111adcf1e3c4dbeabcedf1f2ffb17c", func := "hoarstone/hoarstonelaw03.TrieParts", spec := "trieParts", unfollowed := true, recurses := true, named := ["bytes.ErrTooLarge", "hoarstone/sum.begin", "hoarstone/sum.constants"], plainKeys := false, apart := false, laid := [("hoarstone/sum.constants", laid_hoarstone_sum_constants), ("hoarstone/sum.begin", laid_hoarstone_sum_begin), ("bytes.ErrTooLarge", laid_bytes_ErrTooLarge)], narrowed := true }
def TriePartsUptoSaid : Prop := triePartsUptoRow.holds Tryz.pinned (OpenSpec.upto triePartsSpec)

/-- 'hoarstonelaw03.TrieApplies', WHERE WHAT IT READS IS OF BULK AT MOST 1048576: true; the input reads as it did. -/
def trieAppliesUptoRow : OpenClaim := { program := "ytbfjmimiigjenaagreatdoor", sum := "6323e6faca63c329319cdebb08062cd9e7111adcf1e3c4dbeabcedf1f2ffb17c", func := "hoarstone/hoarstonelaw03.TrieApplies", spec := "trieApplies", unfollowed := true, recurses := true, named := ["bytes.ErrTooLarge", "hoarstone/sum.begin", "hoarstone/sum.constants"], plainKeys := false, apart := false, laid := [("hoarstone/sum.constants", laid_hoarstone_sum_constants), ("hoarstone/sum.begin", laid_hoarstone_sum_begin), ("bytes.ErrTooLarge", laid_bytes_ErrTooLarge)], narrowed := true }
def TrieAppliesUptoSaid : Prop := trieAppliesUptoRow.holds Tryz.pinned (OpenSpec.upto trieAppliesSpec)

/-- 'hoarstonelaw03.TrieDecodes', WHERE WHAT IT READS IS OF BULK AT MOST 1048576: true; the input reads as it did. -/
def trieDecodesUptoRow : OpenClaim := { program := "ytbfjmimiigjenaagreatdoor", sum := "6323e6faca63c329319cdebb08062cd9e7111adcf1e3c4dbeabcedf1f2ffb17c", func := "hoarstone/hoarstonelaw03.TrieDecodes", spec := "trieDecodes", unfollowed := true, recurses := true, named := ["bytes.ErrTooLarge", "hoarstone/sum.begin", "hoarstone/sum.constants"], plainKeys := false, apart := false, laid := [("hoarstone/sum.constants", laid_hoarstone_sum_constants), ("hoarstone/sum.begin", laid_hoarstone_sum_begin), ("bytes.ErrTooLarge", laid_bytes_ErrTooLarge)], narrowed := true }
def TrieDecodesUptoSaid : Prop := trieDecodesUptoRow.holds Tryz.pinned (OpenSpec.upto trieDecodesSpec)

/-- 'hoarstonelaw03.TrieBinds', WHERE WHAT IT READS IS OF BULK AT MOST 1048576: true; the input reads as it did. -/
def trieBindsUptoRow : OpenClaim := { program := "ytbfjmimiigjenaagreatdoor", sum := "6323e6faca63c329319cdebb08062cd9e7111adcf1e3c4dbeabcedf1f2ffb17c", func := "hoarstone/hoarstonelaw03.TrieBinds", spec := "trieBinds", inPlace := ["internal/abi.NoEscape", "internal/bytealg.MakeNoZero"], unfollowed := true, recurses := true, named := ["bytes.ErrTooLarge", "hoarstone/sum.begin", "hoarstone/sum.constants"], plainKeys := false, apart := false, laid := [("hoarstone/sum.constants", laid_hoarstone_sum_constants), ("hoarstone/sum.begin", laid_hoarstone_sum_begin), ("bytes.ErrTooLarge", laid_bytes_ErrTooLarge)], narrowed := true }
def TrieBindsUptoSaid : Prop := trieBindsUptoRow.holds Tryz.pinned (OpenSpec.upto trieBindsSpec)

/-- 'hoarstonelaw07.SpaceRoots', WHERE WHAT IT READS IS OF BULK AT MOST 1048576: true; the input reads as it did. -/
def spaceRootsUptoRow : OpenClaim := { program := "ytbfjmimiigjenaagreatdoor", sum := "6323e6faca63c329319cdebb08062cd9e7111adcf1e3c4dbeabcedf1f2ffb17c", func := "hoarstone/hoarstonelaw07.SpaceRoots", spec := "spaceRoots", inPlace := ["internal/bytealg.CountString", "internal/bytealg.IndexByteString", "internal/bytealg.IndexString", "internal/abi.NoEscape", "internal/bytealg.MakeNoZero", "slices.overlaps[hoarstone/api.Entry]"], unfollowed := true, recurses := true, named := ["unicode/utf8.first", "unicode/utf8.acceptRanges", "internal/bytealg.MaxLen", "hoarstone/sum.begin", "hoarstone/sum.constants", "bytes.ErrTooLarge"], plainKeys := false, apart := false, laid := [("unicode/utf8.acceptRanges", laid_unicode_utf8_acceptRanges), ("hoarstone/sum.constants", laid_hoarstone_sum_constants), ("hoarstone/sum.begin", laid_hoarstone_sum_begin), ("bytes.ErrTooLarge", laid_bytes_ErrTooLarge), ("unicode/utf8.first", laid_unicode_utf8_first)], narrowed := true }
def SpaceRootsUptoSaid : Prop := spaceRootsUptoRow.holds Tryz.pinned (OpenSpec.upto spaceRootsSpec)

end Rows
end Go.Proofs.YtbfjmimiigjenaaGreatDoor
