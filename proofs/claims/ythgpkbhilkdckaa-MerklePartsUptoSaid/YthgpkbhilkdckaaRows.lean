/-
  No cell of these rows narrows 'for every input' (looked for: loops, veiled, ifaces, maps, wideKeys, modest, calm, conditions, laid).
  DERIVED. THE GIVEN ROWS OF THIS SEAT. 20 by the template 'for every input the law returns true; each argument reads behind the call as it read before'; 0 by the template 'total and deterministic' (their statements: YthgpkbhilkdckaaTotals.lean).
  GIVEN WITH THE SEED: the statements are not yours to turn. If you find one false, say at which input.
  Laid BY PROGRAM, IN A SANDBOX (cutbox-rows.mjs): the forced cells as the released guide's own fill.sh prints them over the translation e4052eb2e7fccdfc… (all of the seat's roots in one cut). By AI agents, Wed Nov 11 2026. No macro, syntax, notation, axiom, sorry.
-/
import Derived.Test.YthgpkbhilkdckaaChecked
import GoSem.Claim
import GoSem.ClaimJoined
import GoSem.ClaimMapViews
import Derived.JoinedTies
import Derived.KernelRfl
namespace Go.Proofs.Ythgpkbhilkdckaa
/- THE CELL 'sum', in the pinned program and in every row, IS THE sha256 OF THE DUMP (.gsa) THAT YthgpkbhilkdckaaProg.lean LOADS. Nothing in Lean hashes anything: it is a label: what it is worth is what the hold of that sum in a sandbox is worth. -/
noncomputable def Try.pinned : Pinned := { name := "ythgpkbhilkdckaa", sum := "e4052eb2e7fccdfc3241c7625cb1532a7118e490fd87c50c551345b00a0fa107", checked := Try.checked }
namespace Rows
def none {H : Type} : Left H := { results := [], args := [] }

/-- 'bullalaw02.IdealNobody': WHATEVER THE INPUT: true; the input reads as it did. -/
def idealNobodySpec : ChangeSpec := { name := "idealNobody", fn := fun _ => fun
  | [d1, d2] => { results := [.lit (.bool true)], args := [d1, d2] }
  | _ => none }
def idealNobodyRow : OpenClaim := { program := "ythgpkbhilkdckaa", sum := "e4052eb2e7fccdfc3241c7625cb1532a7118e490fd87c50c551345b00a0fa107", func := "bulla/bullalaw02.IdealNobody", spec := "idealNobody", plainKeys := false, apart := false }
def IdealNobodySaid : Prop := idealNobodyRow.holds Try.pinned (OpenSpec.ofChange idealNobodySpec)

/-- ITS FALSE NEIGHBOUR: 'it returns false'. Refute it at one input. -/
def idealNobodyWrong : ChangeSpec := { name := "idealNobody", fn := fun _ => fun
  | [d1, d2] => { results := [.lit (.bool false)], args := [d1, d2] }
  | _ => none }
def IdealNobodyWrongFalsely : Prop := idealNobodyRow.holds Try.pinned (OpenSpec.ofChange idealNobodyWrong)

/-- 'bullalaw17.TimerTotals': WHATEVER THE INPUT: true; the input reads as it did. -/
def timerTotalsSpec : ChangeSpec := { name := "timerTotals", fn := fun _ => fun
  | [d] => { results := [.lit (.bool true)], args := [d] }
  | _ => none }
def timerTotalsRow : OpenClaim := { program := "ythgpkbhilkdckaa", sum := "e4052eb2e7fccdfc3241c7625cb1532a7118e490fd87c50c551345b00a0fa107", func := "bulla/bullalaw17.TimerTotals", spec := "timerTotals", plainKeys := false, apart := false }
def TimerTotalsSaid : Prop := timerTotalsRow.holds Try.pinned (OpenSpec.ofChange timerTotalsSpec)

/-- ITS FALSE NEIGHBOUR: 'it returns false'. Refute it at one input. -/
def timerTotalsWrong : ChangeSpec := { name := "timerTotals", fn := fun _ => fun
  | [d] => { results := [.lit (.bool false)], args := [d] }
  | _ => none }
def TimerTotalsWrongFalsely : Prop := timerTotalsRow.holds Try.pinned (OpenSpec.ofChange timerTotalsWrong)

/-- 'bullalaw17.TimerDoes': WHATEVER THE INPUT: true; the input reads as it did. -/
def timerDoesSpec : ChangeSpec := { name := "timerDoes", fn := fun _ => fun
  | [d1, d2] => { results := [.lit (.bool true)], args := [d1, d2] }
  | _ => none }
def timerDoesRow : OpenClaim := { program := "ythgpkbhilkdckaa", sum := "e4052eb2e7fccdfc3241c7625cb1532a7118e490fd87c50c551345b00a0fa107", func := "bulla/bullalaw17.TimerDoes", spec := "timerDoes", plainKeys := false, apart := false }
def TimerDoesSaid : Prop := timerDoesRow.holds Try.pinned (OpenSpec.ofChange timerDoesSpec)

/-- ITS FALSE NEIGHBOUR: 'it returns false'. Refute it at one input. -/
def timerDoesWrong : ChangeSpec := { name := "timerDoes", fn := fun _ => fun
  | [d1, d2] => { results := [.lit (.bool false)], args := [d1, d2] }
  | _ => none }
def TimerDoesWrongFalsely : Prop := timerDoesRow.holds Try.pinned (OpenSpec.ofChange timerDoesWrong)

/-- 'bullalaw17.TimerStays': WHATEVER THE INPUT: true; the input reads as it did. -/
def timerStaysSpec : ChangeSpec := { name := "timerStays", fn := fun _ => fun
  | [d] => { results := [.lit (.bool true)], args := [d] }
  | _ => none }
def timerStaysRow : OpenClaim := { program := "ythgpkbhilkdckaa", sum := "e4052eb2e7fccdfc3241c7625cb1532a7118e490fd87c50c551345b00a0fa107", func := "bulla/bullalaw17.TimerStays", spec := "timerStays", plainKeys := false, apart := false }
def TimerStaysSaid : Prop := timerStaysRow.holds Try.pinned (OpenSpec.ofChange timerStaysSpec)

/-- ITS FALSE NEIGHBOUR: 'it returns false'. Refute it at one input. -/
def timerStaysWrong : ChangeSpec := { name := "timerStays", fn := fun _ => fun
  | [d] => { results := [.lit (.bool false)], args := [d] }
  | _ => none }
def TimerStaysWrongFalsely : Prop := timerStaysRow.holds Try.pinned (OpenSpec.ofChange timerStaysWrong)

/-- 'bullalaw02.IdealFrom': WHATEVER THE INPUT: true; the input reads as it did. -/
def idealFromSpec : ChangeSpec := { name := "idealFrom", fn := fun _ => fun
  | [d1, d2] => { results := [.lit (.bool true)], args := [d1, d2] }
  | _ => none }
def idealFromRow : OpenClaim := { program := "ythgpkbhilkdckaa", sum := "e4052eb2e7fccdfc3241c7625cb1532a7118e490fd87c50c551345b00a0fa107", func := "bulla/bullalaw02.IdealFrom", spec := "idealFrom", plainKeys := false, apart := false }
def IdealFromSaid : Prop := idealFromRow.holds Try.pinned (OpenSpec.ofChange idealFromSpec)

/-- ITS FALSE NEIGHBOUR: 'it returns false'. Refute it at one input. -/
def idealFromWrong : ChangeSpec := { name := "idealFrom", fn := fun _ => fun
  | [d1, d2] => { results := [.lit (.bool false)], args := [d1, d2] }
  | _ => none }
def IdealFromWrongFalsely : Prop := idealFromRow.holds Try.pinned (OpenSpec.ofChange idealFromWrong)

/-- 'bullalaw02.IdealSigns': WHATEVER THE INPUT: true; the input reads as it did. -/
def idealSignsSpec : ChangeSpec := { name := "idealSigns", fn := fun _ => fun
  | [d1, d2] => { results := [.lit (.bool true)], args := [d1, d2] }
  | _ => none }
def idealSignsRow : OpenClaim := { program := "ythgpkbhilkdckaa", sum := "e4052eb2e7fccdfc3241c7625cb1532a7118e490fd87c50c551345b00a0fa107", func := "bulla/bullalaw02.IdealSigns", spec := "idealSigns", plainKeys := false, apart := false }
def IdealSignsSaid : Prop := idealSignsRow.holds Try.pinned (OpenSpec.ofChange idealSignsSpec)

/-- ITS FALSE NEIGHBOUR: 'it returns false'. Refute it at one input. -/
def idealSignsWrong : ChangeSpec := { name := "idealSigns", fn := fun _ => fun
  | [d1, d2] => { results := [.lit (.bool false)], args := [d1, d2] }
  | _ => none }
def IdealSignsWrongFalsely : Prop := idealSignsRow.holds Try.pinned (OpenSpec.ofChange idealSignsWrong)

/-- 'bullalaw02.IdealSums': WHATEVER THE INPUT: true; the input reads as it did. -/
def idealSumsSpec : ChangeSpec := { name := "idealSums", fn := fun _ => fun
  | [d1, d2, d3] => { results := [.lit (.bool true)], args := [d1, d2, d3] }
  | _ => none }
def idealSumsRow : OpenClaim := { program := "ythgpkbhilkdckaa", sum := "e4052eb2e7fccdfc3241c7625cb1532a7118e490fd87c50c551345b00a0fa107", func := "bulla/bullalaw02.IdealSums", spec := "idealSums", plainKeys := false, apart := false }
def IdealSumsSaid : Prop := idealSumsRow.holds Try.pinned (OpenSpec.ofChange idealSumsSpec)

/-- ITS FALSE NEIGHBOUR: 'it returns false'. Refute it at one input. -/
def idealSumsWrong : ChangeSpec := { name := "idealSums", fn := fun _ => fun
  | [d1, d2, d3] => { results := [.lit (.bool false)], args := [d1, d2, d3] }
  | _ => none }
def IdealSumsWrongFalsely : Prop := idealSumsRow.holds Try.pinned (OpenSpec.ofChange idealSumsWrong)

/-- 'bullalaw01.CodecPuts': WHATEVER THE INPUT: true; the input reads as it did. -/
def codecPutsSpec : ChangeSpec := { name := "codecPuts", fn := fun _ => fun
  | [d1, d2, d3] => { results := [.lit (.bool true)], args := [d1, d2, d3] }
  | _ => none }
def codecPutsRow : OpenClaim := { program := "ythgpkbhilkdckaa", sum := "e4052eb2e7fccdfc3241c7625cb1532a7118e490fd87c50c551345b00a0fa107", func := "bulla/bullalaw01.CodecPuts", spec := "codecPuts", plainKeys := false, apart := false }
def CodecPutsSaid : Prop := codecPutsRow.holds Try.pinned (OpenSpec.ofChange codecPutsSpec)

/-- ITS FALSE NEIGHBOUR: 'it returns false'. Refute it at one input. -/
def codecPutsWrong : ChangeSpec := { name := "codecPuts", fn := fun _ => fun
  | [d1, d2, d3] => { results := [.lit (.bool false)], args := [d1, d2, d3] }
  | _ => none }
def CodecPutsWrongFalsely : Prop := codecPutsRow.holds Try.pinned (OpenSpec.ofChange codecPutsWrong)

/-- 'bullalaw01.CodecReads': WHATEVER THE INPUT: true; the input reads as it did. -/
def codecReadsSpec : ChangeSpec := { name := "codecReads", fn := fun _ => fun
  | [d1, d2] => { results := [.lit (.bool true)], args := [d1, d2] }
  | _ => none }
def codecReadsRow : OpenClaim := { program := "ythgpkbhilkdckaa", sum := "e4052eb2e7fccdfc3241c7625cb1532a7118e490fd87c50c551345b00a0fa107", func := "bulla/bullalaw01.CodecReads", spec := "codecReads", plainKeys := false, apart := false }
def CodecReadsSaid : Prop := codecReadsRow.holds Try.pinned (OpenSpec.ofChange codecReadsSpec)

/-- ITS FALSE NEIGHBOUR: 'it returns false'. Refute it at one input. -/
def codecReadsWrong : ChangeSpec := { name := "codecReads", fn := fun _ => fun
  | [d1, d2] => { results := [.lit (.bool false)], args := [d1, d2] }
  | _ => none }
def CodecReadsWrongFalsely : Prop := codecReadsRow.holds Try.pinned (OpenSpec.ofChange codecReadsWrong)

/-- 'bullalaw01.CodecNone': WHATEVER THE INPUT: true; the input reads as it did. -/
def codecNoneSpec : ChangeSpec := { name := "codecNone", fn := fun _ => fun
  | [d1, d2] => { results := [.lit (.bool true)], args := [d1, d2] }
  | _ => none }
def codecNoneRow : OpenClaim := { program := "ythgpkbhilkdckaa", sum := "e4052eb2e7fccdfc3241c7625cb1532a7118e490fd87c50c551345b00a0fa107", func := "bulla/bullalaw01.CodecNone", spec := "codecNone", plainKeys := false, apart := false }
def CodecNoneSaid : Prop := codecNoneRow.holds Try.pinned (OpenSpec.ofChange codecNoneSpec)

/-- ITS FALSE NEIGHBOUR: 'it returns false'. Refute it at one input. -/
def codecNoneWrong : ChangeSpec := { name := "codecNone", fn := fun _ => fun
  | [d1, d2] => { results := [.lit (.bool false)], args := [d1, d2] }
  | _ => none }
def CodecNoneWrongFalsely : Prop := codecNoneRow.holds Try.pinned (OpenSpec.ofChange codecNoneWrong)

/-- 'bullalaw01.CodecBack': WHATEVER THE INPUT: true; the input reads as it did. -/
def codecBackSpec : ChangeSpec := { name := "codecBack", fn := fun _ => fun
  | [d1, d2, d3] => { results := [.lit (.bool true)], args := [d1, d2, d3] }
  | _ => none }
def codecBackRow : OpenClaim := { program := "ythgpkbhilkdckaa", sum := "e4052eb2e7fccdfc3241c7625cb1532a7118e490fd87c50c551345b00a0fa107", func := "bulla/bullalaw01.CodecBack", spec := "codecBack", plainKeys := false, apart := false }
def CodecBackSaid : Prop := codecBackRow.holds Try.pinned (OpenSpec.ofChange codecBackSpec)

/-- ITS FALSE NEIGHBOUR: 'it returns false'. Refute it at one input. -/
def codecBackWrong : ChangeSpec := { name := "codecBack", fn := fun _ => fun
  | [d1, d2, d3] => { results := [.lit (.bool false)], args := [d1, d2, d3] }
  | _ => none }
def CodecBackWrongFalsely : Prop := codecBackRow.holds Try.pinned (OpenSpec.ofChange codecBackWrong)

/-- 'bullalaw01.CodecOne': WHATEVER THE INPUT: true; the input reads as it did. -/
def codecOneSpec : ChangeSpec := { name := "codecOne", fn := fun _ => fun
  | [d] => { results := [.lit (.bool true)], args := [d] }
  | _ => none }
def codecOneRow : OpenClaim := { program := "ythgpkbhilkdckaa", sum := "e4052eb2e7fccdfc3241c7625cb1532a7118e490fd87c50c551345b00a0fa107", func := "bulla/bullalaw01.CodecOne", spec := "codecOne", plainKeys := false, apart := false }
def CodecOneSaid : Prop := codecOneRow.holds Try.pinned (OpenSpec.ofChange codecOneSpec)

/-- ITS FALSE NEIGHBOUR: 'it returns false'. Refute it at one input. -/
def codecOneWrong : ChangeSpec := { name := "codecOne", fn := fun _ => fun
  | [d] => { results := [.lit (.bool false)], args := [d] }
  | _ => none }
def CodecOneWrongFalsely : Prop := codecOneRow.holds Try.pinned (OpenSpec.ofChange codecOneWrong)

/-- 'bullalaw02.IdealNone': WHATEVER THE INPUT: true; the input reads as it did. -/
def idealNoneSpec : ChangeSpec := { name := "idealNone", fn := fun _ => fun
  | [d1, d2] => { results := [.lit (.bool true)], args := [d1, d2] }
  | _ => none }
def idealNoneRow : OpenClaim := { program := "ythgpkbhilkdckaa", sum := "e4052eb2e7fccdfc3241c7625cb1532a7118e490fd87c50c551345b00a0fa107", func := "bulla/bullalaw02.IdealNone", spec := "idealNone", plainKeys := false, apart := false }
def IdealNoneSaid : Prop := idealNoneRow.holds Try.pinned (OpenSpec.ofChange idealNoneSpec)

/-- ITS FALSE NEIGHBOUR: 'it returns false'. Refute it at one input. -/
def idealNoneWrong : ChangeSpec := { name := "idealNone", fn := fun _ => fun
  | [d1, d2] => { results := [.lit (.bool false)], args := [d1, d2] }
  | _ => none }
def IdealNoneWrongFalsely : Prop := idealNoneRow.holds Try.pinned (OpenSpec.ofChange idealNoneWrong)

/-- 'bullalaw05.MerkleParts': WHATEVER THE INPUT: true; the input reads as it did. -/
def merklePartsSpec : ChangeSpec := { name := "merkleParts", fn := fun _ => fun
  | [d] => { results := [.lit (.bool true)], args := [d] }
  | _ => none }
def merklePartsRow : OpenClaim := { program := "ythgpkbhilkdckaa", sum := "e4052eb2e7fccdfc3241c7625cb1532a7118e490fd87c50c551345b00a0fa107", func := "bulla/bullalaw05.MerkleParts", spec := "merkleParts", unfollowed := true, recurses := true, plainKeys := false, apart := false }
def MerklePartsSaid : Prop := merklePartsRow.holds Try.pinned (OpenSpec.ofChange merklePartsSpec)

/-- ITS FALSE NEIGHBOUR: 'it returns false'. Refute it at one input. -/
def merklePartsWrong : ChangeSpec := { name := "merkleParts", fn := fun _ => fun
  | [d] => { results := [.lit (.bool false)], args := [d] }
  | _ => none }
def MerklePartsWrongFalsely : Prop := merklePartsRow.holds Try.pinned (OpenSpec.ofChange merklePartsWrong)

/-- 'bullalaw05.MerkleComplete': WHATEVER THE INPUT: true; the input reads as it did. -/
def merkleCompleteSpec : ChangeSpec := { name := "merkleComplete", fn := fun _ => fun
  | [d1, d2] => { results := [.lit (.bool true)], args := [d1, d2] }
  | _ => none }
def merkleCompleteRow : OpenClaim := { program := "ythgpkbhilkdckaa", sum := "e4052eb2e7fccdfc3241c7625cb1532a7118e490fd87c50c551345b00a0fa107", func := "bulla/bullalaw05.MerkleComplete", spec := "merkleComplete", unfollowed := true, recurses := true, plainKeys := false, apart := false }
def MerkleCompleteSaid : Prop := merkleCompleteRow.holds Try.pinned (OpenSpec.ofChange merkleCompleteSpec)

/-- ITS FALSE NEIGHBOUR: 'it returns false'. Refute it at one input. -/
def merkleCompleteWrong : ChangeSpec := { name := "merkleComplete", fn := fun _ => fun
  | [d1, d2] => { results := [.lit (.bool false)], args := [d1, d2] }
  | _ => none }
def MerkleCompleteWrongFalsely : Prop := merkleCompleteRow.holds Try.pinned (OpenSpec.ofChange merkleCompleteWrong)

/-- 'bullalaw05.MerkleNone': WHATEVER THE INPUT: true; the input reads as it did. -/
def merkleNoneSpec : ChangeSpec := { name := "merkleNone", fn := fun _ => fun
  | [d1, d2] => { results := [.lit (.bool true)], args := [d1, d2] }
  | _ => none }
def merkleNoneRow : OpenClaim := { program := "ythgpkbhilkdckaa", sum := "e4052eb2e7fccdfc3241c7625cb1532a7118e490fd87c50c551345b00a0fa107", func := "bulla/bullalaw05.MerkleNone", spec := "merkleNone", unfollowed := true, recurses := true, plainKeys := false, apart := false }
def MerkleNoneSaid : Prop := merkleNoneRow.holds Try.pinned (OpenSpec.ofChange merkleNoneSpec)

/-- ITS FALSE NEIGHBOUR: 'it returns false'. Refute it at one input. -/
def merkleNoneWrong : ChangeSpec := { name := "merkleNone", fn := fun _ => fun
  | [d1, d2] => { results := [.lit (.bool false)], args := [d1, d2] }
  | _ => none }
def MerkleNoneWrongFalsely : Prop := merkleNoneRow.holds Try.pinned (OpenSpec.ofChange merkleNoneWrong)

/-- 'bullalaw05.MerkleSound': WHATEVER THE INPUT: true; the input reads as it did. -/
def merkleSoundSpec : ChangeSpec := { name := "merkleSound", fn := fun _ => fun
  | [d1, d2, d3] => { results := [.lit (.bool true)], args := [d1, d2, d3] }
  | _ => none }
def merkleSoundRow : OpenClaim := { program := "ythgpkbhilkdckaa", sum := "e4052eb2e7fccdfc3241c7625cb1532a7118e490fd87c50c551345b00a0fa107", func := "bulla/bullalaw05.MerkleSound", spec := "merkleSound", unfollowed := true, recurses := true, plainKeys := false, apart := false }
def MerkleSoundSaid : Prop := merkleSoundRow.holds Try.pinned (OpenSpec.ofChange merkleSoundSpec)

/-- ITS FALSE NEIGHBOUR: 'it returns false'. Refute it at one input. -/
def merkleSoundWrong : ChangeSpec := { name := "merkleSound", fn := fun _ => fun
  | [d1, d2, d3] => { results := [.lit (.bool false)], args := [d1, d2, d3] }
  | _ => none }
def MerkleSoundWrongFalsely : Prop := merkleSoundRow.holds Try.pinned (OpenSpec.ofChange merkleSoundWrong)

/-- 'bullalaw05.MerkleVerifies': WHATEVER THE INPUT: true; the input reads as it did. -/
def merkleVerifiesSpec : ChangeSpec := { name := "merkleVerifies", fn := fun _ => fun
  | [d1, d2] => { results := [.lit (.bool true)], args := [d1, d2] }
  | _ => none }
def merkleVerifiesRow : OpenClaim := { program := "ythgpkbhilkdckaa", sum := "e4052eb2e7fccdfc3241c7625cb1532a7118e490fd87c50c551345b00a0fa107", func := "bulla/bullalaw05.MerkleVerifies", spec := "merkleVerifies", unfollowed := true, recurses := true, plainKeys := false, apart := false }
def MerkleVerifiesSaid : Prop := merkleVerifiesRow.holds Try.pinned (OpenSpec.ofChange merkleVerifiesSpec)

/-- ITS FALSE NEIGHBOUR: 'it returns false'. Refute it at one input. -/
def merkleVerifiesWrong : ChangeSpec := { name := "merkleVerifies", fn := fun _ => fun
  | [d1, d2] => { results := [.lit (.bool false)], args := [d1, d2] }
  | _ => none }
def MerkleVerifiesWrongFalsely : Prop := merkleVerifiesRow.holds Try.pinned (OpenSpec.ofChange merkleVerifiesWrong)

/-- 'bullalaw05.MerkleApart': WHATEVER THE INPUT: true; the input reads as it did. -/
def merkleApartSpec : ChangeSpec := { name := "merkleApart", fn := fun _ => fun
  | [d1, d2] => { results := [.lit (.bool true)], args := [d1, d2] }
  | _ => none }
def merkleApartRow : OpenClaim := { program := "ythgpkbhilkdckaa", sum := "e4052eb2e7fccdfc3241c7625cb1532a7118e490fd87c50c551345b00a0fa107", func := "bulla/bullalaw05.MerkleApart", spec := "merkleApart", unfollowed := true, recurses := true, plainKeys := false, apart := false }
def MerkleApartSaid : Prop := merkleApartRow.holds Try.pinned (OpenSpec.ofChange merkleApartSpec)

/-- ITS FALSE NEIGHBOUR: 'it returns false'. Refute it at one input. -/
def merkleApartWrong : ChangeSpec := { name := "merkleApart", fn := fun _ => fun
  | [d1, d2] => { results := [.lit (.bool false)], args := [d1, d2] }
  | _ => none }
def MerkleApartWrongFalsely : Prop := merkleApartRow.holds Try.pinned (OpenSpec.ofChange merkleApartWrong)

/-- 'bullalaw05.MerkleRoots': WHATEVER THE INPUT: true; the input reads as it did. -/
def merkleRootsSpec : ChangeSpec := { name := "merkleRoots", fn := fun _ => fun
  | [d1, d2, d3] => { results := [.lit (.bool true)], args := [d1, d2, d3] }
  | _ => none }
def merkleRootsRow : OpenClaim := { program := "ythgpkbhilkdckaa", sum := "e4052eb2e7fccdfc3241c7625cb1532a7118e490fd87c50c551345b00a0fa107", func := "bulla/bullalaw05.MerkleRoots", spec := "merkleRoots", unfollowed := true, recurses := true, plainKeys := false, apart := false }
def MerkleRootsSaid : Prop := merkleRootsRow.holds Try.pinned (OpenSpec.ofChange merkleRootsSpec)

/-- ITS FALSE NEIGHBOUR: 'it returns false'. Refute it at one input. -/
def merkleRootsWrong : ChangeSpec := { name := "merkleRoots", fn := fun _ => fun
  | [d1, d2, d3] => { results := [.lit (.bool false)], args := [d1, d2, d3] }
  | _ => none }
def MerkleRootsWrongFalsely : Prop := merkleRootsRow.holds Try.pinned (OpenSpec.ofChange merkleRootsWrong)

/- THE SECOND FORM. 'bulk': how many values and letters a reading holds, each counted each time it is reached (what is shared counts as often as it is met; a slice's spare places count too). A statement '..UptoSaid' is the law's where the arguments, and the package variables that the reading takes, are together of bulk at most 1048576: NARROWER than '..Said'. Prove '..Said' where nothing that the law and all that it calls make is longer than what came in: it says more and counts as full. Else prove '..UptoSaid'. A law counts once. -/
mutual
def uptoBulk {H : Type} : DataW H → Nat
  | .lit (.string bytes) => bytes.length + 1
  | .lit _ => 1
  | .nil => 1
  | .ptr d => uptoBulk d + 1
  | .slice elems spare => uptoBulkAll elems + uptoBulkAll spare + 1
  | .agg parts => uptoBulkAll parts + 1
  | .iface _ d => uptoBulk d + 1
  | .map entries => uptoBulkEntries entries + 1
  | .held _ => 1
def uptoBulkAll {H : Type} : List (DataW H) → Nat
  | [] => 0
  | d :: r => uptoBulk d + uptoBulkAll r
def uptoBulkEntries {H : Type} : List (Lit × DataW H) → Nat
  | [] => 0
  | x :: r => uptoBulkEntry x + uptoBulkEntries r
def uptoBulkEntry {H : Type} : Lit × DataW H → Nat
  | (.string bytes, d) => bytes.length + uptoBulk d + 1
  | (_, d) => uptoBulk d + 1
 end
def uptoSmall : (H : Type) → List (DataW H) → Bool := fun _ ds => decide (uptoBulkAll ds ≤ 1048576)
def OpenSpec.upto (s : _root_.Go.ChangeSpec) : _root_.Go.OpenSpec := { _root_.Go.OpenSpec.ofChange s with cond := some uptoSmall }

/-- 'bullalaw02.IdealNobody', WHERE WHAT IT READS IS OF BULK AT MOST 1048576: true; the input reads as it did. -/
def idealNobodyUptoRow : OpenClaim := { program := "ythgpkbhilkdckaa", sum := "e4052eb2e7fccdfc3241c7625cb1532a7118e490fd87c50c551345b00a0fa107", func := "bulla/bullalaw02.IdealNobody", spec := "idealNobody", plainKeys := false, apart := false, narrowed := true }
def IdealNobodyUptoSaid : Prop := idealNobodyUptoRow.holds Try.pinned (OpenSpec.upto idealNobodySpec)

/-- 'bullalaw17.TimerTotals', WHERE WHAT IT READS IS OF BULK AT MOST 1048576: true; the input reads as it did. -/
def timerTotalsUptoRow : OpenClaim := { program := "ythgpkbhilkdckaa", sum := "e4052eb2e7fccdfc3241c7625cb1532a7118e490fd87c50c551345b00a0fa107", func := "bulla/bullalaw17.TimerTotals", spec := "timerTotals", plainKeys := false, apart := false, narrowed := true }
def TimerTotalsUptoSaid : Prop := timerTotalsUptoRow.holds Try.pinned (OpenSpec.upto timerTotalsSpec)

/-- 'bullalaw17.TimerDoes', WHERE WHAT IT READS IS OF BULK AT MOST 1048576: true; the input reads as it did. -/
def timerDoesUptoRow : OpenClaim := { program := "ythgpkbhilkdckaa", sum := "e4052eb2e7fccdfc3241c7625cb1532a7118e490fd87c50c551345b00a0fa107", func := "bulla/bullalaw17.TimerDoes", spec := "timerDoes", plainKeys := false, apart := false, narrowed := true }
def TimerDoesUptoSaid : Prop := timerDoesUptoRow.holds Try.pinned (OpenSpec.upto timerDoesSpec)

/-- 'bullalaw17.TimerStays', WHERE WHAT IT READS IS OF BULK AT MOST 1048576: true; the input reads as it did. -/
def timerStaysUptoRow : OpenClaim := { program := "ythgpkbhilkdckaa", sum := "e4052eb2e7fccdfc3241c7625cb1532a7118e490fd87c50c551345b00a0fa107", func := "bulla/bullalaw17.TimerStays", spec := "timerStays", plainKeys := false, apart := false, narrowed := true }
def TimerStaysUptoSaid : Prop := timerStaysUptoRow.holds Try.pinned (OpenSpec.upto timerStaysSpec)

/-- 'bullalaw02.IdealFrom', WHERE WHAT IT READS IS OF BULK AT MOST 1048576: true; the input reads as it did. -/
def idealFromUptoRow : OpenClaim := { program := "ythgpkbhilkdckaa", sum := "e4052eb2e7fccdfc3241c7625cb1532a7118e490fd87c50c551345b00a0fa107", func := "bulla/bullalaw02.IdealFrom", spec := "idealFrom", plainKeys := false, apart := false, narrowed := true }
def IdealFromUptoSaid : Prop := idealFromUptoRow.holds Try.pinned (OpenSpec.upto idealFromSpec)

/-- 'bullalaw02.IdealSigns', WHERE WHAT IT READS IS OF BULK AT MOST 1048576: true; the input reads as it did. -/
def idealSignsUptoRow : OpenClaim := { program := "ythgpkbhilkdckaa", sum := "e4052eb2e7fccdfc3241c7625cb1532a7118e490fd87c50c551345b00a0fa107", func := "bulla/bullalaw02.IdealSigns", spec := "idealSigns", plainKeys := false, apart := false, narrowed := true }
def IdealSignsUptoSaid : Prop := idealSignsUptoRow.holds Try.pinned (OpenSpec.upto idealSignsSpec)

/-- 'bullalaw02.IdealSums', WHERE WHAT IT READS IS OF BULK AT MOST 1048576: true; the input reads as it did. -/
def idealSumsUptoRow : OpenClaim := { program := "ythgpkbhilkdckaa", sum := "e4052eb2e7fccdfc3241c7625cb1532a7118e490fd87c50c551345b00a0fa107", func := "bulla/bullalaw02.IdealSums", spec := "idealSums", plainKeys := false, apart := false, narrowed := true }
def IdealSumsUptoSaid : Prop := idealSumsUptoRow.holds Try.pinned (OpenSpec.upto idealSumsSpec)

/-- 'bullalaw01.CodecPuts', WHERE WHAT IT READS IS OF BULK AT MOST 1048576: true; the input reads as it did. -/
def codecPutsUptoRow : OpenClaim := { program := "ythgpkbhilkdckaa", sum := "e4052eb2e7fccdfc3241c7625cb1532a7118e490fd87c50c551345b00a0fa107", func := "bulla/bullalaw01.CodecPuts", spec := "codecPuts", plainKeys := false, apart := false, narrowed := true }
def CodecPutsUptoSaid : Prop := codecPutsUptoRow.holds Try.pinned (OpenSpec.upto codecPutsSpec)

/-- 'bullalaw01.CodecReads', WHERE WHAT IT READS IS OF BULK AT MOST 1048576: true; the input reads as it did. -/
def codecReadsUptoRow : OpenClaim := { program := "ythgpkbhilkdckaa", sum := "e4052eb2e7fccdfc3241c7625cb1532a7118e490fd87c50c551345b00a0fa107", func := "bulla/bullalaw01.CodecReads", spec := "codecReads", plainKeys := false, apart := false, narrowed := true }
def CodecReadsUptoSaid : Prop := codecReadsUptoRow.holds Try.pinned (OpenSpec.upto codecReadsSpec)

/-- 'bullalaw01.CodecNone', WHERE WHAT IT READS IS OF BULK AT MOST 1048576: true; the input reads as it did. -/
def codecNoneUptoRow : OpenClaim := { program := "ythgpkbhilkdckaa", sum := "e4052eb2e7fccdfc3241c7625cb1532a7118e490fd87c50c551345b00a0fa107", func := "bulla/bullalaw01.CodecNone", spec := "codecNone", plainKeys := false, apart := false, narrowed := true }
def CodecNoneUptoSaid : Prop := codecNoneUptoRow.holds Try.pinned (OpenSpec.upto codecNoneSpec)

/-- 'bullalaw01.CodecBack', WHERE WHAT IT READS IS OF BULK AT MOST 1048576: true; the input reads as it did. -/
def codecBackUptoRow : OpenClaim := { program := "ythgpkbhilkdckaa", sum := "e4052eb2e7fccdfc3241c7625cb1532a7118e490fd87c50c551345b00a0fa107", func := "bulla/bullalaw01.CodecBack", spec := "codecBack", plainKeys := false, apart := false, narrowed := true }
def CodecBackUptoSaid : Prop := codecBackUptoRow.holds Try.pinned (OpenSpec.upto codecBackSpec)

/-- 'bullalaw01.CodecOne', WHERE WHAT IT READS IS OF BULK AT MOST 1048576: true; the input reads as it did. -/
def codecOneUptoRow : OpenClaim := { program := "ythgpkbhilkdckaa", sum := "e4052eb2e7fccdfc3241c7625cb1532a7118e490fd87c50c551345b00a0fa107", func := "bulla/bullalaw01.CodecOne", spec := "codecOne", plainKeys := false, apart := false, narrowed := true }
def CodecOneUptoSaid : Prop := codecOneUptoRow.holds Try.pinned (OpenSpec.upto codecOneSpec)

/-- 'bullalaw02.IdealNone', WHERE WHAT IT READS IS OF BULK AT MOST 1048576: true; the input reads as it did. -/
def idealNoneUptoRow : OpenClaim := { program := "ythgpkbhilkdckaa", sum := "e4052eb2e7fccdfc3241c7625cb1532a7118e490fd87c50c551345b00a0fa107", func := "bulla/bullalaw02.IdealNone", spec := "idealNone", plainKeys := false, apart := false, narrowed := true }
def IdealNoneUptoSaid : Prop := idealNoneUptoRow.holds Try.pinned (OpenSpec.upto idealNoneSpec)

/-- 'bullalaw05.MerkleParts', WHERE WHAT IT READS IS OF BULK AT MOST 1048576: true; the input reads as it did. -/
def merklePartsUptoRow : OpenClaim := { program := "ythgpkbhilkdckaa", sum := "e4052eb2e7fccdfc3241c7625cb1532a7118e490fd87c50c551345b00a0fa107", func := "bulla/bullalaw05.MerkleParts", spec := "merkleParts", unfollowed := true, recurses := true, plainKeys := false, apart := false, narrowed := true }
def MerklePartsUptoSaid : Prop := merklePartsUptoRow.holds Try.pinned (OpenSpec.upto merklePartsSpec)

/-- 'bullalaw05.MerkleComplete', WHERE WHAT IT READS IS OF BULK AT MOST 1048576: true; the input reads as it did. -/
def merkleCompleteUptoRow : OpenClaim := { program := "ythgpkbhilkdckaa", sum := "e4052eb2e7fccdfc3241c7625cb1532a7118e490fd87c50c551345b00a0fa107", func := "bulla/bullalaw05.MerkleComplete", spec := "merkleComplete", unfollowed := true, recurses := true, plainKeys := false, apart := false, narrowed := true }
def MerkleCompleteUptoSaid : Prop := merkleCompleteUptoRow.holds Try.pinned (OpenSpec.upto merkleCompleteSpec)

/-- 'bullalaw05.MerkleNone', WHERE WHAT IT READS IS OF BULK AT MOST 1048576: true; the input reads as it did. -/
def merkleNoneUptoRow : OpenClaim := { program := "ythgpkbhilkdckaa", sum := "e4052eb2e7fccdfc3241c7625cb1532a7118e490fd87c50c551345b00a0fa107", func := "bulla/bullalaw05.MerkleNone", spec := "merkleNone", unfollowed := true, recurses := true, plainKeys := false, apart := false, narrowed := true }
def MerkleNoneUptoSaid : Prop := merkleNoneUptoRow.holds Try.pinned (OpenSpec.upto merkleNoneSpec)

/-- 'bullalaw05.MerkleSound', WHERE WHAT IT READS IS OF BULK AT MOST 1048576: true; the input reads as it did. -/
def merkleSoundUptoRow : OpenClaim := { program := "ythgpkbhilkdckaa", sum := "e4052eb2e7fccdfc3241c7625cb1532a7118e490fd87c50c551345b00a0fa107", func := "bulla/bullalaw05.MerkleSound", spec := "merkleSound", unfollowed := true, recurses := true, plainKeys := false, apart := false, narrowed := true }
def MerkleSoundUptoSaid : Prop := merkleSoundUptoRow.holds Try.pinned (OpenSpec.upto merkleSoundSpec)

/-- 'bullalaw05.MerkleVerifies', WHERE WHAT IT READS IS OF BULK AT MOST 1048576: true; the input reads as it did. -/
def merkleVerifiesUptoRow : OpenClaim := { program := "ythgpkbhilkdckaa", sum := "e4052eb2e7fccdfc3241c7625cb1532a7118e490fd87c50c551345b00a0fa107", func := "bulla/bullalaw05.MerkleVerifies", spec := "merkleVerifies", unfollowed := true, recurses := true, plainKeys := false, apart := false, narrowed := true }
def MerkleVerifiesUptoSaid : Prop := merkleVerifiesUptoRow.holds Try.pinned (OpenSpec.upto merkleVerifiesSpec)

/-- 'bullalaw05.MerkleApart', WHERE WHAT IT READS IS OF BULK AT MOST 1048576: true; the input reads as it did. -/
def merkleApartUptoRow : OpenClaim := { program := "ythgpkbhilkdckaa", sum := "e4052eb2e7fccdfc3241c7625cb1532a7118e490fd87c50c551345b00a0fa107", func := "bulla/bullalaw05.MerkleApart", spec := "merkleApart", unfollowed := true, recurses := true, plainKeys := false, apart := false, narrowed := true }
def MerkleApartUptoSaid : Prop := merkleApartUptoRow.holds Try.pinned (OpenSpec.upto merkleApartSpec)

/-- 'bullalaw05.MerkleRoots', WHERE WHAT IT READS IS OF BULK AT MOST 1048576: true; the input reads as it did. -/
def merkleRootsUptoRow : OpenClaim := { program := "ythgpkbhilkdckaa", sum := "e4052eb2e7fccdfc3241c7625cb1532a7118e490fd87c50c551345b00a0fa107", func := "bulla/bullalaw05.MerkleRoots", spec := "merkleRoots", unfollowed := true, recurses := true, plainKeys := false, apart := false, narrowed := true }
def MerkleRootsUptoSaid : Prop := merkleRootsUptoRow.holds Try.pinned (OpenSpec.upto merkleRootsSpec)

end Rows
end Go.Proofs.Ythgpkbhilkdckaa
