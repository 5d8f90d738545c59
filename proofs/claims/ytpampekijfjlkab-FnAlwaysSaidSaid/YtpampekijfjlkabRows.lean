/-
  No cell of these rows narrows 'for every input' (looked for: loops, veiled, ifaces, maps, wideKeys, modest, calm, conditions, laid).
  DERIVED. THE GIVEN ROWS OF THIS SEAT. 19 by the template 'for every input the law returns true; each argument reads behind the call as it read before'; 0 by the template 'total and deterministic' (their statements: YtpampekijfjlkabTotals.lean).
  GIVEN WITH THE SEED: the statements are not yours to turn. If you find one false, say at which input.
  Laid BY PROGRAM, IN A SANDBOX (cutbox-rows.mjs): the forced cells as the released guide's own fill.sh prints them over the translation 840e25600ce2da9b… (all of the seat's roots in one cut). By AI agents, Wed Nov 11 2026. No macro, syntax, notation, axiom, sorry.
-/
import Derived.Test.YtpampekijfjlkabChecked
import GoSem.Claim
import GoSem.ClaimJoined
import GoSem.ClaimMapViews
import Derived.JoinedTies
import Derived.KernelRfl
namespace Go.Proofs.Ytpampekijfjlkab
/- THE CELL 'sum', in the pinned program and in every row, IS THE sha256 OF THE DUMP (.gsa) THAT YtpampekijfjlkabProg.lean LOADS. Nothing in Lean hashes anything: it is a label: what it is worth is what the hold of that sum in a sandbox is worth. -/
noncomputable def Try.pinned : Pinned := { name := "ytpampekijfjlkab", sum := "840e25600ce2da9b5d468bb2f436b85dd6691ac6f0129657350d40c1b992c54e", checked := Try.checked }
namespace Rows
def none {H : Type} : Left H := { results := [], args := [] }

/-- 'laws.FnKnownFollows': WHATEVER THE INPUT: true; the input reads as it did. -/
def fnKnownFollowsSpec : ChangeSpec := { name := "fnKnownFollows", fn := fun _ => fun
  | [d] => { results := [.lit (.bool true)], args := [d] }
  | _ => none }
def fnKnownFollowsRow : OpenClaim := { program := "ytpampekijfjlkab", sum := "840e25600ce2da9b5d468bb2f436b85dd6691ac6f0129657350d40c1b992c54e", func := "loop.example/tellersandliars/laws.FnKnownFollows", spec := "fnKnownFollows", unfollowed := true, recurses := true, apart := false }
def FnKnownFollowsSaid : Prop := fnKnownFollowsRow.holds Try.pinned (OpenSpec.ofChange fnKnownFollowsSpec)

/-- ITS FALSE NEIGHBOUR: 'it returns false'. Refute it at one input. -/
def fnKnownFollowsWrong : ChangeSpec := { name := "fnKnownFollows", fn := fun _ => fun
  | [d] => { results := [.lit (.bool false)], args := [d] }
  | _ => none }
def FnKnownFollowsWrongFalsely : Prop := fnKnownFollowsRow.holds Try.pinned (OpenSpec.ofChange fnKnownFollowsWrong)

/-- 'laws.FnExactSpySays': WHATEVER THE INPUT: true; the input reads as it did. -/
def fnExactSpySaysSpec : ChangeSpec := { name := "fnExactSpySays", fn := fun _ => fun
  | [d1, d2] => { results := [.lit (.bool true)], args := [d1, d2] }
  | _ => none }
def fnExactSpySaysRow : OpenClaim := { program := "ytpampekijfjlkab", sum := "840e25600ce2da9b5d468bb2f436b85dd6691ac6f0129657350d40c1b992c54e", func := "loop.example/tellersandliars/laws.FnExactSpySays", spec := "fnExactSpySays", recurses := true, apart := false }
def FnExactSpySaysSaid : Prop := fnExactSpySaysRow.holds Try.pinned (OpenSpec.ofChange fnExactSpySaysSpec)

/-- ITS FALSE NEIGHBOUR: 'it returns false'. Refute it at one input. -/
def fnExactSpySaysWrong : ChangeSpec := { name := "fnExactSpySays", fn := fun _ => fun
  | [d1, d2] => { results := [.lit (.bool false)], args := [d1, d2] }
  | _ => none }
def FnExactSpySaysWrongFalsely : Prop := fnExactSpySaysRow.holds Try.pinned (OpenSpec.ofChange fnExactSpySaysWrong)

/-- 'laws.FnMaySay': WHATEVER THE INPUT: true; the input reads as it did. -/
def fnMaySaySpec : ChangeSpec := { name := "fnMaySay", fn := fun _ => fun
  | [d] => { results := [.lit (.bool true)], args := [d] }
  | _ => none }
def fnMaySayRow : OpenClaim := { program := "ytpampekijfjlkab", sum := "840e25600ce2da9b5d468bb2f436b85dd6691ac6f0129657350d40c1b992c54e", func := "loop.example/tellersandliars/laws.FnMaySay", spec := "fnMaySay", recurses := true, apart := false }
def FnMaySaySaid : Prop := fnMaySayRow.holds Try.pinned (OpenSpec.ofChange fnMaySaySpec)

/-- ITS FALSE NEIGHBOUR: 'it returns false'. Refute it at one input. -/
def fnMaySayWrong : ChangeSpec := { name := "fnMaySay", fn := fun _ => fun
  | [d] => { results := [.lit (.bool false)], args := [d] }
  | _ => none }
def FnMaySayWrongFalsely : Prop := fnMaySayRow.holds Try.pinned (OpenSpec.ofChange fnMaySayWrong)

/-- 'laws.FnSayCount': WHATEVER THE INPUT: true; the input reads as it did. -/
def fnSayCountSpec : ChangeSpec := { name := "fnSayCount", fn := fun _ => fun
  | [d] => { results := [.lit (.bool true)], args := [d] }
  | _ => none }
def fnSayCountRow : OpenClaim := { program := "ytpampekijfjlkab", sum := "840e25600ce2da9b5d468bb2f436b85dd6691ac6f0129657350d40c1b992c54e", func := "loop.example/tellersandliars/laws.FnSayCount", spec := "fnSayCount", unfollowed := true, recurses := true, apart := false }
def FnSayCountSaid : Prop := fnSayCountRow.holds Try.pinned (OpenSpec.ofChange fnSayCountSpec)

/-- ITS FALSE NEIGHBOUR: 'it returns false'. Refute it at one input. -/
def fnSayCountWrong : ChangeSpec := { name := "fnSayCount", fn := fun _ => fun
  | [d] => { results := [.lit (.bool false)], args := [d] }
  | _ => none }
def FnSayCountWrongFalsely : Prop := fnSayCountRow.holds Try.pinned (OpenSpec.ofChange fnSayCountWrong)

/-- 'laws.FnClaimTable': WHATEVER THE INPUT: true; the input reads as it did. -/
def fnClaimTableSpec : ChangeSpec := { name := "fnClaimTable", fn := fun _ => fun
  | [d] => { results := [.lit (.bool true)], args := [d] }
  | _ => none }
def fnClaimTableRow : OpenClaim := { program := "ytpampekijfjlkab", sum := "840e25600ce2da9b5d468bb2f436b85dd6691ac6f0129657350d40c1b992c54e", func := "loop.example/tellersandliars/laws.FnClaimTable", spec := "fnClaimTable", unfollowed := true, recurses := true, apart := false }
def FnClaimTableSaid : Prop := fnClaimTableRow.holds Try.pinned (OpenSpec.ofChange fnClaimTableSpec)

/-- ITS FALSE NEIGHBOUR: 'it returns false'. Refute it at one input. -/
def fnClaimTableWrong : ChangeSpec := { name := "fnClaimTable", fn := fun _ => fun
  | [d] => { results := [.lit (.bool false)], args := [d] }
  | _ => none }
def FnClaimTableWrongFalsely : Prop := fnClaimTableRow.holds Try.pinned (OpenSpec.ofChange fnClaimTableWrong)

/-- 'laws.FnWordTable': WHATEVER THE INPUT: true; the input reads as it did. -/
def fnWordTableSpec : ChangeSpec := { name := "fnWordTable", fn := fun _ => fun
  | [d] => { results := [.lit (.bool true)], args := [d] }
  | _ => none }
def fnWordTableRow : OpenClaim := { program := "ytpampekijfjlkab", sum := "840e25600ce2da9b5d468bb2f436b85dd6691ac6f0129657350d40c1b992c54e", func := "loop.example/tellersandliars/laws.FnWordTable", spec := "fnWordTable", unfollowed := true, recurses := true, apart := false }
def FnWordTableSaid : Prop := fnWordTableRow.holds Try.pinned (OpenSpec.ofChange fnWordTableSpec)

/-- ITS FALSE NEIGHBOUR: 'it returns false'. Refute it at one input. -/
def fnWordTableWrong : ChangeSpec := { name := "fnWordTable", fn := fun _ => fun
  | [d] => { results := [.lit (.bool false)], args := [d] }
  | _ => none }
def FnWordTableWrongFalsely : Prop := fnWordTableRow.holds Try.pinned (OpenSpec.ofChange fnWordTableWrong)

/-- 'laws.FnStoryTable': WHATEVER THE INPUT: true; the input reads as it did. -/
def fnStoryTableSpec : ChangeSpec := { name := "fnStoryTable", fn := fun _ => fun
  | [d] => { results := [.lit (.bool true)], args := [d] }
  | _ => none }
def fnStoryTableRow : OpenClaim := { program := "ytpampekijfjlkab", sum := "840e25600ce2da9b5d468bb2f436b85dd6691ac6f0129657350d40c1b992c54e", func := "loop.example/tellersandliars/laws.FnStoryTable", spec := "fnStoryTable", unfollowed := true, recurses := true, apart := false }
def FnStoryTableSaid : Prop := fnStoryTableRow.holds Try.pinned (OpenSpec.ofChange fnStoryTableSpec)

/-- ITS FALSE NEIGHBOUR: 'it returns false'. Refute it at one input. -/
def fnStoryTableWrong : ChangeSpec := { name := "fnStoryTable", fn := fun _ => fun
  | [d] => { results := [.lit (.bool false)], args := [d] }
  | _ => none }
def FnStoryTableWrongFalsely : Prop := fnStoryTableRow.holds Try.pinned (OpenSpec.ofChange fnStoryTableWrong)

/-- 'laws.FnClashOk': WHATEVER THE INPUT: true; the input reads as it did. -/
def fnClashOkSpec : ChangeSpec := { name := "fnClashOk", fn := fun _ => fun
  | [d] => { results := [.lit (.bool true)], args := [d] }
  | _ => none }
def fnClashOkRow : OpenClaim := { program := "ytpampekijfjlkab", sum := "840e25600ce2da9b5d468bb2f436b85dd6691ac6f0129657350d40c1b992c54e", func := "loop.example/tellersandliars/laws.FnClashOk", spec := "fnClashOk", unfollowed := true, recurses := true, apart := false }
def FnClashOkSaid : Prop := fnClashOkRow.holds Try.pinned (OpenSpec.ofChange fnClashOkSpec)

/-- ITS FALSE NEIGHBOUR: 'it returns false'. Refute it at one input. -/
def fnClashOkWrong : ChangeSpec := { name := "fnClashOk", fn := fun _ => fun
  | [d] => { results := [.lit (.bool false)], args := [d] }
  | _ => none }
def FnClashOkWrongFalsely : Prop := fnClashOkRow.holds Try.pinned (OpenSpec.ofChange fnClashOkWrong)

/-- 'laws.FnAlikeOk': WHATEVER THE INPUT: true; the input reads as it did. -/
def fnAlikeOkSpec : ChangeSpec := { name := "fnAlikeOk", fn := fun _ => fun
  | [d] => { results := [.lit (.bool true)], args := [d] }
  | _ => none }
def fnAlikeOkRow : OpenClaim := { program := "ytpampekijfjlkab", sum := "840e25600ce2da9b5d468bb2f436b85dd6691ac6f0129657350d40c1b992c54e", func := "loop.example/tellersandliars/laws.FnAlikeOk", spec := "fnAlikeOk", recurses := true, apart := false }
def FnAlikeOkSaid : Prop := fnAlikeOkRow.holds Try.pinned (OpenSpec.ofChange fnAlikeOkSpec)

/-- ITS FALSE NEIGHBOUR: 'it returns false'. Refute it at one input. -/
def fnAlikeOkWrong : ChangeSpec := { name := "fnAlikeOk", fn := fun _ => fun
  | [d] => { results := [.lit (.bool false)], args := [d] }
  | _ => none }
def FnAlikeOkWrongFalsely : Prop := fnAlikeOkRow.holds Try.pinned (OpenSpec.ofChange fnAlikeOkWrong)

/-- 'laws.FnExactStoryTable': WHATEVER THE INPUT: true; the input reads as it did. -/
def fnExactStoryTableSpec : ChangeSpec := { name := "fnExactStoryTable", fn := fun _ => fun
  | [d1, d2] => { results := [.lit (.bool true)], args := [d1, d2] }
  | _ => none }
def fnExactStoryTableRow : OpenClaim := { program := "ytpampekijfjlkab", sum := "840e25600ce2da9b5d468bb2f436b85dd6691ac6f0129657350d40c1b992c54e", func := "loop.example/tellersandliars/laws.FnExactStoryTable", spec := "fnExactStoryTable", unfollowed := true, recurses := true, apart := false }
def FnExactStoryTableSaid : Prop := fnExactStoryTableRow.holds Try.pinned (OpenSpec.ofChange fnExactStoryTableSpec)

/-- ITS FALSE NEIGHBOUR: 'it returns false'. Refute it at one input. -/
def fnExactStoryTableWrong : ChangeSpec := { name := "fnExactStoryTable", fn := fun _ => fun
  | [d1, d2] => { results := [.lit (.bool false)], args := [d1, d2] }
  | _ => none }
def FnExactStoryTableWrongFalsely : Prop := fnExactStoryTableRow.holds Try.pinned (OpenSpec.ofChange fnExactStoryTableWrong)

/-- 'laws.FnExactClashOk': WHATEVER THE INPUT: true; the input reads as it did. -/
def fnExactClashOkSpec : ChangeSpec := { name := "fnExactClashOk", fn := fun _ => fun
  | [d1, d2] => { results := [.lit (.bool true)], args := [d1, d2] }
  | _ => none }
def fnExactClashOkRow : OpenClaim := { program := "ytpampekijfjlkab", sum := "840e25600ce2da9b5d468bb2f436b85dd6691ac6f0129657350d40c1b992c54e", func := "loop.example/tellersandliars/laws.FnExactClashOk", spec := "fnExactClashOk", unfollowed := true, recurses := true, apart := false }
def FnExactClashOkSaid : Prop := fnExactClashOkRow.holds Try.pinned (OpenSpec.ofChange fnExactClashOkSpec)

/-- ITS FALSE NEIGHBOUR: 'it returns false'. Refute it at one input. -/
def fnExactClashOkWrong : ChangeSpec := { name := "fnExactClashOk", fn := fun _ => fun
  | [d1, d2] => { results := [.lit (.bool false)], args := [d1, d2] }
  | _ => none }
def FnExactClashOkWrongFalsely : Prop := fnExactClashOkRow.holds Try.pinned (OpenSpec.ofChange fnExactClashOkWrong)

/-- 'laws.FnAlwaysSaid': WHATEVER THE INPUT: true; the input reads as it did. -/
def fnAlwaysSaidSpec : ChangeSpec := { name := "fnAlwaysSaid", fn := fun _ => fun
  | [d] => { results := [.lit (.bool true)], args := [d] }
  | _ => none }
def fnAlwaysSaidRow : OpenClaim := { program := "ytpampekijfjlkab", sum := "840e25600ce2da9b5d468bb2f436b85dd6691ac6f0129657350d40c1b992c54e", func := "loop.example/tellersandliars/laws.FnAlwaysSaid", spec := "fnAlwaysSaid", unfollowed := true, recurses := true, apart := false }
def FnAlwaysSaidSaid : Prop := fnAlwaysSaidRow.holds Try.pinned (OpenSpec.ofChange fnAlwaysSaidSpec)

/-- ITS FALSE NEIGHBOUR: 'it returns false'. Refute it at one input. -/
def fnAlwaysSaidWrong : ChangeSpec := { name := "fnAlwaysSaid", fn := fun _ => fun
  | [d] => { results := [.lit (.bool false)], args := [d] }
  | _ => none }
def FnAlwaysSaidWrongFalsely : Prop := fnAlwaysSaidRow.holds Try.pinned (OpenSpec.ofChange fnAlwaysSaidWrong)

/-- 'laws.FnNeverSaid': WHATEVER THE INPUT: true; the input reads as it did. -/
def fnNeverSaidSpec : ChangeSpec := { name := "fnNeverSaid", fn := fun _ => fun
  | [d] => { results := [.lit (.bool true)], args := [d] }
  | _ => none }
def fnNeverSaidRow : OpenClaim := { program := "ytpampekijfjlkab", sum := "840e25600ce2da9b5d468bb2f436b85dd6691ac6f0129657350d40c1b992c54e", func := "loop.example/tellersandliars/laws.FnNeverSaid", spec := "fnNeverSaid", unfollowed := true, recurses := true, apart := false }
def FnNeverSaidSaid : Prop := fnNeverSaidRow.holds Try.pinned (OpenSpec.ofChange fnNeverSaidSpec)

/-- ITS FALSE NEIGHBOUR: 'it returns false'. Refute it at one input. -/
def fnNeverSaidWrong : ChangeSpec := { name := "fnNeverSaid", fn := fun _ => fun
  | [d] => { results := [.lit (.bool false)], args := [d] }
  | _ => none }
def FnNeverSaidWrongFalsely : Prop := fnNeverSaidRow.holds Try.pinned (OpenSpec.ofChange fnNeverSaidWrong)

/-- 'laws.FnSpySays': WHATEVER THE INPUT: true; the input reads as it did. -/
def fnSpySaysSpec : ChangeSpec := { name := "fnSpySays", fn := fun _ => fun
  | [d] => { results := [.lit (.bool true)], args := [d] }
  | _ => none }
def fnSpySaysRow : OpenClaim := { program := "ytpampekijfjlkab", sum := "840e25600ce2da9b5d468bb2f436b85dd6691ac6f0129657350d40c1b992c54e", func := "loop.example/tellersandliars/laws.FnSpySays", spec := "fnSpySays", recurses := true, apart := false }
def FnSpySaysSaid : Prop := fnSpySaysRow.holds Try.pinned (OpenSpec.ofChange fnSpySaysSpec)

/-- ITS FALSE NEIGHBOUR: 'it returns false'. Refute it at one input. -/
def fnSpySaysWrong : ChangeSpec := { name := "fnSpySays", fn := fun _ => fun
  | [d] => { results := [.lit (.bool false)], args := [d] }
  | _ => none }
def FnSpySaysWrongFalsely : Prop := fnSpySaysRow.holds Try.pinned (OpenSpec.ofChange fnSpySaysWrong)

/-- 'laws.FnExactOnlyWorld': WHATEVER THE INPUT: true; the input reads as it did. -/
def fnExactOnlyWorldSpec : ChangeSpec := { name := "fnExactOnlyWorld", fn := fun _ => fun
  | [d1, d2] => { results := [.lit (.bool true)], args := [d1, d2] }
  | _ => none }
def fnExactOnlyWorldRow : OpenClaim := { program := "ytpampekijfjlkab", sum := "840e25600ce2da9b5d468bb2f436b85dd6691ac6f0129657350d40c1b992c54e", func := "loop.example/tellersandliars/laws.FnExactOnlyWorld", spec := "fnExactOnlyWorld", unfollowed := true, recurses := true, apart := false }
def FnExactOnlyWorldSaid : Prop := fnExactOnlyWorldRow.holds Try.pinned (OpenSpec.ofChange fnExactOnlyWorldSpec)

/-- ITS FALSE NEIGHBOUR: 'it returns false'. Refute it at one input. -/
def fnExactOnlyWorldWrong : ChangeSpec := { name := "fnExactOnlyWorld", fn := fun _ => fun
  | [d1, d2] => { results := [.lit (.bool false)], args := [d1, d2] }
  | _ => none }
def FnExactOnlyWorldWrongFalsely : Prop := fnExactOnlyWorldRow.holds Try.pinned (OpenSpec.ofChange fnExactOnlyWorldWrong)

/-- 'laws.FnNeedlessClaims': WHATEVER THE INPUT: true; the input reads as it did. -/
def fnNeedlessClaimsSpec : ChangeSpec := { name := "fnNeedlessClaims", fn := fun _ => fun
  | [d] => { results := [.lit (.bool true)], args := [d] }
  | _ => none }
def fnNeedlessClaimsRow : OpenClaim := { program := "ytpampekijfjlkab", sum := "840e25600ce2da9b5d468bb2f436b85dd6691ac6f0129657350d40c1b992c54e", func := "loop.example/tellersandliars/laws.FnNeedlessClaims", spec := "fnNeedlessClaims", unfollowed := true, recurses := true, apart := false }
def FnNeedlessClaimsSaid : Prop := fnNeedlessClaimsRow.holds Try.pinned (OpenSpec.ofChange fnNeedlessClaimsSpec)

/-- ITS FALSE NEIGHBOUR: 'it returns false'. Refute it at one input. -/
def fnNeedlessClaimsWrong : ChangeSpec := { name := "fnNeedlessClaims", fn := fun _ => fun
  | [d] => { results := [.lit (.bool false)], args := [d] }
  | _ => none }
def FnNeedlessClaimsWrongFalsely : Prop := fnNeedlessClaimsRow.holds Try.pinned (OpenSpec.ofChange fnNeedlessClaimsWrong)

/-- 'laws.FnOnlyWorld': WHATEVER THE INPUT: true; the input reads as it did. -/
def fnOnlyWorldSpec : ChangeSpec := { name := "fnOnlyWorld", fn := fun _ => fun
  | [d] => { results := [.lit (.bool true)], args := [d] }
  | _ => none }
def fnOnlyWorldRow : OpenClaim := { program := "ytpampekijfjlkab", sum := "840e25600ce2da9b5d468bb2f436b85dd6691ac6f0129657350d40c1b992c54e", func := "loop.example/tellersandliars/laws.FnOnlyWorld", spec := "fnOnlyWorld", unfollowed := true, recurses := true, apart := false }
def FnOnlyWorldSaid : Prop := fnOnlyWorldRow.holds Try.pinned (OpenSpec.ofChange fnOnlyWorldSpec)

/-- ITS FALSE NEIGHBOUR: 'it returns false'. Refute it at one input. -/
def fnOnlyWorldWrong : ChangeSpec := { name := "fnOnlyWorld", fn := fun _ => fun
  | [d] => { results := [.lit (.bool false)], args := [d] }
  | _ => none }
def FnOnlyWorldWrongFalsely : Prop := fnOnlyWorldRow.holds Try.pinned (OpenSpec.ofChange fnOnlyWorldWrong)

/-- 'laws.FnExactNeedlessClaims': WHATEVER THE INPUT: true; the input reads as it did. -/
def fnExactNeedlessClaimsSpec : ChangeSpec := { name := "fnExactNeedlessClaims", fn := fun _ => fun
  | [d1, d2] => { results := [.lit (.bool true)], args := [d1, d2] }
  | _ => none }
def fnExactNeedlessClaimsRow : OpenClaim := { program := "ytpampekijfjlkab", sum := "840e25600ce2da9b5d468bb2f436b85dd6691ac6f0129657350d40c1b992c54e", func := "loop.example/tellersandliars/laws.FnExactNeedlessClaims", spec := "fnExactNeedlessClaims", unfollowed := true, recurses := true, apart := false }
def FnExactNeedlessClaimsSaid : Prop := fnExactNeedlessClaimsRow.holds Try.pinned (OpenSpec.ofChange fnExactNeedlessClaimsSpec)

/-- ITS FALSE NEIGHBOUR: 'it returns false'. Refute it at one input. -/
def fnExactNeedlessClaimsWrong : ChangeSpec := { name := "fnExactNeedlessClaims", fn := fun _ => fun
  | [d1, d2] => { results := [.lit (.bool false)], args := [d1, d2] }
  | _ => none }
def FnExactNeedlessClaimsWrongFalsely : Prop := fnExactNeedlessClaimsRow.holds Try.pinned (OpenSpec.ofChange fnExactNeedlessClaimsWrong)

/-- 'laws.FnKnownPeople': WHATEVER THE INPUT: true; the input reads as it did. -/
def fnKnownPeopleSpec : ChangeSpec := { name := "fnKnownPeople", fn := fun _ => fun
  | [d] => { results := [.lit (.bool true)], args := [d] }
  | _ => none }
def fnKnownPeopleRow : OpenClaim := { program := "ytpampekijfjlkab", sum := "840e25600ce2da9b5d468bb2f436b85dd6691ac6f0129657350d40c1b992c54e", func := "loop.example/tellersandliars/laws.FnKnownPeople", spec := "fnKnownPeople", unfollowed := true, recurses := true, apart := false }
def FnKnownPeopleSaid : Prop := fnKnownPeopleRow.holds Try.pinned (OpenSpec.ofChange fnKnownPeopleSpec)

/-- ITS FALSE NEIGHBOUR: 'it returns false'. Refute it at one input. -/
def fnKnownPeopleWrong : ChangeSpec := { name := "fnKnownPeople", fn := fun _ => fun
  | [d] => { results := [.lit (.bool false)], args := [d] }
  | _ => none }
def FnKnownPeopleWrongFalsely : Prop := fnKnownPeopleRow.holds Try.pinned (OpenSpec.ofChange fnKnownPeopleWrong)

/- THE SECOND FORM. 'bulk': how many values and letters a reading holds, each counted each time it is reached (what is shared counts as often as it is met; a slice's spare places count too). A statement '..UptoSaid' is the law's where the arguments, and the package variables that the reading takes, are together of bulk at most 1048576: NARROWER than '..Said'. Prove '..Said' where nothing that the law and all that it calls make is longer than what came in: it says more and counts as full. Else prove '..UptoSaid'. A law counts once. -/
mutual
def uptoBulk {H : Type} : DataW H → Nat
  | .lit (.string bytes) => bytes.length + 1
  | .lit _ => 1
  | .nil => 1
  | .ptr d => uptoBulk d + 1
  | .slice elems spare => uptoBulkAll elems + uptoBulkAll spare + 1
  | .agg parts => uptoBulkAll parts + 1
  | .iface _ d => uptoBulk d + 1
  | .map entries => uptoBulkEntries entries + 1
  | .held _ => 1
def uptoBulkAll {H : Type} : List (DataW H) → Nat
  | [] => 0
  | d :: r => uptoBulk d + uptoBulkAll r
def uptoBulkEntries {H : Type} : List (Lit × DataW H) → Nat
  | [] => 0
  | x :: r => uptoBulkEntry x + uptoBulkEntries r
def uptoBulkEntry {H : Type} : Lit × DataW H → Nat
  | (.string bytes, d) => bytes.length + uptoBulk d + 1
  | (_, d) => uptoBulk d + 1
 end
def uptoSmall : (H : Type) → List (DataW H) → Bool := fun _ ds => decide (uptoBulkAll ds ≤ 1048576)
def OpenSpec.upto (s : _root_.Go.ChangeSpec) : _root_.Go.OpenSpec := { _root_.Go.OpenSpec.ofChange s with cond := some uptoSmall }

/-- 'laws.FnKnownFollows', WHERE WHAT IT READS IS OF BULK AT MOST 1048576: true; the input reads as it did. -/
def fnKnownFollowsUptoRow : OpenClaim := { program := "ytpampekijfjlkab", sum := "840e25600ce2da9b5d468bb2f436b85dd6691ac6f0129657350d40c1b992c54e", func := "loop.example/tellersandliars/laws.FnKnownFollows", spec := "fnKnownFollows", unfollowed := true, recurses := true, apart := false, narrowed := true }
def FnKnownFollowsUptoSaid : Prop := fnKnownFollowsUptoRow.holds Try.pinned (OpenSpec.upto fnKnownFollowsSpec)

/-- 'laws.FnExactSpySays', WHERE WHAT IT READS IS OF BULK AT MOST 1048576: true; the input reads as it did. -/
def fnExactSpySaysUptoRow : OpenClaim := { program := "ytpampekijfjlkab", sum := "840e25600ce2da9b5d468bb2f436b85dd6691ac6f0129657350d40c1b992c54e", func := "loop.example/tellersandliars/laws.FnExactSpySays", spec := "fnExactSpySays", recurses := true, apart := false, narrowed := true }
def FnExactSpySaysUptoSaid : Prop := fnExactSpySaysUptoRow.holds Try.pinned (OpenSpec.upto fnExactSpySaysSpec)

/-- 'laws.FnMaySay', WHERE WHAT IT READS IS OF BULK AT MOST 1048576: true; the input reads as it did. -/
def fnMaySayUptoRow : OpenClaim := { program := "ytpampekijfjlkab", sum := "840e25600ce2da9b5d468bb2f436b85dd6691ac6f0129657350d40c1b992c54e", func := "loop.example/tellersandliars/laws.FnMaySay", spec := "fnMaySay", recurses := true, apart := false, narrowed := true }
def FnMaySayUptoSaid : Prop := fnMaySayUptoRow.holds Try.pinned (OpenSpec.upto fnMaySaySpec)

/-- 'laws.FnSayCount', WHERE WHAT IT READS IS OF BULK AT MOST 1048576: true; the input reads as it did. -/
def fnSayCountUptoRow : OpenClaim := { program := "ytpampekijfjlkab", sum := "840e25600ce2da9b5d468bb2f436b85dd6691ac6f0129657350d40c1b992c54e", func := "loop.example/tellersandliars/laws.FnSayCount", spec := "fnSayCount", unfollowed := true, recurses := true, apart := false, narrowed := true }
def FnSayCountUptoSaid : Prop := fnSayCountUptoRow.holds Try.pinned (OpenSpec.upto fnSayCountSpec)

/-- 'laws.FnClaimTable', WHERE WHAT IT READS IS OF BULK AT MOST 1048576: true; the input reads as it did. -/
def fnClaimTableUptoRow : OpenClaim := { program := "ytpampekijfjlkab", sum := "840e25600ce2da9b5d468bb2f436b85dd6691ac6f0129657350d40c1b992c54e", func := "loop.example/tellersandliars/laws.FnClaimTable", spec := "fnClaimTable", unfollowed := true, recurses := true, apart := false, narrowed := true }
def FnClaimTableUptoSaid : Prop := fnClaimTableUptoRow.holds Try.pinned (OpenSpec.upto fnClaimTableSpec)

/-- 'laws.FnWordTable', WHERE WHAT IT READS IS OF BULK AT MOST 1048576: true; the input reads as it did. -/
def fnWordTableUptoRow : OpenClaim := { program := "ytpampekijfjlkab", sum := "840e25600ce2da9b5d468bb2f436b85dd6691ac6f0129657350d40c1b992c54e", func := "loop.example/tellersandliars/laws.FnWordTable", spec := "fnWordTable", unfollowed := true, recurses := true, apart := false, narrowed := true }
def FnWordTableUptoSaid : Prop := fnWordTableUptoRow.holds Try.pinned (OpenSpec.upto fnWordTableSpec)

/-- 'laws.FnStoryTable', WHERE WHAT IT READS IS OF BULK AT MOST 1048576: true; the input reads as it did. -/
def fnStoryTableUptoRow : OpenClaim := { program := "ytpampekijfjlkab", sum := "840e25600ce2da9b5d468bb2f436b85dd6691ac6f0129657350d40c1b992c54e", func := "loop.example/tellersandliars/laws.FnStoryTable", spec := "fnStoryTable", unfollowed := true, recurses := true, apart := false, narrowed := true }
def FnStoryTableUptoSaid : Prop := fnStoryTableUptoRow.holds Try.pinned (OpenSpec.upto fnStoryTableSpec)

/-- 'laws.FnClashOk', WHERE WHAT IT READS IS OF BULK AT MOST 1048576: true; the input reads as it did. -/
def fnClashOkUptoRow : OpenClaim := { program := "ytpampekijfjlkab", sum := "840e25600ce2da9b5d468bb2f436b85dd6691ac6f0129657350d40c1b992c54e", func := "loop.example/tellersandliars/laws.FnClashOk", spec := "fnClashOk", unfollowed := true, recurses := true, apart := false, narrowed := true }
def FnClashOkUptoSaid : Prop := fnClashOkUptoRow.holds Try.pinned (OpenSpec.upto fnClashOkSpec)

/-- 'laws.FnAlikeOk', WHERE WHAT IT READS IS OF BULK AT MOST 1048576: true; the input reads as it did. -/
def fnAlikeOkUptoRow : OpenClaim := { program := "ytpampekijfjlkab", sum := "840e25600ce2da9b5d468bb2f436b85dd6691ac6f0129657350d40c1b992c54e", func := "loop.example/tellersandliars/laws.FnAlikeOk", spec := "fnAlikeOk", recurses := true, apart := false, narrowed := true }
def FnAlikeOkUptoSaid : Prop := fnAlikeOkUptoRow.holds Try.pinned (OpenSpec.upto fnAlikeOkSpec)

/-- 'laws.FnExactStoryTable', WHERE WHAT IT READS IS OF BULK AT MOST 1048576: true; the input reads as it did. -/
def fnExactStoryTableUptoRow : OpenClaim := { program := "ytpampekijfjlkab", sum := "840e25600ce2da9b5d468bb2f436b85dd6691ac6f0129657350d40c1b992c54e", func := "loop.example/tellersandliars/laws.FnExactStoryTable", spec := "fnExactStoryTable", unfollowed := true, recurses := true, apart := false, narrowed := true }
def FnExactStoryTableUptoSaid : Prop := fnExactStoryTableUptoRow.holds Try.pinned (OpenSpec.upto fnExactStoryTableSpec)

/-- 'laws.FnExactClashOk', WHERE WHAT IT READS IS OF BULK AT MOST 1048576: true; the input reads as it did. -/
def fnExactClashOkUptoRow : OpenClaim := { program := "ytpampekijfjlkab", sum := "840e25600ce2da9b5d468bb2f436b85dd6691ac6f0129657350d40c1b992c54e", func := "loop.example/tellersandliars/laws.FnExactClashOk", spec := "fnExactClashOk", unfollowed := true, recurses := true, apart := false, narrowed := true }
def FnExactClashOkUptoSaid : Prop := fnExactClashOkUptoRow.holds Try.pinned (OpenSpec.upto fnExactClashOkSpec)

/-- 'laws.FnAlwaysSaid', WHERE WHAT IT READS IS OF BULK AT MOST 1048576: true; the input reads as it did. -/
def fnAlwaysSaidUptoRow : OpenClaim := { program := "ytpampekijfjlkab", sum := "840e25600ce2da9b5d468bb2f436b85dd6691ac6f0129657350d40c1b992c54e", func := "loop.example/tellersandliars/laws.FnAlwaysSaid", spec := "fnAlwaysSaid", unfollowed := true, recurses := true, apart := false, narrowed := true }
def FnAlwaysSaidUptoSaid : Prop := fnAlwaysSaidUptoRow.holds Try.pinned (OpenSpec.upto fnAlwaysSaidSpec)

/-- 'laws.FnNeverSaid', WHERE WHAT IT READS IS OF BULK AT MOST 1048576: true; the input reads as it did. -/
def fnNeverSaidUptoRow : OpenClaim := { program := "ytpampekijfjlkab", sum := "840e25600ce2da9b5d468bb2f436b85dd6691ac6f0129657350d40c1b992c54e", func := "loop.example/tellersandliars/laws.FnNeverSaid", spec := "fnNeverSaid", unfollowed := true, recurses := true, apart := false, narrowed := true }
def FnNeverSaidUptoSaid : Prop := fnNeverSaidUptoRow.holds Try.pinned (OpenSpec.upto fnNeverSaidSpec)

/-- 'laws.FnSpySays', WHERE WHAT IT READS IS OF BULK AT MOST 1048576: true; the input reads as it did. -/
def fnSpySaysUptoRow : OpenClaim := { program := "ytpampekijfjlkab", sum := "840e25600ce2da9b5d468bb2f436b85dd6691ac6f0129657350d40c1b992c54e", func := "loop.example/tellersandliars/laws.FnSpySays", spec := "fnSpySays", recurses := true, apart := false, narrowed := true }
def FnSpySaysUptoSaid : Prop := fnSpySaysUptoRow.holds Try.pinned (OpenSpec.upto fnSpySaysSpec)

/-- 'laws.FnExactOnlyWorld', WHERE WHAT IT READS IS OF BULK AT MOST 1048576: true; the input reads as it did. -/
def fnExactOnlyWorldUptoRow : OpenClaim := { program := "ytpampekijfjlkab", sum := "840e25600ce2da9b5d468bb2f436b85dd6691ac6f0129657350d40c1b992c54e", func := "loop.example/tellersandliars/laws.FnExactOnlyWorld", spec := "fnExactOnlyWorld", unfollowed := true, recurses := true, apart := false, narrowed := true }
def FnExactOnlyWorldUptoSaid : Prop := fnExactOnlyWorldUptoRow.holds Try.pinned (OpenSpec.upto fnExactOnlyWorldSpec)

/-- 'laws.FnNeedlessClaims', WHERE WHAT IT READS IS OF BULK AT MOST 1048576: true; the input reads as it did. -/
def fnNeedlessClaimsUptoRow : OpenClaim := { program := "ytpampekijfjlkab", sum := "840e25600ce2da9b5d468bb2f436b85dd6691ac6f0129657350d40c1b992c54e", func := "loop.example/tellersandliars/laws.FnNeedlessClaims", spec := "fnNeedlessClaims", unfollowed := true, recurses := true, apart := false, narrowed := true }
def FnNeedlessClaimsUptoSaid : Prop := fnNeedlessClaimsUptoRow.holds Try.pinned (OpenSpec.upto fnNeedlessClaimsSpec)

/-- 'laws.FnOnlyWorld', WHERE WHAT IT READS IS OF BULK AT MOST 1048576: true; the input reads as it did. -/
def fnOnlyWorldUptoRow : OpenClaim := { program := "ytpampekijfjlkab", sum := "840e25600ce2da9b5d468bb2f436b85dd6691ac6f0129657350d40c1b992c54e", func := "loop.example/tellersandliars/laws.FnOnlyWorld", spec := "fnOnlyWorld", unfollowed := true, recurses := true, apart := false, narrowed := true }
def FnOnlyWorldUptoSaid : Prop := fnOnlyWorldUptoRow.holds Try.pinned (OpenSpec.upto fnOnlyWorldSpec)

/-- 'laws.FnExactNeedlessClaims', WHERE WHAT IT READS IS OF BULK AT MOST 1048576: true; the input reads as it did. -/
def fnExactNeedlessClaimsUptoRow : OpenClaim := { program := "ytpampekijfjlkab", sum := "840e25600ce2da9b5d468bb2f436b85dd6691ac6f0129657350d40c1b992c54e", func := "loop.example/tellersandliars/laws.FnExactNeedlessClaims", spec := "fnExactNeedlessClaims", unfollowed := true, recurses := true, apart := false, narrowed := true }
def FnExactNeedlessClaimsUptoSaid : Prop := fnExactNeedlessClaimsUptoRow.holds Try.pinned (OpenSpec.upto fnExactNeedlessClaimsSpec)

/-- 'laws.FnKnownPeople', WHERE WHAT IT READS IS OF BULK AT MOST 1048576: true; the input reads as it did. -/
def fnKnownPeopleUptoRow : OpenClaim := { program := "ytpampekijfjlkab", sum := "840e25600ce2da9b5d468bb2f436b85dd6691ac6f0129657350d40c1b992c54e", func := "loop.example/tellersandliars/laws.FnKnownPeople", spec := "fnKnownPeople", unfollowed := true, recurses := true, apart := false, narrowed := true }
def FnKnownPeopleUptoSaid : Prop := fnKnownPeopleUptoRow.holds Try.pinned (OpenSpec.upto fnKnownPeopleSpec)

end Rows
end Go.Proofs.Ytpampekijfjlkab
