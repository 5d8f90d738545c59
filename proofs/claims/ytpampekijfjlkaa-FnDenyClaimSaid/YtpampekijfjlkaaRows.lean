/-
  No cell of these rows narrows 'for every input' (looked for: loops, veiled, ifaces, maps, wideKeys, modest, calm, conditions, laid).
  DERIVED. THE GIVEN ROWS OF THIS SEAT. 20 by the template 'for every input the law returns true; each argument reads behind the call as it read before'; 0 by the template 'total and deterministic' (their statements: YtpampekijfjlkaaTotals.lean).
  GIVEN WITH THE SEED: the statements are not yours to turn. If you find one false, say at which input.
  Laid BY PROGRAM, IN A SANDBOX (cutbox-rows.mjs): the forced cells as the released guide's own fill.sh prints them over the translation b087d58af050d6ca… (all of the seat's roots in one cut). By AI agents, Wed Nov 11 2026. No macro, syntax, notation, axiom, sorry.
-/
import Derived.Test.YtpampekijfjlkaaChecked
import GoSem.Claim
import GoSem.ClaimJoined
import GoSem.ClaimMapViews
import Derived.JoinedTies
import Derived.KernelRfl
namespace Go.Proofs.Ytpampekijfjlkaa
/- THE CELL 'sum', in the pinned program and in every row, IS THE sha256 OF THE DUMP (.gsa) THAT YtpampekijfjlkaaProg.lean LOADS. Nothing in Lean hashes anything: it is a label: what it is worth is what the hold of that sum in a sandbox is worth. -/
noncomputable def Try.pinned : Pinned := { name := "ytpampekijfjlkaa", sum := "b087d58af050d6cadef2d7b00edc26c9f0c07e4a085a4890f706407428d7c758", checked := Try.checked }
namespace Rows
def none {H : Type} : Left H := { results := [], args := [] }

/-- 'laws.FnExactLeastStory': WHATEVER THE INPUT: true; the input reads as it did. -/
def fnExactLeastStorySpec : ChangeSpec := { name := "fnExactLeastStory", fn := fun _ => fun
  | [d1, d2] => { results := [.lit (.bool true)], args := [d1, d2] }
  | _ => none }
def fnExactLeastStoryRow : OpenClaim := { program := "ytpampekijfjlkaa", sum := "b087d58af050d6cadef2d7b00edc26c9f0c07e4a085a4890f706407428d7c758", func := "loop.example/tellersandliars/laws.FnExactLeastStory", spec := "fnExactLeastStory", unfollowed := true, recurses := true, apart := false }
def FnExactLeastStorySaid : Prop := fnExactLeastStoryRow.holds Try.pinned (OpenSpec.ofChange fnExactLeastStorySpec)

/-- ITS FALSE NEIGHBOUR: 'it returns false'. Refute it at one input. -/
def fnExactLeastStoryWrong : ChangeSpec := { name := "fnExactLeastStory", fn := fun _ => fun
  | [d1, d2] => { results := [.lit (.bool false)], args := [d1, d2] }
  | _ => none }
def FnExactLeastStoryWrongFalsely : Prop := fnExactLeastStoryRow.holds Try.pinned (OpenSpec.ofChange fnExactLeastStoryWrong)

/-- 'laws.FnExactAnswerIn': WHATEVER THE INPUT: true; the input reads as it did. -/
def fnExactAnswerInSpec : ChangeSpec := { name := "fnExactAnswerIn", fn := fun _ => fun
  | [d1, d2, d3, d4] => { results := [.lit (.bool true)], args := [d1, d2, d3, d4] }
  | _ => none }
def fnExactAnswerInRow : OpenClaim := { program := "ytpampekijfjlkaa", sum := "b087d58af050d6cadef2d7b00edc26c9f0c07e4a085a4890f706407428d7c758", func := "loop.example/tellersandliars/laws.FnExactAnswerIn", spec := "fnExactAnswerIn", recurses := true, apart := false }
def FnExactAnswerInSaid : Prop := fnExactAnswerInRow.holds Try.pinned (OpenSpec.ofChange fnExactAnswerInSpec)

/-- ITS FALSE NEIGHBOUR: 'it returns false'. Refute it at one input. -/
def fnExactAnswerInWrong : ChangeSpec := { name := "fnExactAnswerIn", fn := fun _ => fun
  | [d1, d2, d3, d4] => { results := [.lit (.bool false)], args := [d1, d2, d3, d4] }
  | _ => none }
def FnExactAnswerInWrongFalsely : Prop := fnExactAnswerInRow.holds Try.pinned (OpenSpec.ofChange fnExactAnswerInWrong)

/-- 'laws.FnStrangeSame': WHATEVER THE INPUT: true; the input reads as it did. -/
def fnStrangeSameSpec : ChangeSpec := { name := "fnStrangeSame", fn := fun _ => fun
  | [d] => { results := [.lit (.bool true)], args := [d] }
  | _ => none }
def fnStrangeSameRow : OpenClaim := { program := "ytpampekijfjlkaa", sum := "b087d58af050d6cadef2d7b00edc26c9f0c07e4a085a4890f706407428d7c758", func := "loop.example/tellersandliars/laws.FnStrangeSame", spec := "fnStrangeSame", apart := false }
def FnStrangeSameSaid : Prop := fnStrangeSameRow.holds Try.pinned (OpenSpec.ofChange fnStrangeSameSpec)

/-- ITS FALSE NEIGHBOUR: 'it returns false'. Refute it at one input. -/
def fnStrangeSameWrong : ChangeSpec := { name := "fnStrangeSame", fn := fun _ => fun
  | [d] => { results := [.lit (.bool false)], args := [d] }
  | _ => none }
def FnStrangeSameWrongFalsely : Prop := fnStrangeSameRow.holds Try.pinned (OpenSpec.ofChange fnStrangeSameWrong)

/-- 'laws.FnExactAlikeOk': WHATEVER THE INPUT: true; the input reads as it did. -/
def fnExactAlikeOkSpec : ChangeSpec := { name := "fnExactAlikeOk", fn := fun _ => fun
  | [d1, d2, d3] => { results := [.lit (.bool true)], args := [d1, d2, d3] }
  | _ => none }
def fnExactAlikeOkRow : OpenClaim := { program := "ytpampekijfjlkaa", sum := "b087d58af050d6cadef2d7b00edc26c9f0c07e4a085a4890f706407428d7c758", func := "loop.example/tellersandliars/laws.FnExactAlikeOk", spec := "fnExactAlikeOk", recurses := true, apart := false }
def FnExactAlikeOkSaid : Prop := fnExactAlikeOkRow.holds Try.pinned (OpenSpec.ofChange fnExactAlikeOkSpec)

/-- ITS FALSE NEIGHBOUR: 'it returns false'. Refute it at one input. -/
def fnExactAlikeOkWrong : ChangeSpec := { name := "fnExactAlikeOk", fn := fun _ => fun
  | [d1, d2, d3] => { results := [.lit (.bool false)], args := [d1, d2, d3] }
  | _ => none }
def FnExactAlikeOkWrongFalsely : Prop := fnExactAlikeOkRow.holds Try.pinned (OpenSpec.ofChange fnExactAlikeOkWrong)

/-- 'laws.FnExactWordIn': WHATEVER THE INPUT: true; the input reads as it did. -/
def fnExactWordInSpec : ChangeSpec := { name := "fnExactWordIn", fn := fun _ => fun
  | [d1, d2, d3, d4] => { results := [.lit (.bool true)], args := [d1, d2, d3, d4] }
  | _ => none }
def fnExactWordInRow : OpenClaim := { program := "ytpampekijfjlkaa", sum := "b087d58af050d6cadef2d7b00edc26c9f0c07e4a085a4890f706407428d7c758", func := "loop.example/tellersandliars/laws.FnExactWordIn", spec := "fnExactWordIn", recurses := true, apart := false }
def FnExactWordInSaid : Prop := fnExactWordInRow.holds Try.pinned (OpenSpec.ofChange fnExactWordInSpec)

/-- ITS FALSE NEIGHBOUR: 'it returns false'. Refute it at one input. -/
def fnExactWordInWrong : ChangeSpec := { name := "fnExactWordIn", fn := fun _ => fun
  | [d1, d2, d3, d4] => { results := [.lit (.bool false)], args := [d1, d2, d3, d4] }
  | _ => none }
def FnExactWordInWrongFalsely : Prop := fnExactWordInRow.holds Try.pinned (OpenSpec.ofChange fnExactWordInWrong)

/-- 'laws.FnTwoClaims': WHATEVER THE INPUT: true; the input reads as it did. -/
def fnTwoClaimsSpec : ChangeSpec := { name := "fnTwoClaims", fn := fun _ => fun
  | [d] => { results := [.lit (.bool true)], args := [d] }
  | _ => none }
def fnTwoClaimsRow : OpenClaim := { program := "ytpampekijfjlkaa", sum := "b087d58af050d6cadef2d7b00edc26c9f0c07e4a085a4890f706407428d7c758", func := "loop.example/tellersandliars/laws.FnTwoClaims", spec := "fnTwoClaims", unfollowed := true, recurses := true, apart := false }
def FnTwoClaimsSaid : Prop := fnTwoClaimsRow.holds Try.pinned (OpenSpec.ofChange fnTwoClaimsSpec)

/-- ITS FALSE NEIGHBOUR: 'it returns false'. Refute it at one input. -/
def fnTwoClaimsWrong : ChangeSpec := { name := "fnTwoClaims", fn := fun _ => fun
  | [d] => { results := [.lit (.bool false)], args := [d] }
  | _ => none }
def FnTwoClaimsWrongFalsely : Prop := fnTwoClaimsRow.holds Try.pinned (OpenSpec.ofChange fnTwoClaimsWrong)

/-- 'laws.FnExactKnownPeople': WHATEVER THE INPUT: true; the input reads as it did. -/
def fnExactKnownPeopleSpec : ChangeSpec := { name := "fnExactKnownPeople", fn := fun _ => fun
  | [d1, d2] => { results := [.lit (.bool true)], args := [d1, d2] }
  | _ => none }
def fnExactKnownPeopleRow : OpenClaim := { program := "ytpampekijfjlkaa", sum := "b087d58af050d6cadef2d7b00edc26c9f0c07e4a085a4890f706407428d7c758", func := "loop.example/tellersandliars/laws.FnExactKnownPeople", spec := "fnExactKnownPeople", unfollowed := true, recurses := true, apart := false }
def FnExactKnownPeopleSaid : Prop := fnExactKnownPeopleRow.holds Try.pinned (OpenSpec.ofChange fnExactKnownPeopleSpec)

/-- ITS FALSE NEIGHBOUR: 'it returns false'. Refute it at one input. -/
def fnExactKnownPeopleWrong : ChangeSpec := { name := "fnExactKnownPeople", fn := fun _ => fun
  | [d1, d2] => { results := [.lit (.bool false)], args := [d1, d2] }
  | _ => none }
def FnExactKnownPeopleWrongFalsely : Prop := fnExactKnownPeopleRow.holds Try.pinned (OpenSpec.ofChange fnExactKnownPeopleWrong)

/-- 'laws.FnChainTerm': WHATEVER THE INPUT: true; the input reads as it did. -/
def fnChainTermSpec : ChangeSpec := { name := "fnChainTerm", fn := fun _ => fun
  | [d] => { results := [.lit (.bool true)], args := [d] }
  | _ => none }
def fnChainTermRow : OpenClaim := { program := "ytpampekijfjlkaa", sum := "b087d58af050d6cadef2d7b00edc26c9f0c07e4a085a4890f706407428d7c758", func := "loop.example/tellersandliars/laws.FnChainTerm", spec := "fnChainTerm", apart := false }
def FnChainTermSaid : Prop := fnChainTermRow.holds Try.pinned (OpenSpec.ofChange fnChainTermSpec)

/-- ITS FALSE NEIGHBOUR: 'it returns false'. Refute it at one input. -/
def fnChainTermWrong : ChangeSpec := { name := "fnChainTerm", fn := fun _ => fun
  | [d] => { results := [.lit (.bool false)], args := [d] }
  | _ => none }
def FnChainTermWrongFalsely : Prop := fnChainTermRow.holds Try.pinned (OpenSpec.ofChange fnChainTermWrong)

/-- 'laws.FnTrickTerm': WHATEVER THE INPUT: true; the input reads as it did. -/
def fnTrickTermSpec : ChangeSpec := { name := "fnTrickTerm", fn := fun _ => fun
  | [d] => { results := [.lit (.bool true)], args := [d] }
  | _ => none }
def fnTrickTermRow : OpenClaim := { program := "ytpampekijfjlkaa", sum := "b087d58af050d6cadef2d7b00edc26c9f0c07e4a085a4890f706407428d7c758", func := "loop.example/tellersandliars/laws.FnTrickTerm", spec := "fnTrickTerm", apart := false }
def FnTrickTermSaid : Prop := fnTrickTermRow.holds Try.pinned (OpenSpec.ofChange fnTrickTermSpec)

/-- ITS FALSE NEIGHBOUR: 'it returns false'. Refute it at one input. -/
def fnTrickTermWrong : ChangeSpec := { name := "fnTrickTerm", fn := fun _ => fun
  | [d] => { results := [.lit (.bool false)], args := [d] }
  | _ => none }
def FnTrickTermWrongFalsely : Prop := fnTrickTermRow.holds Try.pinned (OpenSpec.ofChange fnTrickTermWrong)

/-- 'laws.FnTrickTwice': WHATEVER THE INPUT: true; the input reads as it did. -/
def fnTrickTwiceSpec : ChangeSpec := { name := "fnTrickTwice", fn := fun _ => fun
  | [d] => { results := [.lit (.bool true)], args := [d] }
  | _ => none }
def fnTrickTwiceRow : OpenClaim := { program := "ytpampekijfjlkaa", sum := "b087d58af050d6cadef2d7b00edc26c9f0c07e4a085a4890f706407428d7c758", func := "loop.example/tellersandliars/laws.FnTrickTwice", spec := "fnTrickTwice", unfollowed := true, recurses := true, apart := false }
def FnTrickTwiceSaid : Prop := fnTrickTwiceRow.holds Try.pinned (OpenSpec.ofChange fnTrickTwiceSpec)

/-- ITS FALSE NEIGHBOUR: 'it returns false'. Refute it at one input. -/
def fnTrickTwiceWrong : ChangeSpec := { name := "fnTrickTwice", fn := fun _ => fun
  | [d] => { results := [.lit (.bool false)], args := [d] }
  | _ => none }
def FnTrickTwiceWrongFalsely : Prop := fnTrickTwiceRow.holds Try.pinned (OpenSpec.ofChange fnTrickTwiceWrong)

/-- 'laws.FnStrangeTerm': WHATEVER THE INPUT: true; the input reads as it did. -/
def fnStrangeTermSpec : ChangeSpec := { name := "fnStrangeTerm", fn := fun _ => fun
  | [d] => { results := [.lit (.bool true)], args := [d] }
  | _ => none }
def fnStrangeTermRow : OpenClaim := { program := "ytpampekijfjlkaa", sum := "b087d58af050d6cadef2d7b00edc26c9f0c07e4a085a4890f706407428d7c758", func := "loop.example/tellersandliars/laws.FnStrangeTerm", spec := "fnStrangeTerm", apart := false }
def FnStrangeTermSaid : Prop := fnStrangeTermRow.holds Try.pinned (OpenSpec.ofChange fnStrangeTermSpec)

/-- ITS FALSE NEIGHBOUR: 'it returns false'. Refute it at one input. -/
def fnStrangeTermWrong : ChangeSpec := { name := "fnStrangeTerm", fn := fun _ => fun
  | [d] => { results := [.lit (.bool false)], args := [d] }
  | _ => none }
def FnStrangeTermWrongFalsely : Prop := fnStrangeTermRow.holds Try.pinned (OpenSpec.ofChange fnStrangeTermWrong)

/-- 'laws.FnExactClaimTable': WHATEVER THE INPUT: true; the input reads as it did. -/
def fnExactClaimTableSpec : ChangeSpec := { name := "fnExactClaimTable", fn := fun _ => fun
  | [d1, d2] => { results := [.lit (.bool true)], args := [d1, d2] }
  | _ => none }
def fnExactClaimTableRow : OpenClaim := { program := "ytpampekijfjlkaa", sum := "b087d58af050d6cadef2d7b00edc26c9f0c07e4a085a4890f706407428d7c758", func := "loop.example/tellersandliars/laws.FnExactClaimTable", spec := "fnExactClaimTable", unfollowed := true, recurses := true, apart := false }
def FnExactClaimTableSaid : Prop := fnExactClaimTableRow.holds Try.pinned (OpenSpec.ofChange fnExactClaimTableSpec)

/-- ITS FALSE NEIGHBOUR: 'it returns false'. Refute it at one input. -/
def fnExactClaimTableWrong : ChangeSpec := { name := "fnExactClaimTable", fn := fun _ => fun
  | [d1, d2] => { results := [.lit (.bool false)], args := [d1, d2] }
  | _ => none }
def FnExactClaimTableWrongFalsely : Prop := fnExactClaimTableRow.holds Try.pinned (OpenSpec.ofChange fnExactClaimTableWrong)

/-- 'laws.FnExactAlwaysSaid': WHATEVER THE INPUT: true; the input reads as it did. -/
def fnExactAlwaysSaidSpec : ChangeSpec := { name := "fnExactAlwaysSaid", fn := fun _ => fun
  | [d1, d2] => { results := [.lit (.bool true)], args := [d1, d2] }
  | _ => none }
def fnExactAlwaysSaidRow : OpenClaim := { program := "ytpampekijfjlkaa", sum := "b087d58af050d6cadef2d7b00edc26c9f0c07e4a085a4890f706407428d7c758", func := "loop.example/tellersandliars/laws.FnExactAlwaysSaid", spec := "fnExactAlwaysSaid", unfollowed := true, recurses := true, apart := false }
def FnExactAlwaysSaidSaid : Prop := fnExactAlwaysSaidRow.holds Try.pinned (OpenSpec.ofChange fnExactAlwaysSaidSpec)

/-- ITS FALSE NEIGHBOUR: 'it returns false'. Refute it at one input. -/
def fnExactAlwaysSaidWrong : ChangeSpec := { name := "fnExactAlwaysSaid", fn := fun _ => fun
  | [d1, d2] => { results := [.lit (.bool false)], args := [d1, d2] }
  | _ => none }
def FnExactAlwaysSaidWrongFalsely : Prop := fnExactAlwaysSaidRow.holds Try.pinned (OpenSpec.ofChange fnExactAlwaysSaidWrong)

/-- 'laws.FnExactNeverSaid': WHATEVER THE INPUT: true; the input reads as it did. -/
def fnExactNeverSaidSpec : ChangeSpec := { name := "fnExactNeverSaid", fn := fun _ => fun
  | [d1, d2] => { results := [.lit (.bool true)], args := [d1, d2] }
  | _ => none }
def fnExactNeverSaidRow : OpenClaim := { program := "ytpampekijfjlkaa", sum := "b087d58af050d6cadef2d7b00edc26c9f0c07e4a085a4890f706407428d7c758", func := "loop.example/tellersandliars/laws.FnExactNeverSaid", spec := "fnExactNeverSaid", unfollowed := true, recurses := true, apart := false }
def FnExactNeverSaidSaid : Prop := fnExactNeverSaidRow.holds Try.pinned (OpenSpec.ofChange fnExactNeverSaidSpec)

/-- ITS FALSE NEIGHBOUR: 'it returns false'. Refute it at one input. -/
def fnExactNeverSaidWrong : ChangeSpec := { name := "fnExactNeverSaid", fn := fun _ => fun
  | [d1, d2] => { results := [.lit (.bool false)], args := [d1, d2] }
  | _ => none }
def FnExactNeverSaidWrongFalsely : Prop := fnExactNeverSaidRow.holds Try.pinned (OpenSpec.ofChange fnExactNeverSaidWrong)

/-- 'laws.FnDenyClaim': WHATEVER THE INPUT: true; the input reads as it did. -/
def fnDenyClaimSpec : ChangeSpec := { name := "fnDenyClaim", fn := fun _ => fun
  | [d] => { results := [.lit (.bool true)], args := [d] }
  | _ => none }
def fnDenyClaimRow : OpenClaim := { program := "ytpampekijfjlkaa", sum := "b087d58af050d6cadef2d7b00edc26c9f0c07e4a085a4890f706407428d7c758", func := "loop.example/tellersandliars/laws.FnDenyClaim", spec := "fnDenyClaim", unfollowed := true, recurses := true, apart := false }
def FnDenyClaimSaid : Prop := fnDenyClaimRow.holds Try.pinned (OpenSpec.ofChange fnDenyClaimSpec)

/-- ITS FALSE NEIGHBOUR: 'it returns false'. Refute it at one input. -/
def fnDenyClaimWrong : ChangeSpec := { name := "fnDenyClaim", fn := fun _ => fun
  | [d] => { results := [.lit (.bool false)], args := [d] }
  | _ => none }
def FnDenyClaimWrongFalsely : Prop := fnDenyClaimRow.holds Try.pinned (OpenSpec.ofChange fnDenyClaimWrong)

/-- 'laws.FnNestedClaim': WHATEVER THE INPUT: true; the input reads as it did. -/
def fnNestedClaimSpec : ChangeSpec := { name := "fnNestedClaim", fn := fun _ => fun
  | [d] => { results := [.lit (.bool true)], args := [d] }
  | _ => none }
def fnNestedClaimRow : OpenClaim := { program := "ytpampekijfjlkaa", sum := "b087d58af050d6cadef2d7b00edc26c9f0c07e4a085a4890f706407428d7c758", func := "loop.example/tellersandliars/laws.FnNestedClaim", spec := "fnNestedClaim", apart := false }
def FnNestedClaimSaid : Prop := fnNestedClaimRow.holds Try.pinned (OpenSpec.ofChange fnNestedClaimSpec)

/-- ITS FALSE NEIGHBOUR: 'it returns false'. Refute it at one input. -/
def fnNestedClaimWrong : ChangeSpec := { name := "fnNestedClaim", fn := fun _ => fun
  | [d] => { results := [.lit (.bool false)], args := [d] }
  | _ => none }
def FnNestedClaimWrongFalsely : Prop := fnNestedClaimRow.holds Try.pinned (OpenSpec.ofChange fnNestedClaimWrong)

/-- 'laws.FnExactSayCount': WHATEVER THE INPUT: true; the input reads as it did. -/
def fnExactSayCountSpec : ChangeSpec := { name := "fnExactSayCount", fn := fun _ => fun
  | [d1, d2] => { results := [.lit (.bool true)], args := [d1, d2] }
  | _ => none }
def fnExactSayCountRow : OpenClaim := { program := "ytpampekijfjlkaa", sum := "b087d58af050d6cadef2d7b00edc26c9f0c07e4a085a4890f706407428d7c758", func := "loop.example/tellersandliars/laws.FnExactSayCount", spec := "fnExactSayCount", unfollowed := true, recurses := true, apart := false }
def FnExactSayCountSaid : Prop := fnExactSayCountRow.holds Try.pinned (OpenSpec.ofChange fnExactSayCountSpec)

/-- ITS FALSE NEIGHBOUR: 'it returns false'. Refute it at one input. -/
def fnExactSayCountWrong : ChangeSpec := { name := "fnExactSayCount", fn := fun _ => fun
  | [d1, d2] => { results := [.lit (.bool false)], args := [d1, d2] }
  | _ => none }
def FnExactSayCountWrongFalsely : Prop := fnExactSayCountRow.holds Try.pinned (OpenSpec.ofChange fnExactSayCountWrong)

/-- 'laws.FnExactWordTable': WHATEVER THE INPUT: true; the input reads as it did. -/
def fnExactWordTableSpec : ChangeSpec := { name := "fnExactWordTable", fn := fun _ => fun
  | [d1, d2, d3] => { results := [.lit (.bool true)], args := [d1, d2, d3] }
  | _ => none }
def fnExactWordTableRow : OpenClaim := { program := "ytpampekijfjlkaa", sum := "b087d58af050d6cadef2d7b00edc26c9f0c07e4a085a4890f706407428d7c758", func := "loop.example/tellersandliars/laws.FnExactWordTable", spec := "fnExactWordTable", unfollowed := true, recurses := true, apart := false }
def FnExactWordTableSaid : Prop := fnExactWordTableRow.holds Try.pinned (OpenSpec.ofChange fnExactWordTableSpec)

/-- ITS FALSE NEIGHBOUR: 'it returns false'. Refute it at one input. -/
def fnExactWordTableWrong : ChangeSpec := { name := "fnExactWordTable", fn := fun _ => fun
  | [d1, d2, d3] => { results := [.lit (.bool false)], args := [d1, d2, d3] }
  | _ => none }
def FnExactWordTableWrongFalsely : Prop := fnExactWordTableRow.holds Try.pinned (OpenSpec.ofChange fnExactWordTableWrong)

/-- 'laws.FnAnswerIn': WHATEVER THE INPUT: true; the input reads as it did. -/
def fnAnswerInSpec : ChangeSpec := { name := "fnAnswerIn", fn := fun _ => fun
  | [d] => { results := [.lit (.bool true)], args := [d] }
  | _ => none }
def fnAnswerInRow : OpenClaim := { program := "ytpampekijfjlkaa", sum := "b087d58af050d6cadef2d7b00edc26c9f0c07e4a085a4890f706407428d7c758", func := "loop.example/tellersandliars/laws.FnAnswerIn", spec := "fnAnswerIn", recurses := true, apart := false }
def FnAnswerInSaid : Prop := fnAnswerInRow.holds Try.pinned (OpenSpec.ofChange fnAnswerInSpec)

/-- ITS FALSE NEIGHBOUR: 'it returns false'. Refute it at one input. -/
def fnAnswerInWrong : ChangeSpec := { name := "fnAnswerIn", fn := fun _ => fun
  | [d] => { results := [.lit (.bool false)], args := [d] }
  | _ => none }
def FnAnswerInWrongFalsely : Prop := fnAnswerInRow.holds Try.pinned (OpenSpec.ofChange fnAnswerInWrong)

/-- 'laws.FnWordIn': WHATEVER THE INPUT: true; the input reads as it did. -/
def fnWordInSpec : ChangeSpec := { name := "fnWordIn", fn := fun _ => fun
  | [d] => { results := [.lit (.bool true)], args := [d] }
  | _ => none }
def fnWordInRow : OpenClaim := { program := "ytpampekijfjlkaa", sum := "b087d58af050d6cadef2d7b00edc26c9f0c07e4a085a4890f706407428d7c758", func := "loop.example/tellersandliars/laws.FnWordIn", spec := "fnWordIn", recurses := true, apart := false }
def FnWordInSaid : Prop := fnWordInRow.holds Try.pinned (OpenSpec.ofChange fnWordInSpec)

/-- ITS FALSE NEIGHBOUR: 'it returns false'. Refute it at one input. -/
def fnWordInWrong : ChangeSpec := { name := "fnWordIn", fn := fun _ => fun
  | [d] => { results := [.lit (.bool false)], args := [d] }
  | _ => none }
def FnWordInWrongFalsely : Prop := fnWordInRow.holds Try.pinned (OpenSpec.ofChange fnWordInWrong)

/- THE SECOND FORM. 'bulk': how many values and letters a reading holds, each counted each time it is reached (what is shared counts as often as it is met; a slice's spare places count too). A statement '..UptoSaid' is the law's where the arguments, and the package variables that the reading takes, are together of bulk at most 1048576: NARROWER than '..Said'. Prove '..Said' where nothing that the law and all that it calls make is longer than what came in: it says more and counts as full. Else prove '..UptoSaid'. A law counts once. -/
mutual
def uptoBulk {H : Type} : DataW H → Nat
  | .lit (.string bytes) => bytes.length + 1
  | .lit _ => 1
  | .nil => 1
  | .ptr d => uptoBulk d + 1
  | .slice elems spare => uptoBulkAll elems + uptoBulkAll spare + 1
  | .agg parts => uptoBulkAll parts + 1
  | .iface _ d => uptoBulk d + 1
  | .map entries => uptoBulkEntries entries + 1
  | .held _ => 1
def uptoBulkAll {H : Type} : List (DataW H) → Nat
  | [] => 0
  | d :: r => uptoBulk d + uptoBulkAll r
def uptoBulkEntries {H : Type} : List (Lit × DataW H) → Nat
  | [] => 0
  | x :: r => uptoBulkEntry x + uptoBulkEntries r
def uptoBulkEntry {H : Type} : Lit × DataW H → Nat
  | (.string bytes, d) => bytes.length + uptoBulk d + 1
  | (_, d) => uptoBulk d + 1
 end
def uptoSmall : (H : Type) → List (DataW H) → Bool := fun _ ds => decide (uptoBulkAll ds ≤ 1048576)
def OpenSpec.upto (s : _root_.Go.ChangeSpec) : _root_.Go.OpenSpec := { _root_.Go.OpenSpec.ofChange s with cond := some uptoSmall }

/-- 'laws.FnExactLeastStory', WHERE WHAT IT READS IS OF BULK AT MOST 1048576: true; the input reads as it did. -/
def fnExactLeastStoryUptoRow : OpenClaim := { program := "ytpampekijfjlkaa", sum := "b087d58af050d6cadef2d7b00edc26c9f0c07e4a085a4890f706407428d7c758", func := "loop.example/tellersandliars/laws.FnExactLeastStory", spec := "fnExactLeastStory", unfollowed := true, recurses := true, apart := false, narrowed := true }
def FnExactLeastStoryUptoSaid : Prop := fnExactLeastStoryUptoRow.holds Try.pinned (OpenSpec.upto fnExactLeastStorySpec)

/-- 'laws.FnExactAnswerIn', WHERE WHAT IT READS IS OF BULK AT MOST 1048576: true; the input reads as it did. -/
def fnExactAnswerInUptoRow : OpenClaim := { program := "ytpampekijfjlkaa", sum := "b087d58af050d6cadef2d7b00edc26c9f0c07e4a085a4890f706407428d7c758", func := "loop.example/tellersandliars/laws.FnExactAnswerIn", spec := "fnExactAnswerIn", recurses := true, apart := false, narrowed := true }
def FnExactAnswerInUptoSaid : Prop := fnExactAnswerInUptoRow.holds Try.pinned (OpenSpec.upto fnExactAnswerInSpec)

/-- 'laws.FnStrangeSame', WHERE WHAT IT READS IS OF BULK AT MOST 1048576: true; the input reads as it did. -/
def fnStrangeSameUptoRow : OpenClaim := { program := "ytpampekijfjlkaa", sum := "b087d58af050d6cadef2d7b00edc26c9f0c07e4a085a4890f706407428d7c758", func := "loop.example/tellersandliars/laws.FnStrangeSame", spec := "fnStrangeSame", apart := false, narrowed := true }
def FnStrangeSameUptoSaid : Prop := fnStrangeSameUptoRow.holds Try.pinned (OpenSpec.upto fnStrangeSameSpec)

/-- 'laws.FnExactAlikeOk', WHERE WHAT IT READS IS OF BULK AT MOST 1048576: true; the input reads as it did. -/
def fnExactAlikeOkUptoRow : OpenClaim := { program := "ytpampekijfjlkaa", sum := "b087d58af050d6cadef2d7b00edc26c9f0c07e4a085a4890f706407428d7c758", func := "loop.example/tellersandliars/laws.FnExactAlikeOk", spec := "fnExactAlikeOk", recurses := true, apart := false, narrowed := true }
def FnExactAlikeOkUptoSaid : Prop := fnExactAlikeOkUptoRow.holds Try.pinned (OpenSpec.upto fnExactAlikeOkSpec)

/-- 'laws.FnExactWordIn', WHERE WHAT IT READS IS OF BULK AT MOST 1048576: true; the input reads as it did. -/
def fnExactWordInUptoRow : OpenClaim := { program := "ytpampekijfjlkaa", sum := "b087d58af050d6cadef2d7b00edc26c9f0c07e4a085a4890f706407428d7c758", func := "loop.example/tellersandliars/laws.FnExactWordIn", spec := "fnExactWordIn", recurses := true, apart := false, narrowed := true }
def FnExactWordInUptoSaid : Prop := fnExactWordInUptoRow.holds Try.pinned (OpenSpec.upto fnExactWordInSpec)

/-- 'laws.FnTwoClaims', WHERE WHAT IT READS IS OF BULK AT MOST 1048576: true; the input reads as it did. -/
def fnTwoClaimsUptoRow : OpenClaim := { program := "ytpampekijfjlkaa", sum := "b087d58af050d6cadef2d7b00edc26c9f0c07e4a085a4890f706407428d7c758", func := "loop.example/tellersandliars/laws.FnTwoClaims", spec := "fnTwoClaims", unfollowed := true, recurses := true, apart := false, narrowed := true }
def FnTwoClaimsUptoSaid : Prop := fnTwoClaimsUptoRow.holds Try.pinned (OpenSpec.upto fnTwoClaimsSpec)

/-- 'laws.FnExactKnownPeople', WHERE WHAT IT READS IS OF BULK AT MOST 1048576: true; the input reads as it did. -/
def fnExactKnownPeopleUptoRow : OpenClaim := { program := "ytpampekijfjlkaa", sum := "b087d58af050d6cadef2d7b00edc26c9f0c07e4a085a4890f706407428d7c758", func := "loop.example/tellersandliars/laws.FnExactKnownPeople", spec := "fnExactKnownPeople", unfollowed := true, recurses := true, apart := false, narrowed := true }
def FnExactKnownPeopleUptoSaid : Prop := fnExactKnownPeopleUptoRow.holds Try.pinned (OpenSpec.upto fnExactKnownPeopleSpec)

/-- 'laws.FnChainTerm', WHERE WHAT IT READS IS OF BULK AT MOST 1048576: true; the input reads as it did. -/
def fnChainTermUptoRow : OpenClaim := { program := "ytpampekijfjlkaa", sum := "b087d58af050d6cadef2d7b00edc26c9f0c07e4a085a4890f706407428d7c758", func := "loop.example/tellersandliars/laws.FnChainTerm", spec := "fnChainTerm", apart := false, narrowed := true }
def FnChainTermUptoSaid : Prop := fnChainTermUptoRow.holds Try.pinned (OpenSpec.upto fnChainTermSpec)

/-- 'laws.FnTrickTerm', WHERE WHAT IT READS IS OF BULK AT MOST 1048576: true; the input reads as it did. -/
def fnTrickTermUptoRow : OpenClaim := { program := "ytpampekijfjlkaa", sum := "b087d58af050d6cadef2d7b00edc26c9f0c07e4a085a4890f706407428d7c758", func := "loop.example/tellersandliars/laws.FnTrickTerm", spec := "fnTrickTerm", apart := false, narrowed := true }
def FnTrickTermUptoSaid : Prop := fnTrickTermUptoRow.holds Try.pinned (OpenSpec.upto fnTrickTermSpec)

/-- 'laws.FnTrickTwice', WHERE WHAT IT READS IS OF BULK AT MOST 1048576: true; the input reads as it did. -/
def fnTrickTwiceUptoRow : OpenClaim := { program := "ytpampekijfjlkaa", sum := "b087d58af050d6cadef2d7b00edc26c9f0c07e4a085a4890f706407428d7c758", func := "loop.example/tellersandliars/laws.FnTrickTwice", spec := "fnTrickTwice", unfollowed := true, recurses := true, apart := false, narrowed := true }
def FnTrickTwiceUptoSaid : Prop := fnTrickTwiceUptoRow.holds Try.pinned (OpenSpec.upto fnTrickTwiceSpec)

/-- 'laws.FnStrangeTerm', WHERE WHAT IT READS IS OF BULK AT MOST 1048576: true; the input reads as it did. -/
def fnStrangeTermUptoRow : OpenClaim := { program := "ytpampekijfjlkaa", sum := "b087d58af050d6cadef2d7b00edc26c9f0c07e4a085a4890f706407428d7c758", func := "loop.example/tellersandliars/laws.FnStrangeTerm", spec := "fnStrangeTerm", apart := false, narrowed := true }
def FnStrangeTermUptoSaid : Prop := fnStrangeTermUptoRow.holds Try.pinned (OpenSpec.upto fnStrangeTermSpec)

/-- 'laws.FnExactClaimTable', WHERE WHAT IT READS IS OF BULK AT MOST 1048576: true; the input reads as it did. -/
def fnExactClaimTableUptoRow : OpenClaim := { program := "ytpampekijfjlkaa", sum := "b087d58af050d6cadef2d7b00edc26c9f0c07e4a085a4890f706407428d7c758", func := "loop.example/tellersandliars/laws.FnExactClaimTable", spec := "fnExactClaimTable", unfollowed := true, recurses := true, apart := false, narrowed := true }
def FnExactClaimTableUptoSaid : Prop := fnExactClaimTableUptoRow.holds Try.pinned (OpenSpec.upto fnExactClaimTableSpec)

/-- 'laws.FnExactAlwaysSaid', WHERE WHAT IT READS IS OF BULK AT MOST 1048576: true; the input reads as it did. -/
def fnExactAlwaysSaidUptoRow : OpenClaim := { program := "ytpampekijfjlkaa", sum := "b087d58af050d6cadef2d7b00edc26c9f0c07e4a085a4890f706407428d7c758", func := "loop.example/tellersandliars/laws.FnExactAlwaysSaid", spec := "fnExactAlwaysSaid", unfollowed := true, recurses := true, apart := false, narrowed := true }
def FnExactAlwaysSaidUptoSaid : Prop := fnExactAlwaysSaidUptoRow.holds Try.pinned (OpenSpec.upto fnExactAlwaysSaidSpec)

/-- 'laws.FnExactNeverSaid', WHERE WHAT IT READS IS OF BULK AT MOST 1048576: true; the input reads as it did. -/
def fnExactNeverSaidUptoRow : OpenClaim := { program := "ytpampekijfjlkaa", sum := "b087d58af050d6cadef2d7b00edc26c9f0c07e4a085a4890f706407428d7c758", func := "loop.example/tellersandliars/laws.FnExactNeverSaid", spec := "fnExactNeverSaid", unfollowed := true, recurses := true, apart := false, narrowed := true }
def FnExactNeverSaidUptoSaid : Prop := fnExactNeverSaidUptoRow.holds Try.pinned (OpenSpec.upto fnExactNeverSaidSpec)

/-- 'laws.FnDenyClaim', WHERE WHAT IT READS IS OF BULK AT MOST 1048576: true; the input reads as it did. -/
def fnDenyClaimUptoRow : OpenClaim := { program := "ytpampekijfjlkaa", sum := "b087d58af050d6cadef2d7b00edc26c9f0c07e4a085a4890f706407428d7c758", func := "loop.example/tellersandliars/laws.FnDenyClaim", spec := "fnDenyClaim", unfollowed := true, recurses := true, apart := false, narrowed := true }
def FnDenyClaimUptoSaid : Prop := fnDenyClaimUptoRow.holds Try.pinned (OpenSpec.upto fnDenyClaimSpec)

/-- 'laws.FnNestedClaim', WHERE WHAT IT READS IS OF BULK AT MOST 1048576: true; the input reads as it did. -/
def fnNestedClaimUptoRow : OpenClaim := { program := "ytpampekijfjlkaa", sum := "b087d58af050d6cadef2d7b00edc26c9f0c07e4a085a4890f706407428d7c758", func := "loop.example/tellersandliars/laws.FnNestedClaim", spec := "fnNestedClaim", apart := false, narrowed := true }
def FnNestedClaimUptoSaid : Prop := fnNestedClaimUptoRow.holds Try.pinned (OpenSpec.upto fnNestedClaimSpec)

/-- 'laws.FnExactSayCount', WHERE WHAT IT READS IS OF BULK AT MOST 1048576: true; the input reads as it did. -/
def fnExactSayCountUptoRow : OpenClaim := { program := "ytpampekijfjlkaa", sum := "b087d58af050d6cadef2d7b00edc26c9f0c07e4a085a4890f706407428d7c758", func := "loop.example/tellersandliars/laws.FnExactSayCount", spec := "fnExactSayCount", unfollowed := true, recurses := true, apart := false, narrowed := true }
def FnExactSayCountUptoSaid : Prop := fnExactSayCountUptoRow.holds Try.pinned (OpenSpec.upto fnExactSayCountSpec)

/-- 'laws.FnExactWordTable', WHERE WHAT IT READS IS OF BULK AT MOST 1048576: true; the input reads as it did. -/
def fnExactWordTableUptoRow : OpenClaim := { program := "ytpampekijfjlkaa", sum := "b087d58af050d6cadef2d7b00edc26c9f0c07e4a085a4890f706407428d7c758", func := "loop.example/tellersandliars/laws.FnExactWordTable", spec := "fnExactWordTable", unfollowed := true, recurses := true, apart := false, narrowed := true }
def FnExactWordTableUptoSaid : Prop := fnExactWordTableUptoRow.holds Try.pinned (OpenSpec.upto fnExactWordTableSpec)

/-- 'laws.FnAnswerIn', WHERE WHAT IT READS IS OF BULK AT MOST 1048576: true; the input reads as it did. -/
def fnAnswerInUptoRow : OpenClaim := { program := "ytpampekijfjlkaa", sum := "b087d58af050d6cadef2d7b00edc26c9f0c07e4a085a4890f706407428d7c758", func := "loop.example/tellersandliars/laws.FnAnswerIn", spec := "fnAnswerIn", recurses := true, apart := false, narrowed := true }
def FnAnswerInUptoSaid : Prop := fnAnswerInUptoRow.holds Try.pinned (OpenSpec.upto fnAnswerInSpec)

/-- 'laws.FnWordIn', WHERE WHAT IT READS IS OF BULK AT MOST 1048576: true; the input reads as it did. -/
def fnWordInUptoRow : OpenClaim := { program := "ytpampekijfjlkaa", sum := "b087d58af050d6cadef2d7b00edc26c9f0c07e4a085a4890f706407428d7c758", func := "loop.example/tellersandliars/laws.FnWordIn", spec := "fnWordIn", recurses := true, apart := false, narrowed := true }
def FnWordInUptoSaid : Prop := fnWordInUptoRow.holds Try.pinned (OpenSpec.upto fnWordInSpec)

end Rows
end Go.Proofs.Ytpampekijfjlkaa
