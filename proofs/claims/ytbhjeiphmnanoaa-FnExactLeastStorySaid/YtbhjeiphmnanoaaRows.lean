/-
  No cell of these rows narrows 'for every input' (looked for: loops, veiled, ifaces, maps, wideKeys, modest, calm, conditions, laid).
  DERIVED. THE GIVEN ROWS OF THIS SEAT. 3 by the template 'for every input the law returns true; each argument reads behind the call as it read before'; 0 by the template 'total and deterministic' (their statements: YtbhjeiphmnanoaaTotals.lean).
  GIVEN WITH THE SEED: the statements are not yours to turn. If you find one false, say at which input.
  Laid BY PROGRAM, IN A SANDBOX (cutbox-rows.mjs): the forced cells as the released guide's own fill.sh prints them over the translation 00a36d3e8dd417d6… (all of the seat's roots in one cut). By AI agents, Wed Nov 11 2026. No macro, syntax, notation, axiom, sorry.
-/
import Derived.Test.YtbhjeiphmnanoaaChecked
import GoSem.Claim
import GoSem.ClaimJoined
import GoSem.ClaimMapViews
import Derived.JoinedTies
import Derived.KernelRfl
namespace Go.Proofs.Ytbhjeiphmnanoaa
/- THE CELL 'sum', in the pinned program and in every row, IS THE sha256 OF THE DUMP (.gsa) THAT YtbhjeiphmnanoaaProg.lean LOADS. Nothing in Lean hashes anything: it is a label: what it is worth is what the hold of that sum in a sandbox is worth. -/
noncomputable def Try.pinned : Pinned := { name := "ytbhjeiphmnanoaa", sum := "00a36d3e8dd417d65b3b84b0bc7ee93ad898a84273bd08877e04d7d9a4729387", checked := Try.checked }
namespace Rows
def none {H : Type} : Left H := { results := [], args := [] }

/-- 'laws.FnExactLeastStory': WHATEVER THE INPUT: true; the input reads as it did. -/
def fnExactLeastStorySpec : ChangeSpec := { name := "fnExactLeastStory", fn := fun _ => fun
  | [d1, d2] => { results := [.lit (.bool true)], args := [d1, d2] }
  | _ => none }
def fnExactLeastStoryRow : OpenClaim := { program := "ytbhjeiphmnanoaa", sum := "00a36d3e8dd417d65b3b84b0bc7ee93ad898a84273bd08877e04d7d9a4729387", func := "loop.example/tellersandliars/laws.FnExactLeastStory", spec := "fnExactLeastStory", unfollowed := true, recurses := true, apart := false }
def FnExactLeastStorySaid : Prop := fnExactLeastStoryRow.holds Try.pinned (OpenSpec.ofChange fnExactLeastStorySpec)

/-- ITS FALSE NEIGHBOUR: 'it returns false'. Refute it at one input. -/
def fnExactLeastStoryWrong : ChangeSpec := { name := "fnExactLeastStory", fn := fun _ => fun
  | [d1, d2] => { results := [.lit (.bool false)], args := [d1, d2] }
  | _ => none }
def FnExactLeastStoryWrongFalsely : Prop := fnExactLeastStoryRow.holds Try.pinned (OpenSpec.ofChange fnExactLeastStoryWrong)

/-- 'laws.FnExactKnownPeople': WHATEVER THE INPUT: true; the input reads as it did. -/
def fnExactKnownPeopleSpec : ChangeSpec := { name := "fnExactKnownPeople", fn := fun _ => fun
  | [d1, d2] => { results := [.lit (.bool true)], args := [d1, d2] }
  | _ => none }
def fnExactKnownPeopleRow : OpenClaim := { program := "ytbhjeiphmnanoaa", sum := "00a36d3e8dd417d65b3b84b0bc7ee93ad898a84273bd08877e04d7d9a4729387", func := "loop.example/tellersandliars/laws.FnExactKnownPeople", spec := "fnExactKnownPeople", unfollowed := true, recurses := true, apart := false }
def FnExactKnownPeopleSaid : Prop := fnExactKnownPeopleRow.holds Try.pinned (OpenSpec.ofChange fnExactKnownPeopleSpec)

/-- ITS FALSE NEIGHBOUR: 'it returns false'. Refute it at one input. -/
def fnExactKnownPeopleWrong : ChangeSpec := { name := "fnExactKnownPeople", fn := fun _ => fun
  | [d1, d2] => { results := [.lit (.bool false)], args := [d1, d2] }
  | _ => none }
def FnExactKnownPeopleWrongFalsely : Prop := fnExactKnownPeopleRow.holds Try.pinned (OpenSpec.ofChange fnExactKnownPeopleWrong)

/-- 'laws.FnExactNeedlessClaims': WHATEVER THE INPUT: true; the input reads as it did. -/
def fnExactNeedlessClaimsSpec : ChangeSpec := { name := "fnExactNeedlessClaims", fn := fun _ => fun
  | [d1, d2] => { results := [.lit (.bool true)], args := [d1, d2] }
  | _ => none }
def fnExactNeedlessClaimsRow : OpenClaim := { program := "ytbhjeiphmnanoaa", sum := "00a36d3e8dd417d65b3b84b0bc7ee93ad898a84273bd08877e04d7d9a4729387", func := "loop.example/tellersandliars/laws.FnExactNeedlessClaims", spec := "fnExactNeedlessClaims", unfollowed := true, recurses := true, apart := false }
def FnExactNeedlessClaimsSaid : Prop := fnExactNeedlessClaimsRow.holds Try.pinned (OpenSpec.ofChange fnExactNeedlessClaimsSpec)

/-- ITS FALSE NEIGHBOUR: 'it returns false'. Refute it at one input. -/
def fnExactNeedlessClaimsWrong : ChangeSpec := { name := "fnExactNeedlessClaims", fn := fun _ => fun
  | [d1, d2] => { results := [.lit (.bool false)], args := [d1, d2] }
  | _ => none }
def FnExactNeedlessClaimsWrongFalsely : Prop := fnExactNeedlessClaimsRow.holds Try.pinned (OpenSpec.ofChange fnExactNeedlessClaimsWrong)

/- THE SECOND FORM. 'bulk': how many values and letters a reading holds, each counted each time it is reached (what is shared counts as often as it is met; a slice's spare places count too). A statement '..UptoSaid' is the law's where the arguments, and the package variables that the reading takes, are together of bulk at most 1048576: NARROWER than '..Said'. Prove '..Said' where nothing that the law and all that it calls make is longer than what came in: it says more and counts as full. Else prove '..UptoSaid'. A law counts once. -/
mutual
def uptoBulk {H : Type} : DataW H → Nat
  | .lit (.string bytes) => bytes.length + 1
  | .lit _ => 1
  | .nil => 1
  | .ptr d => uptoBulk d + 1
  | .slice elems spare => uptoBulkAll elems + uptoBulkAll spare + 1
  | .agg parts => uptoBulkAll parts + 1
  | .iface _ d => uptoBulk d + 1
  | .map entries => uptoBulkEntries entries + 1
  | .held _ => 1
def uptoBulkAll {H : Type} : List (DataW H) → Nat
  | [] => 0
  | d :: r => uptoBulk d + uptoBulkAll r
def uptoBulkEntries {H : Type} : List (Lit × DataW H) → Nat
  | [] => 0
  | x :: r => uptoBulkEntry x + uptoBulkEntries r
def uptoBulkEntry {H : Type} : Lit × DataW H → Nat
  | (.string bytes, d) => bytes.length + uptoBulk d + 1
  | (_, d) => uptoBulk d + 1
 end
def uptoSmall : (H : Type) → List (DataW H) → Bool := fun _ ds => decide (uptoBulkAll ds ≤ 1048576)
def OpenSpec.upto (s : _root_.Go.ChangeSpec) : _root_.Go.OpenSpec := { _root_.Go.OpenSpec.ofChange s with cond := some uptoSmall }

/-- 'laws.FnExactLeastStory', WHERE WHAT IT READS IS OF BULK AT MOST 1048576: true; the input reads as it did. -/
def fnExactLeastStoryUptoRow : OpenClaim := { program := "ytbhjeiphmnanoaa", sum := "00a36d3e8dd417d65b3b84b0bc7ee93ad898a84273bd08877e04d7d9a4729387", func := "loop.example/tellersandliars/laws.FnExactLeastStory", spec := "fnExactLeastStory", unfollowed := true, recurses := true, apart := false, narrowed := true }
def FnExactLeastStoryUptoSaid : Prop := fnExactLeastStoryUptoRow.holds Try.pinned (OpenSpec.upto fnExactLeastStorySpec)

/-- 'laws.FnExactKnownPeople', WHERE WHAT IT READS IS OF BULK AT MOST 1048576: true; the input reads as it did. -/
def fnExactKnownPeopleUptoRow : OpenClaim := { program := "ytbhjeiphmnanoaa", sum := "00a36d3e8dd417d65b3b84b0bc7ee93ad898a84273bd08877e04d7d9a4729387", func := "loop.example/tellersandliars/laws.FnExactKnownPeople", spec := "fnExactKnownPeople", unfollowed := true, recurses := true, apart := false, narrowed := true }
def FnExactKnownPeopleUptoSaid : Prop := fnExactKnownPeopleUptoRow.holds Try.pinned (OpenSpec.upto fnExactKnownPeopleSpec)

/-- 'laws.FnExactNeedlessClaims', WHERE WHAT IT READS IS OF BULK AT MOST 1048576: true; the input reads as it did. -/
def fnExactNeedlessClaimsUptoRow : OpenClaim := { program := "ytbhjeiphmnanoaa", sum := "00a36d3e8dd417d65b3b84b0bc7ee93ad898a84273bd08877e04d7d9a4729387", func := "loop.example/tellersandliars/laws.FnExactNeedlessClaims", spec := "fnExactNeedlessClaims", unfollowed := true, recurses := true, apart := false, narrowed := true }
def FnExactNeedlessClaimsUptoSaid : Prop := fnExactNeedlessClaimsUptoRow.holds Try.pinned (OpenSpec.upto fnExactNeedlessClaimsSpec)

end Rows
end Go.Proofs.Ytbhjeiphmnanoaa
