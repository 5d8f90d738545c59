/-
  No cell of these rows narrows 'for every input' (looked for: loops, veiled, ifaces, maps, wideKeys, modest, calm, conditions, laid).
  DERIVED. THE GIVEN ROWS OF THIS SEAT. 12 by the template 'for every input the law returns true; each argument reads behind the call as it read before'; 0 by the template 'total and deterministic' (their statements: YtofcmhpoebbnoaaTotals.lean).
  GIVEN WITH THE SEED: the statements are not yours to turn. If you find one false, say at which input.
  Laid BY PROGRAM, IN A SANDBOX (cutbox-rows.mjs): the forced cells as the released guide's own fill.sh prints them over the translation 39ed14483068e12f… (all of the seat's roots in one cut). By AI agents, Wed Nov 11 2026. No macro, syntax, notation, axiom, sorry.
-/
import Derived.Test.YtofcmhpoebbnoaaChecked
import GoSem.Claim
import GoSem.ClaimJoined
import GoSem.ClaimMapViews
import Derived.JoinedTies
import Derived.KernelRfl
namespace Go.Proofs.Ytofcmhpoebbnoaa
/- THE CELL 'sum', in the pinned program and in every row, IS THE sha256 OF THE DUMP (.gsa) THAT YtofcmhpoebbnoaaProg.lean LOADS. Nothing in Lean hashes anything: it is a label: what it is worth is what the hold of that sum in a sandbox is worth. -/
noncomputable def Try.pinned : Pinned := { name := "ytofcmhpoebbnoaa", sum := "39ed14483068e12f2ec2bfd0304602f993434d9924412866e53b2b4ed2d79d4a", checked := Try.checked }
namespace Rows
def none {H : Type} : Left H := { results := [], args := [] }

/-- 'laws.FnExactKindsOk': WHATEVER THE INPUT: true; the input reads as it did. -/
def fnExactKindsOkSpec : ChangeSpec := { name := "fnExactKindsOk", fn := fun _ => fun
  | [d] => { results := [.lit (.bool true)], args := [d] }
  | _ => none }
def fnExactKindsOkRow : OpenClaim := { program := "ytofcmhpoebbnoaa", sum := "39ed14483068e12f2ec2bfd0304602f993434d9924412866e53b2b4ed2d79d4a", func := "loop.example/tellersandliars/laws.FnExactKindsOk", spec := "fnExactKindsOk", apart := false }
def FnExactKindsOkSaid : Prop := fnExactKindsOkRow.holds Try.pinned (OpenSpec.ofChange fnExactKindsOkSpec)

/-- ITS FALSE NEIGHBOUR: 'it returns false'. Refute it at one input. -/
def fnExactKindsOkWrong : ChangeSpec := { name := "fnExactKindsOk", fn := fun _ => fun
  | [d] => { results := [.lit (.bool false)], args := [d] }
  | _ => none }
def FnExactKindsOkWrongFalsely : Prop := fnExactKindsOkRow.holds Try.pinned (OpenSpec.ofChange fnExactKindsOkWrong)

/-- 'laws.FnKindsOk': WHATEVER THE INPUT: true; the input reads as it did. -/
def fnKindsOkSpec : ChangeSpec := { name := "fnKindsOk", fn := fun _ => fun
  | [d] => { results := [.lit (.bool true)], args := [d] }
  | _ => none }
def fnKindsOkRow : OpenClaim := { program := "ytofcmhpoebbnoaa", sum := "39ed14483068e12f2ec2bfd0304602f993434d9924412866e53b2b4ed2d79d4a", func := "loop.example/tellersandliars/laws.FnKindsOk", spec := "fnKindsOk", apart := false }
def FnKindsOkSaid : Prop := fnKindsOkRow.holds Try.pinned (OpenSpec.ofChange fnKindsOkSpec)

/-- ITS FALSE NEIGHBOUR: 'it returns false'. Refute it at one input. -/
def fnKindsOkWrong : ChangeSpec := { name := "fnKindsOk", fn := fun _ => fun
  | [d] => { results := [.lit (.bool false)], args := [d] }
  | _ => none }
def FnKindsOkWrongFalsely : Prop := fnKindsOkRow.holds Try.pinned (OpenSpec.ofChange fnKindsOkWrong)

/-- 'laws.FnExactWorldOfKinds': WHATEVER THE INPUT: true; the input reads as it did. -/
def fnExactWorldOfKindsSpec : ChangeSpec := { name := "fnExactWorldOfKinds", fn := fun _ => fun
  | [d] => { results := [.lit (.bool true)], args := [d] }
  | _ => none }
def fnExactWorldOfKindsRow : OpenClaim := { program := "ytofcmhpoebbnoaa", sum := "39ed14483068e12f2ec2bfd0304602f993434d9924412866e53b2b4ed2d79d4a", func := "loop.example/tellersandliars/laws.FnExactWorldOfKinds", spec := "fnExactWorldOfKinds", apart := false }
def FnExactWorldOfKindsSaid : Prop := fnExactWorldOfKindsRow.holds Try.pinned (OpenSpec.ofChange fnExactWorldOfKindsSpec)

/-- ITS FALSE NEIGHBOUR: 'it returns false'. Refute it at one input. -/
def fnExactWorldOfKindsWrong : ChangeSpec := { name := "fnExactWorldOfKinds", fn := fun _ => fun
  | [d] => { results := [.lit (.bool false)], args := [d] }
  | _ => none }
def FnExactWorldOfKindsWrongFalsely : Prop := fnExactWorldOfKindsRow.holds Try.pinned (OpenSpec.ofChange fnExactWorldOfKindsWrong)

/-- 'laws.FnWorldOfKinds': WHATEVER THE INPUT: true; the input reads as it did. -/
def fnWorldOfKindsSpec : ChangeSpec := { name := "fnWorldOfKinds", fn := fun _ => fun
  | [d] => { results := [.lit (.bool true)], args := [d] }
  | _ => none }
def fnWorldOfKindsRow : OpenClaim := { program := "ytofcmhpoebbnoaa", sum := "39ed14483068e12f2ec2bfd0304602f993434d9924412866e53b2b4ed2d79d4a", func := "loop.example/tellersandliars/laws.FnWorldOfKinds", spec := "fnWorldOfKinds", apart := false }
def FnWorldOfKindsSaid : Prop := fnWorldOfKindsRow.holds Try.pinned (OpenSpec.ofChange fnWorldOfKindsSpec)

/-- ITS FALSE NEIGHBOUR: 'it returns false'. Refute it at one input. -/
def fnWorldOfKindsWrong : ChangeSpec := { name := "fnWorldOfKinds", fn := fun _ => fun
  | [d] => { results := [.lit (.bool false)], args := [d] }
  | _ => none }
def FnWorldOfKindsWrongFalsely : Prop := fnWorldOfKindsRow.holds Try.pinned (OpenSpec.ofChange fnWorldOfKindsWrong)

/-- 'laws.FnExactStrangeTerm': WHATEVER THE INPUT: true; the input reads as it did. -/
def fnExactStrangeTermSpec : ChangeSpec := { name := "fnExactStrangeTerm", fn := fun _ => fun
  | [d1, d2, d3] => { results := [.lit (.bool true)], args := [d1, d2, d3] }
  | _ => none }
def fnExactStrangeTermRow : OpenClaim := { program := "ytofcmhpoebbnoaa", sum := "39ed14483068e12f2ec2bfd0304602f993434d9924412866e53b2b4ed2d79d4a", func := "loop.example/tellersandliars/laws.FnExactStrangeTerm", spec := "fnExactStrangeTerm", apart := false }
def FnExactStrangeTermSaid : Prop := fnExactStrangeTermRow.holds Try.pinned (OpenSpec.ofChange fnExactStrangeTermSpec)

/-- ITS FALSE NEIGHBOUR: 'it returns false'. Refute it at one input. -/
def fnExactStrangeTermWrong : ChangeSpec := { name := "fnExactStrangeTerm", fn := fun _ => fun
  | [d1, d2, d3] => { results := [.lit (.bool false)], args := [d1, d2, d3] }
  | _ => none }
def FnExactStrangeTermWrongFalsely : Prop := fnExactStrangeTermRow.holds Try.pinned (OpenSpec.ofChange fnExactStrangeTermWrong)

/-- 'laws.FnExactKindClaim': WHATEVER THE INPUT: true; the input reads as it did. -/
def fnExactKindClaimSpec : ChangeSpec := { name := "fnExactKindClaim", fn := fun _ => fun
  | [d1, d2, d3, d4] => { results := [.lit (.bool true)], args := [d1, d2, d3, d4] }
  | _ => none }
def fnExactKindClaimRow : OpenClaim := { program := "ytofcmhpoebbnoaa", sum := "39ed14483068e12f2ec2bfd0304602f993434d9924412866e53b2b4ed2d79d4a", func := "loop.example/tellersandliars/laws.FnExactKindClaim", spec := "fnExactKindClaim", apart := false }
def FnExactKindClaimSaid : Prop := fnExactKindClaimRow.holds Try.pinned (OpenSpec.ofChange fnExactKindClaimSpec)

/-- ITS FALSE NEIGHBOUR: 'it returns false'. Refute it at one input. -/
def fnExactKindClaimWrong : ChangeSpec := { name := "fnExactKindClaim", fn := fun _ => fun
  | [d1, d2, d3, d4] => { results := [.lit (.bool false)], args := [d1, d2, d3, d4] }
  | _ => none }
def FnExactKindClaimWrongFalsely : Prop := fnExactKindClaimRow.holds Try.pinned (OpenSpec.ofChange fnExactKindClaimWrong)

/-- 'laws.FnLeastStory': WHATEVER THE INPUT: true; the input reads as it did. -/
def fnLeastStorySpec : ChangeSpec := { name := "fnLeastStory", fn := fun _ => fun
  | [d] => { results := [.lit (.bool true)], args := [d] }
  | _ => none }
def fnLeastStoryRow : OpenClaim := { program := "ytofcmhpoebbnoaa", sum := "39ed14483068e12f2ec2bfd0304602f993434d9924412866e53b2b4ed2d79d4a", func := "loop.example/tellersandliars/laws.FnLeastStory", spec := "fnLeastStory", unfollowed := true, recurses := true, apart := false }
def FnLeastStorySaid : Prop := fnLeastStoryRow.holds Try.pinned (OpenSpec.ofChange fnLeastStorySpec)

/-- ITS FALSE NEIGHBOUR: 'it returns false'. Refute it at one input. -/
def fnLeastStoryWrong : ChangeSpec := { name := "fnLeastStory", fn := fun _ => fun
  | [d] => { results := [.lit (.bool false)], args := [d] }
  | _ => none }
def FnLeastStoryWrongFalsely : Prop := fnLeastStoryRow.holds Try.pinned (OpenSpec.ofChange fnLeastStoryWrong)

/-- 'laws.FnExactTrickTerm': WHATEVER THE INPUT: true; the input reads as it did. -/
def fnExactTrickTermSpec : ChangeSpec := { name := "fnExactTrickTerm", fn := fun _ => fun
  | [d1, d2, d3] => { results := [.lit (.bool true)], args := [d1, d2, d3] }
  | _ => none }
def fnExactTrickTermRow : OpenClaim := { program := "ytofcmhpoebbnoaa", sum := "39ed14483068e12f2ec2bfd0304602f993434d9924412866e53b2b4ed2d79d4a", func := "loop.example/tellersandliars/laws.FnExactTrickTerm", spec := "fnExactTrickTerm", apart := false }
def FnExactTrickTermSaid : Prop := fnExactTrickTermRow.holds Try.pinned (OpenSpec.ofChange fnExactTrickTermSpec)

/-- ITS FALSE NEIGHBOUR: 'it returns false'. Refute it at one input. -/
def fnExactTrickTermWrong : ChangeSpec := { name := "fnExactTrickTerm", fn := fun _ => fun
  | [d1, d2, d3] => { results := [.lit (.bool false)], args := [d1, d2, d3] }
  | _ => none }
def FnExactTrickTermWrongFalsely : Prop := fnExactTrickTermRow.holds Try.pinned (OpenSpec.ofChange fnExactTrickTermWrong)

/-- 'laws.FnExactChainTerm': WHATEVER THE INPUT: true; the input reads as it did. -/
def fnExactChainTermSpec : ChangeSpec := { name := "fnExactChainTerm", fn := fun _ => fun
  | [d1, d2, d3] => { results := [.lit (.bool true)], args := [d1, d2, d3] }
  | _ => none }
def fnExactChainTermRow : OpenClaim := { program := "ytofcmhpoebbnoaa", sum := "39ed14483068e12f2ec2bfd0304602f993434d9924412866e53b2b4ed2d79d4a", func := "loop.example/tellersandliars/laws.FnExactChainTerm", spec := "fnExactChainTerm", apart := false }
def FnExactChainTermSaid : Prop := fnExactChainTermRow.holds Try.pinned (OpenSpec.ofChange fnExactChainTermSpec)

/-- ITS FALSE NEIGHBOUR: 'it returns false'. Refute it at one input. -/
def fnExactChainTermWrong : ChangeSpec := { name := "fnExactChainTerm", fn := fun _ => fun
  | [d1, d2, d3] => { results := [.lit (.bool false)], args := [d1, d2, d3] }
  | _ => none }
def FnExactChainTermWrongFalsely : Prop := fnExactChainTermRow.holds Try.pinned (OpenSpec.ofChange fnExactChainTermWrong)

/-- 'laws.FnExactNestedClaim': WHATEVER THE INPUT: true; the input reads as it did. -/
def fnExactNestedClaimSpec : ChangeSpec := { name := "fnExactNestedClaim", fn := fun _ => fun
  | [d1, d2, d3] => { results := [.lit (.bool true)], args := [d1, d2, d3] }
  | _ => none }
def fnExactNestedClaimRow : OpenClaim := { program := "ytofcmhpoebbnoaa", sum := "39ed14483068e12f2ec2bfd0304602f993434d9924412866e53b2b4ed2d79d4a", func := "loop.example/tellersandliars/laws.FnExactNestedClaim", spec := "fnExactNestedClaim", apart := false }
def FnExactNestedClaimSaid : Prop := fnExactNestedClaimRow.holds Try.pinned (OpenSpec.ofChange fnExactNestedClaimSpec)

/-- ITS FALSE NEIGHBOUR: 'it returns false'. Refute it at one input. -/
def fnExactNestedClaimWrong : ChangeSpec := { name := "fnExactNestedClaim", fn := fun _ => fun
  | [d1, d2, d3] => { results := [.lit (.bool false)], args := [d1, d2, d3] }
  | _ => none }
def FnExactNestedClaimWrongFalsely : Prop := fnExactNestedClaimRow.holds Try.pinned (OpenSpec.ofChange fnExactNestedClaimWrong)

/-- 'laws.FnChainBack': WHATEVER THE INPUT: true; the input reads as it did. -/
def fnChainBackSpec : ChangeSpec := { name := "fnChainBack", fn := fun _ => fun
  | [d] => { results := [.lit (.bool true)], args := [d] }
  | _ => none }
def fnChainBackRow : OpenClaim := { program := "ytofcmhpoebbnoaa", sum := "39ed14483068e12f2ec2bfd0304602f993434d9924412866e53b2b4ed2d79d4a", func := "loop.example/tellersandliars/laws.FnChainBack", spec := "fnChainBack", unfollowed := true, recurses := true, apart := false }
def FnChainBackSaid : Prop := fnChainBackRow.holds Try.pinned (OpenSpec.ofChange fnChainBackSpec)

/-- ITS FALSE NEIGHBOUR: 'it returns false'. Refute it at one input. -/
def fnChainBackWrong : ChangeSpec := { name := "fnChainBack", fn := fun _ => fun
  | [d] => { results := [.lit (.bool false)], args := [d] }
  | _ => none }
def FnChainBackWrongFalsely : Prop := fnChainBackRow.holds Try.pinned (OpenSpec.ofChange fnChainBackWrong)

/-- 'laws.FnKindClaim': WHATEVER THE INPUT: true; the input reads as it did. -/
def fnKindClaimSpec : ChangeSpec := { name := "fnKindClaim", fn := fun _ => fun
  | [d] => { results := [.lit (.bool true)], args := [d] }
  | _ => none }
def fnKindClaimRow : OpenClaim := { program := "ytofcmhpoebbnoaa", sum := "39ed14483068e12f2ec2bfd0304602f993434d9924412866e53b2b4ed2d79d4a", func := "loop.example/tellersandliars/laws.FnKindClaim", spec := "fnKindClaim", unfollowed := true, recurses := true, apart := false }
def FnKindClaimSaid : Prop := fnKindClaimRow.holds Try.pinned (OpenSpec.ofChange fnKindClaimSpec)

/-- ITS FALSE NEIGHBOUR: 'it returns false'. Refute it at one input. -/
def fnKindClaimWrong : ChangeSpec := { name := "fnKindClaim", fn := fun _ => fun
  | [d] => { results := [.lit (.bool false)], args := [d] }
  | _ => none }
def FnKindClaimWrongFalsely : Prop := fnKindClaimRow.holds Try.pinned (OpenSpec.ofChange fnKindClaimWrong)

/- THE SECOND FORM. 'bulk': how many values and letters a reading holds, each counted each time it is reached (what is shared counts as often as it is met; a slice's spare places count too). A statement '..UptoSaid' is the law's where the arguments, and the package variables that the reading takes, are together of bulk at most 1048576: NARROWER than '..Said'. Prove '..Said' where nothing that the law and all that it calls make is longer than what came in: it says more and counts as full. Else prove '..UptoSaid'. A law counts once. -/
mutual
def uptoBulk {H : Type} : DataW H → Nat
  | .lit (.string bytes) => bytes.length + 1
  | .lit _ => 1
  | .nil => 1
  | .ptr d => uptoBulk d + 1
  | .slice elems spare => uptoBulkAll elems + uptoBulkAll spare + 1
  | .agg parts => uptoBulkAll parts + 1
  | .iface _ d => uptoBulk d + 1
  | .map entries => uptoBulkEntries entries + 1
  | .held _ => 1
def uptoBulkAll {H : Type} : List (DataW H) → Nat
  | [] => 0
  | d :: r => uptoBulk d + uptoBulkAll r
def uptoBulkEntries {H : Type} : List (Lit × DataW H) → Nat
  | [] => 0
  | x :: r => uptoBulkEntry x + uptoBulkEntries r
def uptoBulkEntry {H : Type} : Lit × DataW H → Nat
  | (.string bytes, d) => bytes.length + uptoBulk d + 1
  | (_, d) => uptoBulk d + 1
 end
def uptoSmall : (H : Type) → List (DataW H) → Bool := fun _ ds => decide (uptoBulkAll ds ≤ 1048576)
def OpenSpec.upto (s : _root_.Go.ChangeSpec) : _root_.Go.OpenSpec := { _root_.Go.OpenSpec.ofChange s with cond := some uptoSmall }

/-- 'laws.FnExactKindsOk', WHERE WHAT IT READS IS OF BULK AT MOST 1048576: true; the input reads as it did. -/
def fnExactKindsOkUptoRow : OpenClaim := { program := "ytofcmhpoebbnoaa", sum := "39ed14483068e12f2ec2bfd0304602f993434d9924412866e53b2b4ed2d79d4a", func := "loop.example/tellersandliars/laws.FnExactKindsOk", spec := "fnExactKindsOk", apart := false, narrowed := true }
def FnExactKindsOkUptoSaid : Prop := fnExactKindsOkUptoRow.holds Try.pinned (OpenSpec.upto fnExactKindsOkSpec)

/-- 'laws.FnKindsOk', WHERE WHAT IT READS IS OF BULK AT MOST 1048576: true; the input reads as it did. -/
def fnKindsOkUptoRow : OpenClaim := { program := "ytofcmhpoebbnoaa", sum := "39ed14483068e12f2ec2bfd0304602f993434d9924412866e53b2b4ed2d79d4a", func := "loop.example/tellersandliars/laws.FnKindsOk", spec := "fnKindsOk", apart := false, narrowed := true }
def FnKindsOkUptoSaid : Prop := fnKindsOkUptoRow.holds Try.pinned (OpenSpec.upto fnKindsOkSpec)

/-- 'laws.FnExactWorldOfKinds', WHERE WHAT IT READS IS OF BULK AT MOST 1048576: true; the input reads as it did. -/
def fnExactWorldOfKindsUptoRow : OpenClaim := { program := "ytofcmhpoebbnoaa", sum := "39ed14483068e12f2ec2bfd0304602f993434d9924412866e53b2b4ed2d79d4a", func := "loop.example/tellersandliars/laws.FnExactWorldOfKinds", spec := "fnExactWorldOfKinds", apart := false, narrowed := true }
def FnExactWorldOfKindsUptoSaid : Prop := fnExactWorldOfKindsUptoRow.holds Try.pinned (OpenSpec.upto fnExactWorldOfKindsSpec)

/-- 'laws.FnWorldOfKinds', WHERE WHAT IT READS IS OF BULK AT MOST 1048576: true; the input reads as it did. -/
def fnWorldOfKindsUptoRow : OpenClaim := { program := "ytofcmhpoebbnoaa", sum := "39ed14483068e12f2ec2bfd0304602f993434d9924412866e53b2b4ed2d79d4a", func := "loop.example/tellersandliars/laws.FnWorldOfKinds", spec := "fnWorldOfKinds", apart := false, narrowed := true }
def FnWorldOfKindsUptoSaid : Prop := fnWorldOfKindsUptoRow.holds Try.pinned (OpenSpec.upto fnWorldOfKindsSpec)

/-- 'laws.FnExactStrangeTerm', WHERE WHAT IT READS IS OF BULK AT MOST 1048576: true; the input reads as it did. -/
def fnExactStrangeTermUptoRow : OpenClaim := { program := "ytofcmhpoebbnoaa", sum := "39ed14483068e12f2ec2bfd0304602f993434d9924412866e53b2b4ed2d79d4a", func := "loop.example/tellersandliars/laws.FnExactStrangeTerm", spec := "fnExactStrangeTerm", apart := false, narrowed := true }
def FnExactStrangeTermUptoSaid : Prop := fnExactStrangeTermUptoRow.holds Try.pinned (OpenSpec.upto fnExactStrangeTermSpec)

/-- 'laws.FnExactKindClaim', WHERE WHAT IT READS IS OF BULK AT MOST 1048576: true; the input reads as it did. -/
def fnExactKindClaimUptoRow : OpenClaim := { program := "ytofcmhpoebbnoaa", sum := "39ed14483068e12f2ec2bfd0304602f993434d9924412866e53b2b4ed2d79d4a", func := "loop.example/tellersandliars/laws.FnExactKindClaim", spec := "fnExactKindClaim", apart := false, narrowed := true }
def FnExactKindClaimUptoSaid : Prop := fnExactKindClaimUptoRow.holds Try.pinned (OpenSpec.upto fnExactKindClaimSpec)

/-- 'laws.FnLeastStory', WHERE WHAT IT READS IS OF BULK AT MOST 1048576: true; the input reads as it did. -/
def fnLeastStoryUptoRow : OpenClaim := { program := "ytofcmhpoebbnoaa", sum := "39ed14483068e12f2ec2bfd0304602f993434d9924412866e53b2b4ed2d79d4a", func := "loop.example/tellersandliars/laws.FnLeastStory", spec := "fnLeastStory", unfollowed := true, recurses := true, apart := false, narrowed := true }
def FnLeastStoryUptoSaid : Prop := fnLeastStoryUptoRow.holds Try.pinned (OpenSpec.upto fnLeastStorySpec)

/-- 'laws.FnExactTrickTerm', WHERE WHAT IT READS IS OF BULK AT MOST 1048576: true; the input reads as it did. -/
def fnExactTrickTermUptoRow : OpenClaim := { program := "ytofcmhpoebbnoaa", sum := "39ed14483068e12f2ec2bfd0304602f993434d9924412866e53b2b4ed2d79d4a", func := "loop.example/tellersandliars/laws.FnExactTrickTerm", spec := "fnExactTrickTerm", apart := false, narrowed := true }
def FnExactTrickTermUptoSaid : Prop := fnExactTrickTermUptoRow.holds Try.pinned (OpenSpec.upto fnExactTrickTermSpec)

/-- 'laws.FnExactChainTerm', WHERE WHAT IT READS IS OF BULK AT MOST 1048576: true; the input reads as it did. -/
def fnExactChainTermUptoRow : OpenClaim := { program := "ytofcmhpoebbnoaa", sum := "39ed14483068e12f2ec2bfd0304602f993434d9924412866e53b2b4ed2d79d4a", func := "loop.example/tellersandliars/laws.FnExactChainTerm", spec := "fnExactChainTerm", apart := false, narrowed := true }
def FnExactChainTermUptoSaid : Prop := fnExactChainTermUptoRow.holds Try.pinned (OpenSpec.upto fnExactChainTermSpec)

/-- 'laws.FnExactNestedClaim', WHERE WHAT IT READS IS OF BULK AT MOST 1048576: true; the input reads as it did. -/
def fnExactNestedClaimUptoRow : OpenClaim := { program := "ytofcmhpoebbnoaa", sum := "39ed14483068e12f2ec2bfd0304602f993434d9924412866e53b2b4ed2d79d4a", func := "loop.example/tellersandliars/laws.FnExactNestedClaim", spec := "fnExactNestedClaim", apart := false, narrowed := true }
def FnExactNestedClaimUptoSaid : Prop := fnExactNestedClaimUptoRow.holds Try.pinned (OpenSpec.upto fnExactNestedClaimSpec)

/-- 'laws.FnChainBack', WHERE WHAT IT READS IS OF BULK AT MOST 1048576: true; the input reads as it did. -/
def fnChainBackUptoRow : OpenClaim := { program := "ytofcmhpoebbnoaa", sum := "39ed14483068e12f2ec2bfd0304602f993434d9924412866e53b2b4ed2d79d4a", func := "loop.example/tellersandliars/laws.FnChainBack", spec := "fnChainBack", unfollowed := true, recurses := true, apart := false, narrowed := true }
def FnChainBackUptoSaid : Prop := fnChainBackUptoRow.holds Try.pinned (OpenSpec.upto fnChainBackSpec)

/-- 'laws.FnKindClaim', WHERE WHAT IT READS IS OF BULK AT MOST 1048576: true; the input reads as it did. -/
def fnKindClaimUptoRow : OpenClaim := { program := "ytofcmhpoebbnoaa", sum := "39ed14483068e12f2ec2bfd0304602f993434d9924412866e53b2b4ed2d79d4a", func := "loop.example/tellersandliars/laws.FnKindClaim", spec := "fnKindClaim", unfollowed := true, recurses := true, apart := false, narrowed := true }
def FnKindClaimUptoSaid : Prop := fnKindClaimUptoRow.holds Try.pinned (OpenSpec.upto fnKindClaimSpec)

end Rows
end Go.Proofs.Ytofcmhpoebbnoaa
