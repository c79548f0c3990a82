/-
  No cell of these rows narrows 'for every input' (looked for: loops, veiled, ifaces, maps, wideKeys, modest, calm, conditions, laid).
  DERIVED. THE GIVEN ROWS OF THIS SEAT. 12 by the template 'for every input the law returns true; each argument reads behind the call as it read before'; 0 by the template 'total and deterministic' (their statements: YtfelemoefhbphaaTotals.lean).
  GIVEN WITH THE SEED: the statements are not yours to turn. If you find one false, say at which input.
  Laid BY PROGRAM, IN A SANDBOX (cutbox-rows.mjs): the forced cells as the released guide's own fill.sh prints them over the translation 5fad7082e76c374b… (all of the seat's roots in one cut). By AI agents, Wed Nov 11 2026. No macro, syntax, notation, axiom, sorry.
-/
import Derived.Test.YtfelemoefhbphaaChecked
import GoSem.Claim
import GoSem.ClaimJoined
import GoSem.ClaimMapViews
import Derived.JoinedTies
import Derived.KernelRfl
namespace Go.Proofs.Ytfelemoefhbphaa
/- THE CELL 'sum', in the pinned program and in every row, IS THE sha256 OF THE DUMP (.gsa) THAT YtfelemoefhbphaaProg.lean LOADS. Nothing in Lean hashes anything: it is a label: what it is worth is what the hold of that sum in a sandbox is worth. -/
noncomputable def Try.pinned : Pinned := { name := "ytfelemoefhbphaa", sum := "5fad7082e76c374ba465dd1b7b5a8c7f09967ae23a855906952dd9da166b156c", checked := Try.checked }
namespace Rows
def none {H : Type} : Left H := { results := [], args := [] }

/-- 'laws.FnExactYardOf': WHATEVER THE INPUT: true; the input reads as it did. -/
def fnExactYardOfSpec : ChangeSpec := { name := "fnExactYardOf", fn := fun _ => fun
  | [d1, d2] => { results := [.lit (.bool true)], args := [d1, d2] }
  | _ => none }
def fnExactYardOfRow : OpenClaim := { program := "ytfelemoefhbphaa", sum := "5fad7082e76c374ba465dd1b7b5a8c7f09967ae23a855906952dd9da166b156c", func := "loop.example/g01345/laws.FnExactYardOf", spec := "fnExactYardOf", unfollowed := true, recurses := true, plainKeys := false, apart := false }
def FnExactYardOfSaid : Prop := fnExactYardOfRow.holds Try.pinned (OpenSpec.ofChange fnExactYardOfSpec)

/-- ITS FALSE NEIGHBOUR: 'it returns false'. Refute it at one input. -/
def fnExactYardOfWrong : ChangeSpec := { name := "fnExactYardOf", fn := fun _ => fun
  | [d1, d2] => { results := [.lit (.bool false)], args := [d1, d2] }
  | _ => none }
def FnExactYardOfWrongFalsely : Prop := fnExactYardOfRow.holds Try.pinned (OpenSpec.ofChange fnExactYardOfWrong)

/-- 'laws.FnExactYardsOf': WHATEVER THE INPUT: true; the input reads as it did. -/
def fnExactYardsOfSpec : ChangeSpec := { name := "fnExactYardsOf", fn := fun _ => fun
  | [d] => { results := [.lit (.bool true)], args := [d] }
  | _ => none }
def fnExactYardsOfRow : OpenClaim := { program := "ytfelemoefhbphaa", sum := "5fad7082e76c374ba465dd1b7b5a8c7f09967ae23a855906952dd9da166b156c", func := "loop.example/g01345/laws.FnExactYardsOf", spec := "fnExactYardsOf", unfollowed := true, recurses := true, plainKeys := false, apart := false }
def FnExactYardsOfSaid : Prop := fnExactYardsOfRow.holds Try.pinned (OpenSpec.ofChange fnExactYardsOfSpec)

/-- ITS FALSE NEIGHBOUR: 'it returns false'. Refute it at one input. -/
def fnExactYardsOfWrong : ChangeSpec := { name := "fnExactYardsOf", fn := fun _ => fun
  | [d] => { results := [.lit (.bool false)], args := [d] }
  | _ => none }
def FnExactYardsOfWrongFalsely : Prop := fnExactYardsOfRow.holds Try.pinned (OpenSpec.ofChange fnExactYardsOfWrong)

/-- 'laws.FnExactMowYard': WHATEVER THE INPUT: true; the input reads as it did. -/
def fnExactMowYardSpec : ChangeSpec := { name := "fnExactMowYard", fn := fun _ => fun
  | [d1, d2, d3] => { results := [.lit (.bool true)], args := [d1, d2, d3] }
  | _ => none }
def fnExactMowYardRow : OpenClaim := { program := "ytfelemoefhbphaa", sum := "5fad7082e76c374ba465dd1b7b5a8c7f09967ae23a855906952dd9da166b156c", func := "loop.example/g01345/laws.FnExactMowYard", spec := "fnExactMowYard", unfollowed := true, recurses := true, plainKeys := false, apart := false }
def FnExactMowYardSaid : Prop := fnExactMowYardRow.holds Try.pinned (OpenSpec.ofChange fnExactMowYardSpec)

/-- ITS FALSE NEIGHBOUR: 'it returns false'. Refute it at one input. -/
def fnExactMowYardWrong : ChangeSpec := { name := "fnExactMowYard", fn := fun _ => fun
  | [d1, d2, d3] => { results := [.lit (.bool false)], args := [d1, d2, d3] }
  | _ => none }
def FnExactMowYardWrongFalsely : Prop := fnExactMowYardRow.holds Try.pinned (OpenSpec.ofChange fnExactMowYardWrong)

/-- 'laws.FnExactGrazeYard': WHATEVER THE INPUT: true; the input reads as it did. -/
def fnExactGrazeYardSpec : ChangeSpec := { name := "fnExactGrazeYard", fn := fun _ => fun
  | [d1, d2, d3] => { results := [.lit (.bool true)], args := [d1, d2, d3] }
  | _ => none }
def fnExactGrazeYardRow : OpenClaim := { program := "ytfelemoefhbphaa", sum := "5fad7082e76c374ba465dd1b7b5a8c7f09967ae23a855906952dd9da166b156c", func := "loop.example/g01345/laws.FnExactGrazeYard", spec := "fnExactGrazeYard", unfollowed := true, recurses := true, plainKeys := false, apart := false }
def FnExactGrazeYardSaid : Prop := fnExactGrazeYardRow.holds Try.pinned (OpenSpec.ofChange fnExactGrazeYardSpec)

/-- ITS FALSE NEIGHBOUR: 'it returns false'. Refute it at one input. -/
def fnExactGrazeYardWrong : ChangeSpec := { name := "fnExactGrazeYard", fn := fun _ => fun
  | [d1, d2, d3] => { results := [.lit (.bool false)], args := [d1, d2, d3] }
  | _ => none }
def FnExactGrazeYardWrongFalsely : Prop := fnExactGrazeYardRow.holds Try.pinned (OpenSpec.ofChange fnExactGrazeYardWrong)

/-- 'laws.FnExactWayBetween': WHATEVER THE INPUT: true; the input reads as it did. -/
def fnExactWayBetweenSpec : ChangeSpec := { name := "fnExactWayBetween", fn := fun _ => fun
  | [d1, d2, d3] => { results := [.lit (.bool true)], args := [d1, d2, d3] }
  | _ => none }
def fnExactWayBetweenRow : OpenClaim := { program := "ytfelemoefhbphaa", sum := "5fad7082e76c374ba465dd1b7b5a8c7f09967ae23a855906952dd9da166b156c", func := "loop.example/g01345/laws.FnExactWayBetween", spec := "fnExactWayBetween", unfollowed := true, recurses := true, plainKeys := false, apart := false }
def FnExactWayBetweenSaid : Prop := fnExactWayBetweenRow.holds Try.pinned (OpenSpec.ofChange fnExactWayBetweenSpec)

/-- ITS FALSE NEIGHBOUR: 'it returns false'. Refute it at one input. -/
def fnExactWayBetweenWrong : ChangeSpec := { name := "fnExactWayBetween", fn := fun _ => fun
  | [d1, d2, d3] => { results := [.lit (.bool false)], args := [d1, d2, d3] }
  | _ => none }
def FnExactWayBetweenWrongFalsely : Prop := fnExactWayBetweenRow.holds Try.pinned (OpenSpec.ofChange fnExactWayBetweenWrong)

/-- 'laws.FnExactIdleHurdles': WHATEVER THE INPUT: true; the input reads as it did. -/
def fnExactIdleHurdlesSpec : ChangeSpec := { name := "fnExactIdleHurdles", fn := fun _ => fun
  | [d] => { results := [.lit (.bool true)], args := [d] }
  | _ => none }
def fnExactIdleHurdlesRow : OpenClaim := { program := "ytfelemoefhbphaa", sum := "5fad7082e76c374ba465dd1b7b5a8c7f09967ae23a855906952dd9da166b156c", func := "loop.example/g01345/laws.FnExactIdleHurdles", spec := "fnExactIdleHurdles", unfollowed := true, recurses := true, plainKeys := false, apart := false }
def FnExactIdleHurdlesSaid : Prop := fnExactIdleHurdlesRow.holds Try.pinned (OpenSpec.ofChange fnExactIdleHurdlesSpec)

/-- ITS FALSE NEIGHBOUR: 'it returns false'. Refute it at one input. -/
def fnExactIdleHurdlesWrong : ChangeSpec := { name := "fnExactIdleHurdles", fn := fun _ => fun
  | [d] => { results := [.lit (.bool false)], args := [d] }
  | _ => none }
def FnExactIdleHurdlesWrongFalsely : Prop := fnExactIdleHurdlesRow.holds Try.pinned (OpenSpec.ofChange fnExactIdleHurdlesWrong)

/-- 'laws.FnExactHayOf': WHATEVER THE INPUT: true; the input reads as it did. -/
def fnExactHayOfSpec : ChangeSpec := { name := "fnExactHayOf", fn := fun _ => fun
  | [d1, d2, d3, d4, d5] => { results := [.lit (.bool true)], args := [d1, d2, d3, d4, d5] }
  | _ => none }
def fnExactHayOfRow : OpenClaim := { program := "ytfelemoefhbphaa", sum := "5fad7082e76c374ba465dd1b7b5a8c7f09967ae23a855906952dd9da166b156c", func := "loop.example/g01345/laws.FnExactHayOf", spec := "fnExactHayOf", unfollowed := true, recurses := true, plainKeys := false, apart := false }
def FnExactHayOfSaid : Prop := fnExactHayOfRow.holds Try.pinned (OpenSpec.ofChange fnExactHayOfSpec)

/-- ITS FALSE NEIGHBOUR: 'it returns false'. Refute it at one input. -/
def fnExactHayOfWrong : ChangeSpec := { name := "fnExactHayOf", fn := fun _ => fun
  | [d1, d2, d3, d4, d5] => { results := [.lit (.bool false)], args := [d1, d2, d3, d4, d5] }
  | _ => none }
def FnExactHayOfWrongFalsely : Prop := fnExactHayOfRow.holds Try.pinned (OpenSpec.ofChange fnExactHayOfWrong)

/-- 'laws.FnExactBestMowing': WHATEVER THE INPUT: true; the input reads as it did. -/
def fnExactBestMowingSpec : ChangeSpec := { name := "fnExactBestMowing", fn := fun _ => fun
  | [d1, d2, d3, d4, d5] => { results := [.lit (.bool true)], args := [d1, d2, d3, d4, d5] }
  | _ => none }
def fnExactBestMowingRow : OpenClaim := { program := "ytfelemoefhbphaa", sum := "5fad7082e76c374ba465dd1b7b5a8c7f09967ae23a855906952dd9da166b156c", func := "loop.example/g01345/laws.FnExactBestMowing", spec := "fnExactBestMowing", unfollowed := true, recurses := true, plainKeys := false, apart := false }
def FnExactBestMowingSaid : Prop := fnExactBestMowingRow.holds Try.pinned (OpenSpec.ofChange fnExactBestMowingSpec)

/-- ITS FALSE NEIGHBOUR: 'it returns false'. Refute it at one input. -/
def fnExactBestMowingWrong : ChangeSpec := { name := "fnExactBestMowing", fn := fun _ => fun
  | [d1, d2, d3, d4, d5] => { results := [.lit (.bool false)], args := [d1, d2, d3, d4, d5] }
  | _ => none }
def FnExactBestMowingWrongFalsely : Prop := fnExactBestMowingRow.holds Try.pinned (OpenSpec.ofChange fnExactBestMowingWrong)

/-- 'laws.FnExactBestTwoMowings': WHATEVER THE INPUT: true; the input reads as it did. -/
def fnExactBestTwoMowingsSpec : ChangeSpec := { name := "fnExactBestTwoMowings", fn := fun _ => fun
  | [d1, d2, d3, d4, d5] => { results := [.lit (.bool true)], args := [d1, d2, d3, d4, d5] }
  | _ => none }
def fnExactBestTwoMowingsRow : OpenClaim := { program := "ytfelemoefhbphaa", sum := "5fad7082e76c374ba465dd1b7b5a8c7f09967ae23a855906952dd9da166b156c", func := "loop.example/g01345/laws.FnExactBestTwoMowings", spec := "fnExactBestTwoMowings", unfollowed := true, recurses := true, plainKeys := false, apart := false }
def FnExactBestTwoMowingsSaid : Prop := fnExactBestTwoMowingsRow.holds Try.pinned (OpenSpec.ofChange fnExactBestTwoMowingsSpec)

/-- ITS FALSE NEIGHBOUR: 'it returns false'. Refute it at one input. -/
def fnExactBestTwoMowingsWrong : ChangeSpec := { name := "fnExactBestTwoMowings", fn := fun _ => fun
  | [d1, d2, d3, d4, d5] => { results := [.lit (.bool false)], args := [d1, d2, d3, d4, d5] }
  | _ => none }
def FnExactBestTwoMowingsWrongFalsely : Prop := fnExactBestTwoMowingsRow.holds Try.pinned (OpenSpec.ofChange fnExactBestTwoMowingsWrong)

/-- 'laws.FnExactSidesOf': WHATEVER THE INPUT: true; the input reads as it did. -/
def fnExactSidesOfSpec : ChangeSpec := { name := "fnExactSidesOf", fn := fun _ => fun
  | [d1, d2] => { results := [.lit (.bool true)], args := [d1, d2] }
  | _ => none }
def fnExactSidesOfRow : OpenClaim := { program := "ytfelemoefhbphaa", sum := "5fad7082e76c374ba465dd1b7b5a8c7f09967ae23a855906952dd9da166b156c", func := "loop.example/g01345/laws.FnExactSidesOf", spec := "fnExactSidesOf", unfollowed := true, recurses := true, plainKeys := false, apart := false }
def FnExactSidesOfSaid : Prop := fnExactSidesOfRow.holds Try.pinned (OpenSpec.ofChange fnExactSidesOfSpec)

/-- ITS FALSE NEIGHBOUR: 'it returns false'. Refute it at one input. -/
def fnExactSidesOfWrong : ChangeSpec := { name := "fnExactSidesOf", fn := fun _ => fun
  | [d1, d2] => { results := [.lit (.bool false)], args := [d1, d2] }
  | _ => none }
def FnExactSidesOfWrongFalsely : Prop := fnExactSidesOfRow.holds Try.pinned (OpenSpec.ofChange fnExactSidesOfWrong)

/-- 'laws.FnExactOpenSides': WHATEVER THE INPUT: true; the input reads as it did. -/
def fnExactOpenSidesSpec : ChangeSpec := { name := "fnExactOpenSides", fn := fun _ => fun
  | [d1, d2] => { results := [.lit (.bool true)], args := [d1, d2] }
  | _ => none }
def fnExactOpenSidesRow : OpenClaim := { program := "ytfelemoefhbphaa", sum := "5fad7082e76c374ba465dd1b7b5a8c7f09967ae23a855906952dd9da166b156c", func := "loop.example/g01345/laws.FnExactOpenSides", spec := "fnExactOpenSides", unfollowed := true, recurses := true, plainKeys := false, apart := false }
def FnExactOpenSidesSaid : Prop := fnExactOpenSidesRow.holds Try.pinned (OpenSpec.ofChange fnExactOpenSidesSpec)

/-- ITS FALSE NEIGHBOUR: 'it returns false'. Refute it at one input. -/
def fnExactOpenSidesWrong : ChangeSpec := { name := "fnExactOpenSides", fn := fun _ => fun
  | [d1, d2] => { results := [.lit (.bool false)], args := [d1, d2] }
  | _ => none }
def FnExactOpenSidesWrongFalsely : Prop := fnExactOpenSidesRow.holds Try.pinned (OpenSpec.ofChange fnExactOpenSidesWrong)

/-- 'laws.FnExactGatesNeeded': WHATEVER THE INPUT: true; the input reads as it did. -/
def fnExactGatesNeededSpec : ChangeSpec := { name := "fnExactGatesNeeded", fn := fun _ => fun
  | [d1, d2, d3] => { results := [.lit (.bool true)], args := [d1, d2, d3] }
  | _ => none }
def fnExactGatesNeededRow : OpenClaim := { program := "ytfelemoefhbphaa", sum := "5fad7082e76c374ba465dd1b7b5a8c7f09967ae23a855906952dd9da166b156c", func := "loop.example/g01345/laws.FnExactGatesNeeded", spec := "fnExactGatesNeeded", unfollowed := true, recurses := true, plainKeys := false, apart := false }
def FnExactGatesNeededSaid : Prop := fnExactGatesNeededRow.holds Try.pinned (OpenSpec.ofChange fnExactGatesNeededSpec)

/-- ITS FALSE NEIGHBOUR: 'it returns false'. Refute it at one input. -/
def fnExactGatesNeededWrong : ChangeSpec := { name := "fnExactGatesNeeded", fn := fun _ => fun
  | [d1, d2, d3] => { results := [.lit (.bool false)], args := [d1, d2, d3] }
  | _ => none }
def FnExactGatesNeededWrongFalsely : Prop := fnExactGatesNeededRow.holds Try.pinned (OpenSpec.ofChange fnExactGatesNeededWrong)

/- THE SECOND FORM. 'bulk': how many values and letters a reading holds, each counted each time it is reached (what is shared counts as often as it is met; a slice's spare places count too). A statement '..UptoSaid' is the law's where the arguments, and the package variables that the reading takes, are together of bulk at most 1048576: NARROWER than '..Said'. Prove '..Said' where nothing that the law and all that it calls make is longer than what came in: it says more and counts as full. Else prove '..UptoSaid'. A law counts once. -/
mutual
def uptoBulk {H : Type} : DataW H → Nat
  | .lit (.string bytes) => bytes.length + 1
  | .lit _ => 1
  | .nil => 1
  | .ptr d => uptoBulk d + 1
  | .slice elems spare => uptoBulkAll elems + uptoBulkAll spare + 1
  | .agg parts => uptoBulkAll parts + 1
  | .iface _ d => uptoBulk d + 1
  | .map entries => uptoBulkEntries entries + 1
  | .held _ => 1
def uptoBulkAll {H : Type} : List (DataW H) → Nat
  | [] => 0
  | d :: r => uptoBulk d + uptoBulkAll r
def uptoBulkEntries {H : Type} : List (Lit × DataW H) → Nat
  | [] => 0
  | x :: r => uptoBulkEntry x + uptoBulkEntries r
def uptoBulkEntry {H : Type} : Lit × DataW H → Nat
  | (.string bytes, d) => bytes.length + uptoBulk d + 1
  | (_, d) => uptoBulk d + 1
 end
def uptoSmall : (H : Type) → List (DataW H) → Bool := fun _ ds => decide (uptoBulkAll ds ≤ 1048576)
def OpenSpec.upto (s : _root_.Go.ChangeSpec) : _root_.Go.OpenSpec := { _root_.Go.OpenSpec.ofChange s with cond := some uptoSmall }

/-- 'laws.FnExactYardOf', WHERE WHAT IT READS IS OF BULK AT MOST 1048576: true; the input reads as it did. -/
def fnExactYardOfUptoRow : OpenClaim := { program := "ytfelemoefhbphaa", sum := "5fad7082e76c374ba465dd1b7b5a8c7f09967ae23a855906952dd9da166b156c", func := "loop.example/g01345/laws.FnExactYardOf", spec := "fnExactYardOf", unfollowed := true, recurses := true, plainKeys := false, apart := false, narrowed := true }
def FnExactYardOfUptoSaid : Prop := fnExactYardOfUptoRow.holds Try.pinned (OpenSpec.upto fnExactYardOfSpec)

/-- 'laws.FnExactYardsOf', WHERE WHAT IT READS IS OF BULK AT MOST 1048576: true; the input reads as it did. -/
def fnExactYardsOfUptoRow : OpenClaim := { program := "ytfelemoefhbphaa", sum := "5fad7082e76c374ba465dd1b7b5a8c7f09967ae23a855906952dd9da166b156c", func := "loop.example/g01345/laws.FnExactYardsOf", spec := "fnExactYardsOf", unfollowed := true, recurses := true, plainKeys := false, apart := false, narrowed := true }
def FnExactYardsOfUptoSaid : Prop := fnExactYardsOfUptoRow.holds Try.pinned (OpenSpec.upto fnExactYardsOfSpec)

/-- 'laws.FnExactMowYard', WHERE WHAT IT READS IS OF BULK AT MOST 1048576: true; the input reads as it did. -/
def fnExactMowYardUptoRow : OpenClaim := { program := "ytfelemoefhbphaa", sum := "5fad7082e76c374ba465dd1b7b5a8c7f09967ae23a855906952dd9da166b156c", func := "loop.example/g01345/laws.FnExactMowYard", spec := "fnExactMowYard", unfollowed := true, recurses := true, plainKeys := false, apart := false, narrowed := true }
def FnExactMowYardUptoSaid : Prop := fnExactMowYardUptoRow.holds Try.pinned (OpenSpec.upto fnExactMowYardSpec)

/-- 'laws.FnExactGrazeYard', WHERE WHAT IT READS IS OF BULK AT MOST 1048576: true; the input reads as it did. -/
def fnExactGrazeYardUptoRow : OpenClaim := { program := "ytfelemoefhbphaa", sum := "5fad7082e76c374ba465dd1b7b5a8c7f09967ae23a855906952dd9da166b156c", func := "loop.example/g01345/laws.FnExactGrazeYard", spec := "fnExactGrazeYard", unfollowed := true, recurses := true, plainKeys := false, apart := false, narrowed := true }
def FnExactGrazeYardUptoSaid : Prop := fnExactGrazeYardUptoRow.holds Try.pinned (OpenSpec.upto fnExactGrazeYardSpec)

/-- 'laws.FnExactWayBetween', WHERE WHAT IT READS IS OF BULK AT MOST 1048576: true; the input reads as it did. -/
def fnExactWayBetweenUptoRow : OpenClaim := { program := "ytfelemoefhbphaa", sum := "5fad7082e76c374ba465dd1b7b5a8c7f09967ae23a855906952dd9da166b156c", func := "loop.example/g01345/laws.FnExactWayBetween", spec := "fnExactWayBetween", unfollowed := true, recurses := true, plainKeys := false, apart := false, narrowed := true }
def FnExactWayBetweenUptoSaid : Prop := fnExactWayBetweenUptoRow.holds Try.pinned (OpenSpec.upto fnExactWayBetweenSpec)

/-- 'laws.FnExactIdleHurdles', WHERE WHAT IT READS IS OF BULK AT MOST 1048576: true; the input reads as it did. -/
def fnExactIdleHurdlesUptoRow : OpenClaim := { program := "ytfelemoefhbphaa", sum := "5fad7082e76c374ba465dd1b7b5a8c7f09967ae23a855906952dd9da166b156c", func := "loop.example/g01345/laws.FnExactIdleHurdles", spec := "fnExactIdleHurdles", unfollowed := true, recurses := true, plainKeys := false, apart := false, narrowed := true }
def FnExactIdleHurdlesUptoSaid : Prop := fnExactIdleHurdlesUptoRow.holds Try.pinned (OpenSpec.upto fnExactIdleHurdlesSpec)

/-- 'laws.FnExactHayOf', WHERE WHAT IT READS IS OF BULK AT MOST 1048576: true; the input reads as it did. -/
def fnExactHayOfUptoRow : OpenClaim := { program := "ytfelemoefhbphaa", sum := "5fad7082e76c374ba465dd1b7b5a8c7f09967ae23a855906952dd9da166b156c", func := "loop.example/g01345/laws.FnExactHayOf", spec := "fnExactHayOf", unfollowed := true, recurses := true, plainKeys := false, apart := false, narrowed := true }
def FnExactHayOfUptoSaid : Prop := fnExactHayOfUptoRow.holds Try.pinned (OpenSpec.upto fnExactHayOfSpec)

/-- 'laws.FnExactBestMowing', WHERE WHAT IT READS IS OF BULK AT MOST 1048576: true; the input reads as it did. -/
def fnExactBestMowingUptoRow : OpenClaim := { program := "ytfelemoefhbphaa", sum := "5fad7082e76c374ba465dd1b7b5a8c7f09967ae23a855906952dd9da166b156c", func := "loop.example/g01345/laws.FnExactBestMowing", spec := "fnExactBestMowing", unfollowed := true, recurses := true, plainKeys := false, apart := false, narrowed := true }
def FnExactBestMowingUptoSaid : Prop := fnExactBestMowingUptoRow.holds Try.pinned (OpenSpec.upto fnExactBestMowingSpec)

/-- 'laws.FnExactBestTwoMowings', WHERE WHAT IT READS IS OF BULK AT MOST 1048576: true; the input reads as it did. -/
def fnExactBestTwoMowingsUptoRow : OpenClaim := { program := "ytfelemoefhbphaa", sum := "5fad7082e76c374ba465dd1b7b5a8c7f09967ae23a855906952dd9da166b156c", func := "loop.example/g01345/laws.FnExactBestTwoMowings", spec := "fnExactBestTwoMowings", unfollowed := true, recurses := true, plainKeys := false, apart := false, narrowed := true }
def FnExactBestTwoMowingsUptoSaid : Prop := fnExactBestTwoMowingsUptoRow.holds Try.pinned (OpenSpec.upto fnExactBestTwoMowingsSpec)

/-- 'laws.FnExactSidesOf', WHERE WHAT IT READS IS OF BULK AT MOST 1048576: true; the input reads as it did. -/
def fnExactSidesOfUptoRow : OpenClaim := { program := "ytfelemoefhbphaa", sum := "5fad7082e76c374ba465dd1b7b5a8c7f09967ae23a855906952dd9da166b156c", func := "loop.example/g01345/laws.FnExactSidesOf", spec := "fnExactSidesOf", unfollowed := true, recurses := true, plainKeys := false, apart := false, narrowed := true }
def FnExactSidesOfUptoSaid : Prop := fnExactSidesOfUptoRow.holds Try.pinned (OpenSpec.upto fnExactSidesOfSpec)

/-- 'laws.FnExactOpenSides', WHERE WHAT IT READS IS OF BULK AT MOST 1048576: true; the input reads as it did. -/
def fnExactOpenSidesUptoRow : OpenClaim := { program := "ytfelemoefhbphaa", sum := "5fad7082e76c374ba465dd1b7b5a8c7f09967ae23a855906952dd9da166b156c", func := "loop.example/g01345/laws.FnExactOpenSides", spec := "fnExactOpenSides", unfollowed := true, recurses := true, plainKeys := false, apart := false, narrowed := true }
def FnExactOpenSidesUptoSaid : Prop := fnExactOpenSidesUptoRow.holds Try.pinned (OpenSpec.upto fnExactOpenSidesSpec)

/-- 'laws.FnExactGatesNeeded', WHERE WHAT IT READS IS OF BULK AT MOST 1048576: true; the input reads as it did. -/
def fnExactGatesNeededUptoRow : OpenClaim := { program := "ytfelemoefhbphaa", sum := "5fad7082e76c374ba465dd1b7b5a8c7f09967ae23a855906952dd9da166b156c", func := "loop.example/g01345/laws.FnExactGatesNeeded", spec := "fnExactGatesNeeded", unfollowed := true, recurses := true, plainKeys := false, apart := false, narrowed := true }
def FnExactGatesNeededUptoSaid : Prop := fnExactGatesNeededUptoRow.holds Try.pinned (OpenSpec.upto fnExactGatesNeededSpec)

end Rows
end Go.Proofs.Ytfelemoefhbphaa
