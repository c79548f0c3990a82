/-
  No cell of these rows narrows 'for every input' (looked for: loops, veiled, ifaces, maps, wideKeys, modest, calm, conditions, laid).
  DERIVED. THE GIVEN ROWS OF THIS SEAT. 12 by the template 'for every input the law returns true; each argument reads behind the call as it read before'; 0 by the template 'total and deterministic' (their statements: YtpdghhmpbakckaaTotals.lean).
  GIVEN WITH THE SEED: the statements are not yours to turn. If you find one false, say at which input.
  Laid BY PROGRAM, IN A SANDBOX (cutbox-rows.mjs): the forced cells as the released guide's own fill.sh prints them over the translation 6a0b86cb510fd976… (all of the seat's roots in one cut). By AI agents, Wed Nov 11 2026. No macro, syntax, notation, axiom, sorry.
-/
import Derived.Test.YtpdghhmpbakckaaChecked
import GoSem.Claim
import GoSem.ClaimJoined
import GoSem.ClaimMapViews
import Derived.JoinedTies
import Derived.KernelRfl
namespace Go.Proofs.Ytpdghhmpbakckaa
/- THE CELL 'sum', in the pinned program and in every row, IS THE sha256 OF THE DUMP (.gsa) THAT YtpdghhmpbakckaaProg.lean LOADS. Nothing in Lean hashes anything: it is a label: what it is worth is what the hold of that sum in a sandbox is worth. -/
noncomputable def Try.pinned : Pinned := { name := "ytpdghhmpbakckaa", sum := "6a0b86cb510fd976402dee7d2f8ae6dfe7523ef6d84ad25c66b31fcc9d7383b4", checked := Try.checked }
namespace Rows
def none {H : Type} : Left H := { results := [], args := [] }

/-- 'laws.FnExactSamePasture': WHATEVER THE INPUT: true; the input reads as it did. -/
def fnExactSamePastureSpec : ChangeSpec := { name := "fnExactSamePasture", fn := fun _ => fun
  | [d1, d2] => { results := [.lit (.bool true)], args := [d1, d2] }
  | _ => none }
def fnExactSamePastureRow : OpenClaim := { program := "ytpdghhmpbakckaa", sum := "6a0b86cb510fd976402dee7d2f8ae6dfe7523ef6d84ad25c66b31fcc9d7383b4", func := "loop.example/g01345/laws.FnExactSamePasture", spec := "fnExactSamePasture", apart := false }
def FnExactSamePastureSaid : Prop := fnExactSamePastureRow.holds Try.pinned (OpenSpec.ofChange fnExactSamePastureSpec)

/-- ITS FALSE NEIGHBOUR: 'it returns false'. Refute it at one input. -/
def fnExactSamePastureWrong : ChangeSpec := { name := "fnExactSamePasture", fn := fun _ => fun
  | [d1, d2] => { results := [.lit (.bool false)], args := [d1, d2] }
  | _ => none }
def FnExactSamePastureWrongFalsely : Prop := fnExactSamePastureRow.holds Try.pinned (OpenSpec.ofChange fnExactSamePastureWrong)

/-- 'laws.FnExactValidGrowth': WHATEVER THE INPUT: true; the input reads as it did. -/
def fnExactValidGrowthSpec : ChangeSpec := { name := "fnExactValidGrowth", fn := fun _ => fun
  | [d] => { results := [.lit (.bool true)], args := [d] }
  | _ => none }
def fnExactValidGrowthRow : OpenClaim := { program := "ytpdghhmpbakckaa", sum := "6a0b86cb510fd976402dee7d2f8ae6dfe7523ef6d84ad25c66b31fcc9d7383b4", func := "loop.example/g01345/laws.FnExactValidGrowth", spec := "fnExactValidGrowth", unfollowed := true, recurses := true, apart := false }
def FnExactValidGrowthSaid : Prop := fnExactValidGrowthRow.holds Try.pinned (OpenSpec.ofChange fnExactValidGrowthSpec)

/-- ITS FALSE NEIGHBOUR: 'it returns false'. Refute it at one input. -/
def fnExactValidGrowthWrong : ChangeSpec := { name := "fnExactValidGrowth", fn := fun _ => fun
  | [d] => { results := [.lit (.bool false)], args := [d] }
  | _ => none }
def FnExactValidGrowthWrongFalsely : Prop := fnExactValidGrowthRow.holds Try.pinned (OpenSpec.ofChange fnExactValidGrowthWrong)

/-- 'laws.FnExactFreeGoat': WHATEVER THE INPUT: true; the input reads as it did. -/
def fnExactFreeGoatSpec : ChangeSpec := { name := "fnExactFreeGoat", fn := fun _ => fun
  | [d1, d2, d3] => { results := [.lit (.bool true)], args := [d1, d2, d3] }
  | _ => none }
def fnExactFreeGoatRow : OpenClaim := { program := "ytpdghhmpbakckaa", sum := "6a0b86cb510fd976402dee7d2f8ae6dfe7523ef6d84ad25c66b31fcc9d7383b4", func := "loop.example/g01345/laws.FnExactFreeGoat", spec := "fnExactFreeGoat", apart := false }
def FnExactFreeGoatSaid : Prop := fnExactFreeGoatRow.holds Try.pinned (OpenSpec.ofChange fnExactFreeGoatSpec)

/-- ITS FALSE NEIGHBOUR: 'it returns false'. Refute it at one input. -/
def fnExactFreeGoatWrong : ChangeSpec := { name := "fnExactFreeGoat", fn := fun _ => fun
  | [d1, d2, d3] => { results := [.lit (.bool false)], args := [d1, d2, d3] }
  | _ => none }
def FnExactFreeGoatWrongFalsely : Prop := fnExactFreeGoatRow.holds Try.pinned (OpenSpec.ofChange fnExactFreeGoatWrong)

/-- 'laws.FnExactBestBand': WHATEVER THE INPUT: true; the input reads as it did. -/
def fnExactBestBandSpec : ChangeSpec := { name := "fnExactBestBand", fn := fun _ => fun
  | [d] => { results := [.lit (.bool true)], args := [d] }
  | _ => none }
def fnExactBestBandRow : OpenClaim := { program := "ytpdghhmpbakckaa", sum := "6a0b86cb510fd976402dee7d2f8ae6dfe7523ef6d84ad25c66b31fcc9d7383b4", func := "loop.example/g01345/laws.FnExactBestBand", spec := "fnExactBestBand", unfollowed := true, recurses := true, apart := false }
def FnExactBestBandSaid : Prop := fnExactBestBandRow.holds Try.pinned (OpenSpec.ofChange fnExactBestBandSpec)

/-- ITS FALSE NEIGHBOUR: 'it returns false'. Refute it at one input. -/
def fnExactBestBandWrong : ChangeSpec := { name := "fnExactBestBand", fn := fun _ => fun
  | [d] => { results := [.lit (.bool false)], args := [d] }
  | _ => none }
def FnExactBestBandWrongFalsely : Prop := fnExactBestBandRow.holds Try.pinned (OpenSpec.ofChange fnExactBestBandWrong)

/-- 'laws.FnExactGrowCell': WHATEVER THE INPUT: true; the input reads as it did. -/
def fnExactGrowCellSpec : ChangeSpec := { name := "fnExactGrowCell", fn := fun _ => fun
  | [d1, d2] => { results := [.lit (.bool true)], args := [d1, d2] }
  | _ => none }
def fnExactGrowCellRow : OpenClaim := { program := "ytpdghhmpbakckaa", sum := "6a0b86cb510fd976402dee7d2f8ae6dfe7523ef6d84ad25c66b31fcc9d7383b4", func := "loop.example/g01345/laws.FnExactGrowCell", spec := "fnExactGrowCell", unfollowed := true, recurses := true, apart := false }
def FnExactGrowCellSaid : Prop := fnExactGrowCellRow.holds Try.pinned (OpenSpec.ofChange fnExactGrowCellSpec)

/-- ITS FALSE NEIGHBOUR: 'it returns false'. Refute it at one input. -/
def fnExactGrowCellWrong : ChangeSpec := { name := "fnExactGrowCell", fn := fun _ => fun
  | [d1, d2] => { results := [.lit (.bool false)], args := [d1, d2] }
  | _ => none }
def FnExactGrowCellWrongFalsely : Prop := fnExactGrowCellRow.holds Try.pinned (OpenSpec.ofChange fnExactGrowCellWrong)

/-- 'laws.FnExactPlainPasture': WHATEVER THE INPUT: true; the input reads as it did. -/
def fnExactPlainPastureSpec : ChangeSpec := { name := "fnExactPlainPasture", fn := fun _ => fun
  | [d1, d2, d3] => { results := [.lit (.bool true)], args := [d1, d2, d3] }
  | _ => none }
def fnExactPlainPastureRow : OpenClaim := { program := "ytpdghhmpbakckaa", sum := "6a0b86cb510fd976402dee7d2f8ae6dfe7523ef6d84ad25c66b31fcc9d7383b4", func := "loop.example/g01345/laws.FnExactPlainPasture", spec := "fnExactPlainPasture", unfollowed := true, recurses := true, apart := false }
def FnExactPlainPastureSaid : Prop := fnExactPlainPastureRow.holds Try.pinned (OpenSpec.ofChange fnExactPlainPastureSpec)

/-- ITS FALSE NEIGHBOUR: 'it returns false'. Refute it at one input. -/
def fnExactPlainPastureWrong : ChangeSpec := { name := "fnExactPlainPasture", fn := fun _ => fun
  | [d1, d2, d3] => { results := [.lit (.bool false)], args := [d1, d2, d3] }
  | _ => none }
def FnExactPlainPastureWrongFalsely : Prop := fnExactPlainPastureRow.holds Try.pinned (OpenSpec.ofChange fnExactPlainPastureWrong)

/-- 'laws.FnExactDaysTo': WHATEVER THE INPUT: true; the input reads as it did. -/
def fnExactDaysToSpec : ChangeSpec := { name := "fnExactDaysTo", fn := fun _ => fun
  | [d1, d2, d3] => { results := [.lit (.bool true)], args := [d1, d2, d3] }
  | _ => none }
def fnExactDaysToRow : OpenClaim := { program := "ytpdghhmpbakckaa", sum := "6a0b86cb510fd976402dee7d2f8ae6dfe7523ef6d84ad25c66b31fcc9d7383b4", func := "loop.example/g01345/laws.FnExactDaysTo", spec := "fnExactDaysTo", unfollowed := true, recurses := true, apart := false }
def FnExactDaysToSaid : Prop := fnExactDaysToRow.holds Try.pinned (OpenSpec.ofChange fnExactDaysToSpec)

/-- ITS FALSE NEIGHBOUR: 'it returns false'. Refute it at one input. -/
def fnExactDaysToWrong : ChangeSpec := { name := "fnExactDaysTo", fn := fun _ => fun
  | [d1, d2, d3] => { results := [.lit (.bool false)], args := [d1, d2, d3] }
  | _ => none }
def FnExactDaysToWrongFalsely : Prop := fnExactDaysToRow.holds Try.pinned (OpenSpec.ofChange fnExactDaysToWrong)

/-- 'laws.FnExactSameGoats': WHATEVER THE INPUT: true; the input reads as it did. -/
def fnExactSameGoatsSpec : ChangeSpec := { name := "fnExactSameGoats", fn := fun _ => fun
  | [d1, d2] => { results := [.lit (.bool true)], args := [d1, d2] }
  | _ => none }
def fnExactSameGoatsRow : OpenClaim := { program := "ytpdghhmpbakckaa", sum := "6a0b86cb510fd976402dee7d2f8ae6dfe7523ef6d84ad25c66b31fcc9d7383b4", func := "loop.example/g01345/laws.FnExactSameGoats", spec := "fnExactSameGoats", apart := false }
def FnExactSameGoatsSaid : Prop := fnExactSameGoatsRow.holds Try.pinned (OpenSpec.ofChange fnExactSameGoatsSpec)

/-- ITS FALSE NEIGHBOUR: 'it returns false'. Refute it at one input. -/
def fnExactSameGoatsWrong : ChangeSpec := { name := "fnExactSameGoats", fn := fun _ => fun
  | [d1, d2] => { results := [.lit (.bool false)], args := [d1, d2] }
  | _ => none }
def FnExactSameGoatsWrongFalsely : Prop := fnExactSameGoatsRow.holds Try.pinned (OpenSpec.ofChange fnExactSameGoatsWrong)

/-- 'laws.FnExactValidPasture': WHATEVER THE INPUT: true; the input reads as it did. -/
def fnExactValidPastureSpec : ChangeSpec := { name := "fnExactValidPasture", fn := fun _ => fun
  | [d] => { results := [.lit (.bool true)], args := [d] }
  | _ => none }
def fnExactValidPastureRow : OpenClaim := { program := "ytpdghhmpbakckaa", sum := "6a0b86cb510fd976402dee7d2f8ae6dfe7523ef6d84ad25c66b31fcc9d7383b4", func := "loop.example/g01345/laws.FnExactValidPasture", spec := "fnExactValidPasture", apart := false }
def FnExactValidPastureSaid : Prop := fnExactValidPastureRow.holds Try.pinned (OpenSpec.ofChange fnExactValidPastureSpec)

/-- ITS FALSE NEIGHBOUR: 'it returns false'. Refute it at one input. -/
def fnExactValidPastureWrong : ChangeSpec := { name := "fnExactValidPasture", fn := fun _ => fun
  | [d] => { results := [.lit (.bool false)], args := [d] }
  | _ => none }
def FnExactValidPastureWrongFalsely : Prop := fnExactValidPastureRow.holds Try.pinned (OpenSpec.ofChange fnExactValidPastureWrong)

/-- 'laws.FnExactGrassIn': WHATEVER THE INPUT: true; the input reads as it did. -/
def fnExactGrassInSpec : ChangeSpec := { name := "fnExactGrassIn", fn := fun _ => fun
  | [d] => { results := [.lit (.bool true)], args := [d] }
  | _ => none }
def fnExactGrassInRow : OpenClaim := { program := "ytpdghhmpbakckaa", sum := "6a0b86cb510fd976402dee7d2f8ae6dfe7523ef6d84ad25c66b31fcc9d7383b4", func := "loop.example/g01345/laws.FnExactGrassIn", spec := "fnExactGrassIn", unfollowed := true, recurses := true, apart := false }
def FnExactGrassInSaid : Prop := fnExactGrassInRow.holds Try.pinned (OpenSpec.ofChange fnExactGrassInSpec)

/-- ITS FALSE NEIGHBOUR: 'it returns false'. Refute it at one input. -/
def fnExactGrassInWrong : ChangeSpec := { name := "fnExactGrassIn", fn := fun _ => fun
  | [d] => { results := [.lit (.bool false)], args := [d] }
  | _ => none }
def FnExactGrassInWrongFalsely : Prop := fnExactGrassInRow.holds Try.pinned (OpenSpec.ofChange fnExactGrassInWrong)

/-- 'laws.FnExactGrassAt': WHATEVER THE INPUT: true; the input reads as it did. -/
def fnExactGrassAtSpec : ChangeSpec := { name := "fnExactGrassAt", fn := fun _ => fun
  | [d1, d2] => { results := [.lit (.bool true)], args := [d1, d2] }
  | _ => none }
def fnExactGrassAtRow : OpenClaim := { program := "ytpdghhmpbakckaa", sum := "6a0b86cb510fd976402dee7d2f8ae6dfe7523ef6d84ad25c66b31fcc9d7383b4", func := "loop.example/g01345/laws.FnExactGrassAt", spec := "fnExactGrassAt", unfollowed := true, recurses := true, apart := false }
def FnExactGrassAtSaid : Prop := fnExactGrassAtRow.holds Try.pinned (OpenSpec.ofChange fnExactGrassAtSpec)

/-- ITS FALSE NEIGHBOUR: 'it returns false'. Refute it at one input. -/
def fnExactGrassAtWrong : ChangeSpec := { name := "fnExactGrassAt", fn := fun _ => fun
  | [d1, d2] => { results := [.lit (.bool false)], args := [d1, d2] }
  | _ => none }
def FnExactGrassAtWrongFalsely : Prop := fnExactGrassAtRow.holds Try.pinned (OpenSpec.ofChange fnExactGrassAtWrong)

/-- 'laws.FnExactBalanceOf': WHATEVER THE INPUT: true; the input reads as it did. -/
def fnExactBalanceOfSpec : ChangeSpec := { name := "fnExactBalanceOf", fn := fun _ => fun
  | [d1, d2, d3, d4, d5] => { results := [.lit (.bool true)], args := [d1, d2, d3, d4, d5] }
  | _ => none }
def fnExactBalanceOfRow : OpenClaim := { program := "ytpdghhmpbakckaa", sum := "6a0b86cb510fd976402dee7d2f8ae6dfe7523ef6d84ad25c66b31fcc9d7383b4", func := "loop.example/g01345/laws.FnExactBalanceOf", spec := "fnExactBalanceOf", unfollowed := true, recurses := true, apart := false }
def FnExactBalanceOfSaid : Prop := fnExactBalanceOfRow.holds Try.pinned (OpenSpec.ofChange fnExactBalanceOfSpec)

/-- ITS FALSE NEIGHBOUR: 'it returns false'. Refute it at one input. -/
def fnExactBalanceOfWrong : ChangeSpec := { name := "fnExactBalanceOf", fn := fun _ => fun
  | [d1, d2, d3, d4, d5] => { results := [.lit (.bool false)], args := [d1, d2, d3, d4, d5] }
  | _ => none }
def FnExactBalanceOfWrongFalsely : Prop := fnExactBalanceOfRow.holds Try.pinned (OpenSpec.ofChange fnExactBalanceOfWrong)

/- THE SECOND FORM. 'bulk': how many values and letters a reading holds, each counted each time it is reached (what is shared counts as often as it is met; a slice's spare places count too). A statement '..UptoSaid' is the law's where the arguments, and the package variables that the reading takes, are together of bulk at most 1048576: NARROWER than '..Said'. Prove '..Said' where nothing that the law and all that it calls make is longer than what came in: it says more and counts as full. Else prove '..UptoSaid'. A law counts once. -/
mutual
def uptoBulk {H : Type} : DataW H → Nat
  | .lit (.string bytes) => bytes.length + 1
  | .lit _ => 1
  | .nil => 1
  | .ptr d => uptoBulk d + 1
  | .slice elems spare => uptoBulkAll elems + uptoBulkAll spare + 1
  | .agg parts => uptoBulkAll parts + 1
  | .iface _ d => uptoBulk d + 1
  | .map entries => uptoBulkEntries entries + 1
  | .held _ => 1
def uptoBulkAll {H : Type} : List (DataW H) → Nat
  | [] => 0
  | d :: r => uptoBulk d + uptoBulkAll r
def uptoBulkEntries {H : Type} : List (Lit × DataW H) → Nat
  | [] => 0
  | x :: r => uptoBulkEntry x + uptoBulkEntries r
def uptoBulkEntry {H : Type} : Lit × DataW H → Nat
  | (.string bytes, d) => bytes.length + uptoBulk d + 1
  | (_, d) => uptoBulk d + 1
 end
def uptoSmall : (H : Type) → List (DataW H) → Bool := fun _ ds => decide (uptoBulkAll ds ≤ 1048576)
def OpenSpec.upto (s : _root_.Go.ChangeSpec) : _root_.Go.OpenSpec := { _root_.Go.OpenSpec.ofChange s with cond := some uptoSmall }

/-- 'laws.FnExactSamePasture', WHERE WHAT IT READS IS OF BULK AT MOST 1048576: true; the input reads as it did. -/
def fnExactSamePastureUptoRow : OpenClaim := { program := "ytpdghhmpbakckaa", sum := "6a0b86cb510fd976402dee7d2f8ae6dfe7523ef6d84ad25c66b31fcc9d7383b4", func := "loop.example/g01345/laws.FnExactSamePasture", spec := "fnExactSamePasture", apart := false, narrowed := true }
def FnExactSamePastureUptoSaid : Prop := fnExactSamePastureUptoRow.holds Try.pinned (OpenSpec.upto fnExactSamePastureSpec)

/-- 'laws.FnExactValidGrowth', WHERE WHAT IT READS IS OF BULK AT MOST 1048576: true; the input reads as it did. -/
def fnExactValidGrowthUptoRow : OpenClaim := { program := "ytpdghhmpbakckaa", sum := "6a0b86cb510fd976402dee7d2f8ae6dfe7523ef6d84ad25c66b31fcc9d7383b4", func := "loop.example/g01345/laws.FnExactValidGrowth", spec := "fnExactValidGrowth", unfollowed := true, recurses := true, apart := false, narrowed := true }
def FnExactValidGrowthUptoSaid : Prop := fnExactValidGrowthUptoRow.holds Try.pinned (OpenSpec.upto fnExactValidGrowthSpec)

/-- 'laws.FnExactFreeGoat', WHERE WHAT IT READS IS OF BULK AT MOST 1048576: true; the input reads as it did. -/
def fnExactFreeGoatUptoRow : OpenClaim := { program := "ytpdghhmpbakckaa", sum := "6a0b86cb510fd976402dee7d2f8ae6dfe7523ef6d84ad25c66b31fcc9d7383b4", func := "loop.example/g01345/laws.FnExactFreeGoat", spec := "fnExactFreeGoat", apart := false, narrowed := true }
def FnExactFreeGoatUptoSaid : Prop := fnExactFreeGoatUptoRow.holds Try.pinned (OpenSpec.upto fnExactFreeGoatSpec)

/-- 'laws.FnExactBestBand', WHERE WHAT IT READS IS OF BULK AT MOST 1048576: true; the input reads as it did. -/
def fnExactBestBandUptoRow : OpenClaim := { program := "ytpdghhmpbakckaa", sum := "6a0b86cb510fd976402dee7d2f8ae6dfe7523ef6d84ad25c66b31fcc9d7383b4", func := "loop.example/g01345/laws.FnExactBestBand", spec := "fnExactBestBand", unfollowed := true, recurses := true, apart := false, narrowed := true }
def FnExactBestBandUptoSaid : Prop := fnExactBestBandUptoRow.holds Try.pinned (OpenSpec.upto fnExactBestBandSpec)

/-- 'laws.FnExactGrowCell', WHERE WHAT IT READS IS OF BULK AT MOST 1048576: true; the input reads as it did. -/
def fnExactGrowCellUptoRow : OpenClaim := { program := "ytpdghhmpbakckaa", sum := "6a0b86cb510fd976402dee7d2f8ae6dfe7523ef6d84ad25c66b31fcc9d7383b4", func := "loop.example/g01345/laws.FnExactGrowCell", spec := "fnExactGrowCell", unfollowed := true, recurses := true, apart := false, narrowed := true }
def FnExactGrowCellUptoSaid : Prop := fnExactGrowCellUptoRow.holds Try.pinned (OpenSpec.upto fnExactGrowCellSpec)

/-- 'laws.FnExactPlainPasture', WHERE WHAT IT READS IS OF BULK AT MOST 1048576: true; the input reads as it did. -/
def fnExactPlainPastureUptoRow : OpenClaim := { program := "ytpdghhmpbakckaa", sum := "6a0b86cb510fd976402dee7d2f8ae6dfe7523ef6d84ad25c66b31fcc9d7383b4", func := "loop.example/g01345/laws.FnExactPlainPasture", spec := "fnExactPlainPasture", unfollowed := true, recurses := true, apart := false, narrowed := true }
def FnExactPlainPastureUptoSaid : Prop := fnExactPlainPastureUptoRow.holds Try.pinned (OpenSpec.upto fnExactPlainPastureSpec)

/-- 'laws.FnExactDaysTo', WHERE WHAT IT READS IS OF BULK AT MOST 1048576: true; the input reads as it did. -/
def fnExactDaysToUptoRow : OpenClaim := { program := "ytpdghhmpbakckaa", sum := "6a0b86cb510fd976402dee7d2f8ae6dfe7523ef6d84ad25c66b31fcc9d7383b4", func := "loop.example/g01345/laws.FnExactDaysTo", spec := "fnExactDaysTo", unfollowed := true, recurses := true, apart := false, narrowed := true }
def FnExactDaysToUptoSaid : Prop := fnExactDaysToUptoRow.holds Try.pinned (OpenSpec.upto fnExactDaysToSpec)

/-- 'laws.FnExactSameGoats', WHERE WHAT IT READS IS OF BULK AT MOST 1048576: true; the input reads as it did. -/
def fnExactSameGoatsUptoRow : OpenClaim := { program := "ytpdghhmpbakckaa", sum := "6a0b86cb510fd976402dee7d2f8ae6dfe7523ef6d84ad25c66b31fcc9d7383b4", func := "loop.example/g01345/laws.FnExactSameGoats", spec := "fnExactSameGoats", apart := false, narrowed := true }
def FnExactSameGoatsUptoSaid : Prop := fnExactSameGoatsUptoRow.holds Try.pinned (OpenSpec.upto fnExactSameGoatsSpec)

/-- 'laws.FnExactValidPasture', WHERE WHAT IT READS IS OF BULK AT MOST 1048576: true; the input reads as it did. -/
def fnExactValidPastureUptoRow : OpenClaim := { program := "ytpdghhmpbakckaa", sum := "6a0b86cb510fd976402dee7d2f8ae6dfe7523ef6d84ad25c66b31fcc9d7383b4", func := "loop.example/g01345/laws.FnExactValidPasture", spec := "fnExactValidPasture", apart := false, narrowed := true }
def FnExactValidPastureUptoSaid : Prop := fnExactValidPastureUptoRow.holds Try.pinned (OpenSpec.upto fnExactValidPastureSpec)

/-- 'laws.FnExactGrassIn', WHERE WHAT IT READS IS OF BULK AT MOST 1048576: true; the input reads as it did. -/
def fnExactGrassInUptoRow : OpenClaim := { program := "ytpdghhmpbakckaa", sum := "6a0b86cb510fd976402dee7d2f8ae6dfe7523ef6d84ad25c66b31fcc9d7383b4", func := "loop.example/g01345/laws.FnExactGrassIn", spec := "fnExactGrassIn", unfollowed := true, recurses := true, apart := false, narrowed := true }
def FnExactGrassInUptoSaid : Prop := fnExactGrassInUptoRow.holds Try.pinned (OpenSpec.upto fnExactGrassInSpec)

/-- 'laws.FnExactGrassAt', WHERE WHAT IT READS IS OF BULK AT MOST 1048576: true; the input reads as it did. -/
def fnExactGrassAtUptoRow : OpenClaim := { program := "ytpdghhmpbakckaa", sum := "6a0b86cb510fd976402dee7d2f8ae6dfe7523ef6d84ad25c66b31fcc9d7383b4", func := "loop.example/g01345/laws.FnExactGrassAt", spec := "fnExactGrassAt", unfollowed := true, recurses := true, apart := false, narrowed := true }
def FnExactGrassAtUptoSaid : Prop := fnExactGrassAtUptoRow.holds Try.pinned (OpenSpec.upto fnExactGrassAtSpec)

/-- 'laws.FnExactBalanceOf', WHERE WHAT IT READS IS OF BULK AT MOST 1048576: true; the input reads as it did. -/
def fnExactBalanceOfUptoRow : OpenClaim := { program := "ytpdghhmpbakckaa", sum := "6a0b86cb510fd976402dee7d2f8ae6dfe7523ef6d84ad25c66b31fcc9d7383b4", func := "loop.example/g01345/laws.FnExactBalanceOf", spec := "fnExactBalanceOf", unfollowed := true, recurses := true, apart := false, narrowed := true }
def FnExactBalanceOfUptoSaid : Prop := fnExactBalanceOfUptoRow.holds Try.pinned (OpenSpec.upto fnExactBalanceOfSpec)

end Rows
end Go.Proofs.Ytpdghhmpbakckaa
