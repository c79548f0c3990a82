/-
  No cell of these rows narrows 'for every input' (looked for: loops, veiled, ifaces, maps, wideKeys, modest, calm, conditions, laid).
  DERIVED. THE GIVEN ROWS OF THIS SEAT. 12 by the template 'for every input the law returns true; each argument reads behind the call as it read before'; 0 by the template 'total and deterministic' (their statements: YtlnilfnbfbbckaaTotals.lean).
  GIVEN WITH THE SEED: the statements are not yours to turn. If you find one false, say at which input.
  Laid BY PROGRAM, IN A SANDBOX (cutbox-rows.mjs): the forced cells as the released guide's own fill.sh prints them over the translation 15d390f1cfcbe144… (all of the seat's roots in one cut). By AI agents, Wed Nov 11 2026. No macro, syntax, notation, axiom, sorry.
-/
import Derived.Test.YtlnilfnbfbbckaaChecked
import GoSem.Claim
import GoSem.ClaimJoined
import GoSem.ClaimMapViews
import Derived.JoinedTies
import Derived.KernelRfl
namespace Go.Proofs.Ytlnilfnbfbbckaa
/- THE CELL 'sum', in the pinned program and in every row, IS THE sha256 OF THE DUMP (.gsa) THAT YtlnilfnbfbbckaaProg.lean LOADS. Nothing in Lean hashes anything: it is a label: what it is worth is what the hold of that sum in a sandbox is worth. -/
noncomputable def Try.pinned : Pinned := { name := "ytlnilfnbfbbckaa", sum := "15d390f1cfcbe144691dc1a67ec1f6523d0a3ef829d26ae362dc1dfba13c1741", checked := Try.checked }
namespace Rows
def none {H : Type} : Left H := { results := [], args := [] }

/-- 'laws.FnExactValidHurdle': WHATEVER THE INPUT: true; the input reads as it did. -/
def fnExactValidHurdleSpec : ChangeSpec := { name := "fnExactValidHurdle", fn := fun _ => fun
  | [d1, d2] => { results := [.lit (.bool true)], args := [d1, d2] }
  | _ => none }
def fnExactValidHurdleRow : OpenClaim := { program := "ytlnilfnbfbbckaa", sum := "15d390f1cfcbe144691dc1a67ec1f6523d0a3ef829d26ae362dc1dfba13c1741", func := "loop.example/g01345/laws.FnExactValidHurdle", spec := "fnExactValidHurdle", apart := false }
def FnExactValidHurdleSaid : Prop := fnExactValidHurdleRow.holds Try.pinned (OpenSpec.ofChange fnExactValidHurdleSpec)

/-- ITS FALSE NEIGHBOUR: 'it returns false'. Refute it at one input. -/
def fnExactValidHurdleWrong : ChangeSpec := { name := "fnExactValidHurdle", fn := fun _ => fun
  | [d1, d2] => { results := [.lit (.bool false)], args := [d1, d2] }
  | _ => none }
def FnExactValidHurdleWrongFalsely : Prop := fnExactValidHurdleRow.holds Try.pinned (OpenSpec.ofChange fnExactValidHurdleWrong)

/-- 'laws.FnExactBareCells': WHATEVER THE INPUT: true; the input reads as it did. -/
def fnExactBareCellsSpec : ChangeSpec := { name := "fnExactBareCells", fn := fun _ => fun
  | [d] => { results := [.lit (.bool true)], args := [d] }
  | _ => none }
def fnExactBareCellsRow : OpenClaim := { program := "ytlnilfnbfbbckaa", sum := "15d390f1cfcbe144691dc1a67ec1f6523d0a3ef829d26ae362dc1dfba13c1741", func := "loop.example/g01345/laws.FnExactBareCells", spec := "fnExactBareCells", unfollowed := true, recurses := true, apart := false }
def FnExactBareCellsSaid : Prop := fnExactBareCellsRow.holds Try.pinned (OpenSpec.ofChange fnExactBareCellsSpec)

/-- ITS FALSE NEIGHBOUR: 'it returns false'. Refute it at one input. -/
def fnExactBareCellsWrong : ChangeSpec := { name := "fnExactBareCells", fn := fun _ => fun
  | [d] => { results := [.lit (.bool false)], args := [d] }
  | _ => none }
def FnExactBareCellsWrongFalsely : Prop := fnExactBareCellsRow.holds Try.pinned (OpenSpec.ofChange fnExactBareCellsWrong)

/-- 'laws.FnExactCountHurdles': WHATEVER THE INPUT: true; the input reads as it did. -/
def fnExactCountHurdlesSpec : ChangeSpec := { name := "fnExactCountHurdles", fn := fun _ => fun
  | [d] => { results := [.lit (.bool true)], args := [d] }
  | _ => none }
def fnExactCountHurdlesRow : OpenClaim := { program := "ytlnilfnbfbbckaa", sum := "15d390f1cfcbe144691dc1a67ec1f6523d0a3ef829d26ae362dc1dfba13c1741", func := "loop.example/g01345/laws.FnExactCountHurdles", spec := "fnExactCountHurdles", unfollowed := true, recurses := true, apart := false }
def FnExactCountHurdlesSaid : Prop := fnExactCountHurdlesRow.holds Try.pinned (OpenSpec.ofChange fnExactCountHurdlesSpec)

/-- ITS FALSE NEIGHBOUR: 'it returns false'. Refute it at one input. -/
def fnExactCountHurdlesWrong : ChangeSpec := { name := "fnExactCountHurdles", fn := fun _ => fun
  | [d] => { results := [.lit (.bool false)], args := [d] }
  | _ => none }
def FnExactCountHurdlesWrongFalsely : Prop := fnExactCountHurdlesRow.holds Try.pinned (OpenSpec.ofChange fnExactCountHurdlesWrong)

/-- 'laws.FnExactGrassOf': WHATEVER THE INPUT: true; the input reads as it did. -/
def fnExactGrassOfSpec : ChangeSpec := { name := "fnExactGrassOf", fn := fun _ => fun
  | [d1, d2] => { results := [.lit (.bool true)], args := [d1, d2] }
  | _ => none }
def fnExactGrassOfRow : OpenClaim := { program := "ytlnilfnbfbbckaa", sum := "15d390f1cfcbe144691dc1a67ec1f6523d0a3ef829d26ae362dc1dfba13c1741", func := "loop.example/g01345/laws.FnExactGrassOf", spec := "fnExactGrassOf", unfollowed := true, recurses := true, apart := false }
def FnExactGrassOfSaid : Prop := fnExactGrassOfRow.holds Try.pinned (OpenSpec.ofChange fnExactGrassOfSpec)

/-- ITS FALSE NEIGHBOUR: 'it returns false'. Refute it at one input. -/
def fnExactGrassOfWrong : ChangeSpec := { name := "fnExactGrassOf", fn := fun _ => fun
  | [d1, d2] => { results := [.lit (.bool false)], args := [d1, d2] }
  | _ => none }
def FnExactGrassOfWrongFalsely : Prop := fnExactGrassOfRow.holds Try.pinned (OpenSpec.ofChange fnExactGrassOfWrong)

/-- 'laws.FnExactWithGrass': WHATEVER THE INPUT: true; the input reads as it did. -/
def fnExactWithGrassSpec : ChangeSpec := { name := "fnExactWithGrass", fn := fun _ => fun
  | [d1, d2, d3] => { results := [.lit (.bool true)], args := [d1, d2, d3] }
  | _ => none }
def fnExactWithGrassRow : OpenClaim := { program := "ytlnilfnbfbbckaa", sum := "15d390f1cfcbe144691dc1a67ec1f6523d0a3ef829d26ae362dc1dfba13c1741", func := "loop.example/g01345/laws.FnExactWithGrass", spec := "fnExactWithGrass", unfollowed := true, recurses := true, apart := false }
def FnExactWithGrassSaid : Prop := fnExactWithGrassRow.holds Try.pinned (OpenSpec.ofChange fnExactWithGrassSpec)

/-- ITS FALSE NEIGHBOUR: 'it returns false'. Refute it at one input. -/
def fnExactWithGrassWrong : ChangeSpec := { name := "fnExactWithGrass", fn := fun _ => fun
  | [d1, d2, d3] => { results := [.lit (.bool false)], args := [d1, d2, d3] }
  | _ => none }
def FnExactWithGrassWrongFalsely : Prop := fnExactWithGrassRow.holds Try.pinned (OpenSpec.ofChange fnExactWithGrassWrong)

/-- 'laws.FnExactHasHurdle': WHATEVER THE INPUT: true; the input reads as it did. -/
def fnExactHasHurdleSpec : ChangeSpec := { name := "fnExactHasHurdle", fn := fun _ => fun
  | [d1, d2, d3] => { results := [.lit (.bool true)], args := [d1, d2, d3] }
  | _ => none }
def fnExactHasHurdleRow : OpenClaim := { program := "ytlnilfnbfbbckaa", sum := "15d390f1cfcbe144691dc1a67ec1f6523d0a3ef829d26ae362dc1dfba13c1741", func := "loop.example/g01345/laws.FnExactHasHurdle", spec := "fnExactHasHurdle", unfollowed := true, recurses := true, apart := false }
def FnExactHasHurdleSaid : Prop := fnExactHasHurdleRow.holds Try.pinned (OpenSpec.ofChange fnExactHasHurdleSpec)

/-- ITS FALSE NEIGHBOUR: 'it returns false'. Refute it at one input. -/
def fnExactHasHurdleWrong : ChangeSpec := { name := "fnExactHasHurdle", fn := fun _ => fun
  | [d1, d2, d3] => { results := [.lit (.bool false)], args := [d1, d2, d3] }
  | _ => none }
def FnExactHasHurdleWrongFalsely : Prop := fnExactHasHurdleRow.holds Try.pinned (OpenSpec.ofChange fnExactHasHurdleWrong)

/-- 'laws.FnExactSameYard': WHATEVER THE INPUT: true; the input reads as it did. -/
def fnExactSameYardSpec : ChangeSpec := { name := "fnExactSameYard", fn := fun _ => fun
  | [d1, d2, d3] => { results := [.lit (.bool true)], args := [d1, d2, d3] }
  | _ => none }
def fnExactSameYardRow : OpenClaim := { program := "ytlnilfnbfbbckaa", sum := "15d390f1cfcbe144691dc1a67ec1f6523d0a3ef829d26ae362dc1dfba13c1741", func := "loop.example/g01345/laws.FnExactSameYard", spec := "fnExactSameYard", unfollowed := true, recurses := true, apart := false }
def FnExactSameYardSaid : Prop := fnExactSameYardRow.holds Try.pinned (OpenSpec.ofChange fnExactSameYardSpec)

/-- ITS FALSE NEIGHBOUR: 'it returns false'. Refute it at one input. -/
def fnExactSameYardWrong : ChangeSpec := { name := "fnExactSameYard", fn := fun _ => fun
  | [d1, d2, d3] => { results := [.lit (.bool false)], args := [d1, d2, d3] }
  | _ => none }
def FnExactSameYardWrongFalsely : Prop := fnExactSameYardRow.holds Try.pinned (OpenSpec.ofChange fnExactSameYardWrong)

/-- 'laws.FnExactBesideOf': WHATEVER THE INPUT: true; the input reads as it did. -/
def fnExactBesideOfSpec : ChangeSpec := { name := "fnExactBesideOf", fn := fun _ => fun
  | [d1, d2] => { results := [.lit (.bool true)], args := [d1, d2] }
  | _ => none }
def fnExactBesideOfRow : OpenClaim := { program := "ytlnilfnbfbbckaa", sum := "15d390f1cfcbe144691dc1a67ec1f6523d0a3ef829d26ae362dc1dfba13c1741", func := "loop.example/g01345/laws.FnExactBesideOf", spec := "fnExactBesideOf", unfollowed := true, recurses := true, apart := false }
def FnExactBesideOfSaid : Prop := fnExactBesideOfRow.holds Try.pinned (OpenSpec.ofChange fnExactBesideOfSpec)

/-- ITS FALSE NEIGHBOUR: 'it returns false'. Refute it at one input. -/
def fnExactBesideOfWrong : ChangeSpec := { name := "fnExactBesideOf", fn := fun _ => fun
  | [d1, d2] => { results := [.lit (.bool false)], args := [d1, d2] }
  | _ => none }
def FnExactBesideOfWrongFalsely : Prop := fnExactBesideOfRow.holds Try.pinned (OpenSpec.ofChange fnExactBesideOfWrong)

/-- 'laws.FnExactStepsBetween': WHATEVER THE INPUT: true; the input reads as it did. -/
def fnExactStepsBetweenSpec : ChangeSpec := { name := "fnExactStepsBetween", fn := fun _ => fun
  | [d1, d2, d3] => { results := [.lit (.bool true)], args := [d1, d2, d3] }
  | _ => none }
def fnExactStepsBetweenRow : OpenClaim := { program := "ytlnilfnbfbbckaa", sum := "15d390f1cfcbe144691dc1a67ec1f6523d0a3ef829d26ae362dc1dfba13c1741", func := "loop.example/g01345/laws.FnExactStepsBetween", spec := "fnExactStepsBetween", unfollowed := true, recurses := true, apart := false }
def FnExactStepsBetweenSaid : Prop := fnExactStepsBetweenRow.holds Try.pinned (OpenSpec.ofChange fnExactStepsBetweenSpec)

/-- ITS FALSE NEIGHBOUR: 'it returns false'. Refute it at one input. -/
def fnExactStepsBetweenWrong : ChangeSpec := { name := "fnExactStepsBetween", fn := fun _ => fun
  | [d1, d2, d3] => { results := [.lit (.bool false)], args := [d1, d2, d3] }
  | _ => none }
def FnExactStepsBetweenWrongFalsely : Prop := fnExactStepsBetweenRow.holds Try.pinned (OpenSpec.ofChange fnExactStepsBetweenWrong)

/-- 'laws.FnExactHurdlesOf': WHATEVER THE INPUT: true; the input reads as it did. -/
def fnExactHurdlesOfSpec : ChangeSpec := { name := "fnExactHurdlesOf", fn := fun _ => fun
  | [d] => { results := [.lit (.bool true)], args := [d] }
  | _ => none }
def fnExactHurdlesOfRow : OpenClaim := { program := "ytlnilfnbfbbckaa", sum := "15d390f1cfcbe144691dc1a67ec1f6523d0a3ef829d26ae362dc1dfba13c1741", func := "loop.example/g01345/laws.FnExactHurdlesOf", spec := "fnExactHurdlesOf", unfollowed := true, recurses := true, apart := false }
def FnExactHurdlesOfSaid : Prop := fnExactHurdlesOfRow.holds Try.pinned (OpenSpec.ofChange fnExactHurdlesOfSpec)

/-- ITS FALSE NEIGHBOUR: 'it returns false'. Refute it at one input. -/
def fnExactHurdlesOfWrong : ChangeSpec := { name := "fnExactHurdlesOf", fn := fun _ => fun
  | [d] => { results := [.lit (.bool false)], args := [d] }
  | _ => none }
def FnExactHurdlesOfWrongFalsely : Prop := fnExactHurdlesOfRow.holds Try.pinned (OpenSpec.ofChange fnExactHurdlesOfWrong)

/-- 'laws.FnExactGrowOnce': WHATEVER THE INPUT: true; the input reads as it did. -/
def fnExactGrowOnceSpec : ChangeSpec := { name := "fnExactGrowOnce", fn := fun _ => fun
  | [d1, d2] => { results := [.lit (.bool true)], args := [d1, d2] }
  | _ => none }
def fnExactGrowOnceRow : OpenClaim := { program := "ytlnilfnbfbbckaa", sum := "15d390f1cfcbe144691dc1a67ec1f6523d0a3ef829d26ae362dc1dfba13c1741", func := "loop.example/g01345/laws.FnExactGrowOnce", spec := "fnExactGrowOnce", unfollowed := true, recurses := true, apart := false }
def FnExactGrowOnceSaid : Prop := fnExactGrowOnceRow.holds Try.pinned (OpenSpec.ofChange fnExactGrowOnceSpec)

/-- ITS FALSE NEIGHBOUR: 'it returns false'. Refute it at one input. -/
def fnExactGrowOnceWrong : ChangeSpec := { name := "fnExactGrowOnce", fn := fun _ => fun
  | [d1, d2] => { results := [.lit (.bool false)], args := [d1, d2] }
  | _ => none }
def FnExactGrowOnceWrongFalsely : Prop := fnExactGrowOnceRow.holds Try.pinned (OpenSpec.ofChange fnExactGrowOnceWrong)

/-- 'laws.FnExactGrowDays': WHATEVER THE INPUT: true; the input reads as it did. -/
def fnExactGrowDaysSpec : ChangeSpec := { name := "fnExactGrowDays", fn := fun _ => fun
  | [d1, d2, d3] => { results := [.lit (.bool true)], args := [d1, d2, d3] }
  | _ => none }
def fnExactGrowDaysRow : OpenClaim := { program := "ytlnilfnbfbbckaa", sum := "15d390f1cfcbe144691dc1a67ec1f6523d0a3ef829d26ae362dc1dfba13c1741", func := "loop.example/g01345/laws.FnExactGrowDays", spec := "fnExactGrowDays", unfollowed := true, recurses := true, apart := false }
def FnExactGrowDaysSaid : Prop := fnExactGrowDaysRow.holds Try.pinned (OpenSpec.ofChange fnExactGrowDaysSpec)

/-- ITS FALSE NEIGHBOUR: 'it returns false'. Refute it at one input. -/
def fnExactGrowDaysWrong : ChangeSpec := { name := "fnExactGrowDays", fn := fun _ => fun
  | [d1, d2, d3] => { results := [.lit (.bool false)], args := [d1, d2, d3] }
  | _ => none }
def FnExactGrowDaysWrongFalsely : Prop := fnExactGrowDaysRow.holds Try.pinned (OpenSpec.ofChange fnExactGrowDaysWrong)

/- THE SECOND FORM. 'bulk': how many values and letters a reading holds, each counted each time it is reached (what is shared counts as often as it is met; a slice's spare places count too). A statement '..UptoSaid' is the law's where the arguments, and the package variables that the reading takes, are together of bulk at most 1048576: NARROWER than '..Said'. Prove '..Said' where nothing that the law and all that it calls make is longer than what came in: it says more and counts as full. Else prove '..UptoSaid'. A law counts once. -/
mutual
def uptoBulk {H : Type} : DataW H → Nat
  | .lit (.string bytes) => bytes.length + 1
  | .lit _ => 1
  | .nil => 1
  | .ptr d => uptoBulk d + 1
  | .slice elems spare => uptoBulkAll elems + uptoBulkAll spare + 1
  | .agg parts => uptoBulkAll parts + 1
  | .iface _ d => uptoBulk d + 1
  | .map entries => uptoBulkEntries entries + 1
  | .held _ => 1
def uptoBulkAll {H : Type} : List (DataW H) → Nat
  | [] => 0
  | d :: r => uptoBulk d + uptoBulkAll r
def uptoBulkEntries {H : Type} : List (Lit × DataW H) → Nat
  | [] => 0
  | x :: r => uptoBulkEntry x + uptoBulkEntries r
def uptoBulkEntry {H : Type} : Lit × DataW H → Nat
  | (.string bytes, d) => bytes.length + uptoBulk d + 1
  | (_, d) => uptoBulk d + 1
 end
def uptoSmall : (H : Type) → List (DataW H) → Bool := fun _ ds => decide (uptoBulkAll ds ≤ 1048576)
def OpenSpec.upto (s : _root_.Go.ChangeSpec) : _root_.Go.OpenSpec := { _root_.Go.OpenSpec.ofChange s with cond := some uptoSmall }

/-- 'laws.FnExactValidHurdle', WHERE WHAT IT READS IS OF BULK AT MOST 1048576: true; the input reads as it did. -/
def fnExactValidHurdleUptoRow : OpenClaim := { program := "ytlnilfnbfbbckaa", sum := "15d390f1cfcbe144691dc1a67ec1f6523d0a3ef829d26ae362dc1dfba13c1741", func := "loop.example/g01345/laws.FnExactValidHurdle", spec := "fnExactValidHurdle", apart := false, narrowed := true }
def FnExactValidHurdleUptoSaid : Prop := fnExactValidHurdleUptoRow.holds Try.pinned (OpenSpec.upto fnExactValidHurdleSpec)

/-- 'laws.FnExactBareCells', WHERE WHAT IT READS IS OF BULK AT MOST 1048576: true; the input reads as it did. -/
def fnExactBareCellsUptoRow : OpenClaim := { program := "ytlnilfnbfbbckaa", sum := "15d390f1cfcbe144691dc1a67ec1f6523d0a3ef829d26ae362dc1dfba13c1741", func := "loop.example/g01345/laws.FnExactBareCells", spec := "fnExactBareCells", unfollowed := true, recurses := true, apart := false, narrowed := true }
def FnExactBareCellsUptoSaid : Prop := fnExactBareCellsUptoRow.holds Try.pinned (OpenSpec.upto fnExactBareCellsSpec)

/-- 'laws.FnExactCountHurdles', WHERE WHAT IT READS IS OF BULK AT MOST 1048576: true; the input reads as it did. -/
def fnExactCountHurdlesUptoRow : OpenClaim := { program := "ytlnilfnbfbbckaa", sum := "15d390f1cfcbe144691dc1a67ec1f6523d0a3ef829d26ae362dc1dfba13c1741", func := "loop.example/g01345/laws.FnExactCountHurdles", spec := "fnExactCountHurdles", unfollowed := true, recurses := true, apart := false, narrowed := true }
def FnExactCountHurdlesUptoSaid : Prop := fnExactCountHurdlesUptoRow.holds Try.pinned (OpenSpec.upto fnExactCountHurdlesSpec)

/-- 'laws.FnExactGrassOf', WHERE WHAT IT READS IS OF BULK AT MOST 1048576: true; the input reads as it did. -/
def fnExactGrassOfUptoRow : OpenClaim := { program := "ytlnilfnbfbbckaa", sum := "15d390f1cfcbe144691dc1a67ec1f6523d0a3ef829d26ae362dc1dfba13c1741", func := "loop.example/g01345/laws.FnExactGrassOf", spec := "fnExactGrassOf", unfollowed := true, recurses := true, apart := false, narrowed := true }
def FnExactGrassOfUptoSaid : Prop := fnExactGrassOfUptoRow.holds Try.pinned (OpenSpec.upto fnExactGrassOfSpec)

/-- 'laws.FnExactWithGrass', WHERE WHAT IT READS IS OF BULK AT MOST 1048576: true; the input reads as it did. -/
def fnExactWithGrassUptoRow : OpenClaim := { program := "ytlnilfnbfbbckaa", sum := "15d390f1cfcbe144691dc1a67ec1f6523d0a3ef829d26ae362dc1dfba13c1741", func := "loop.example/g01345/laws.FnExactWithGrass", spec := "fnExactWithGrass", unfollowed := true, recurses := true, apart := false, narrowed := true }
def FnExactWithGrassUptoSaid : Prop := fnExactWithGrassUptoRow.holds Try.pinned (OpenSpec.upto fnExactWithGrassSpec)

/-- 'laws.FnExactHasHurdle', WHERE WHAT IT READS IS OF BULK AT MOST 1048576: true; the input reads as it did. -/
def fnExactHasHurdleUptoRow : OpenClaim := { program := "ytlnilfnbfbbckaa", sum := "15d390f1cfcbe144691dc1a67ec1f6523d0a3ef829d26ae362dc1dfba13c1741", func := "loop.example/g01345/laws.FnExactHasHurdle", spec := "fnExactHasHurdle", unfollowed := true, recurses := true, apart := false, narrowed := true }
def FnExactHasHurdleUptoSaid : Prop := fnExactHasHurdleUptoRow.holds Try.pinned (OpenSpec.upto fnExactHasHurdleSpec)

/-- 'laws.FnExactSameYard', WHERE WHAT IT READS IS OF BULK AT MOST 1048576: true; the input reads as it did. -/
def fnExactSameYardUptoRow : OpenClaim := { program := "ytlnilfnbfbbckaa", sum := "15d390f1cfcbe144691dc1a67ec1f6523d0a3ef829d26ae362dc1dfba13c1741", func := "loop.example/g01345/laws.FnExactSameYard", spec := "fnExactSameYard", unfollowed := true, recurses := true, apart := false, narrowed := true }
def FnExactSameYardUptoSaid : Prop := fnExactSameYardUptoRow.holds Try.pinned (OpenSpec.upto fnExactSameYardSpec)

/-- 'laws.FnExactBesideOf', WHERE WHAT IT READS IS OF BULK AT MOST 1048576: true; the input reads as it did. -/
def fnExactBesideOfUptoRow : OpenClaim := { program := "ytlnilfnbfbbckaa", sum := "15d390f1cfcbe144691dc1a67ec1f6523d0a3ef829d26ae362dc1dfba13c1741", func := "loop.example/g01345/laws.FnExactBesideOf", spec := "fnExactBesideOf", unfollowed := true, recurses := true, apart := false, narrowed := true }
def FnExactBesideOfUptoSaid : Prop := fnExactBesideOfUptoRow.holds Try.pinned (OpenSpec.upto fnExactBesideOfSpec)

/-- 'laws.FnExactStepsBetween', WHERE WHAT IT READS IS OF BULK AT MOST 1048576: true; the input reads as it did. -/
def fnExactStepsBetweenUptoRow : OpenClaim := { program := "ytlnilfnbfbbckaa", sum := "15d390f1cfcbe144691dc1a67ec1f6523d0a3ef829d26ae362dc1dfba13c1741", func := "loop.example/g01345/laws.FnExactStepsBetween", spec := "fnExactStepsBetween", unfollowed := true, recurses := true, apart := false, narrowed := true }
def FnExactStepsBetweenUptoSaid : Prop := fnExactStepsBetweenUptoRow.holds Try.pinned (OpenSpec.upto fnExactStepsBetweenSpec)

/-- 'laws.FnExactHurdlesOf', WHERE WHAT IT READS IS OF BULK AT MOST 1048576: true; the input reads as it did. -/
def fnExactHurdlesOfUptoRow : OpenClaim := { program := "ytlnilfnbfbbckaa", sum := "15d390f1cfcbe144691dc1a67ec1f6523d0a3ef829d26ae362dc1dfba13c1741", func := "loop.example/g01345/laws.FnExactHurdlesOf", spec := "fnExactHurdlesOf", unfollowed := true, recurses := true, apart := false, narrowed := true }
def FnExactHurdlesOfUptoSaid : Prop := fnExactHurdlesOfUptoRow.holds Try.pinned (OpenSpec.upto fnExactHurdlesOfSpec)

/-- 'laws.FnExactGrowOnce', WHERE WHAT IT READS IS OF BULK AT MOST 1048576: true; the input reads as it did. -/
def fnExactGrowOnceUptoRow : OpenClaim := { program := "ytlnilfnbfbbckaa", sum := "15d390f1cfcbe144691dc1a67ec1f6523d0a3ef829d26ae362dc1dfba13c1741", func := "loop.example/g01345/laws.FnExactGrowOnce", spec := "fnExactGrowOnce", unfollowed := true, recurses := true, apart := false, narrowed := true }
def FnExactGrowOnceUptoSaid : Prop := fnExactGrowOnceUptoRow.holds Try.pinned (OpenSpec.upto fnExactGrowOnceSpec)

/-- 'laws.FnExactGrowDays', WHERE WHAT IT READS IS OF BULK AT MOST 1048576: true; the input reads as it did. -/
def fnExactGrowDaysUptoRow : OpenClaim := { program := "ytlnilfnbfbbckaa", sum := "15d390f1cfcbe144691dc1a67ec1f6523d0a3ef829d26ae362dc1dfba13c1741", func := "loop.example/g01345/laws.FnExactGrowDays", spec := "fnExactGrowDays", unfollowed := true, recurses := true, apart := false, narrowed := true }
def FnExactGrowDaysUptoSaid : Prop := fnExactGrowDaysUptoRow.holds Try.pinned (OpenSpec.upto fnExactGrowDaysSpec)

end Rows
end Go.Proofs.Ytlnilfnbfbbckaa
