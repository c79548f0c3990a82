/-
  No cell of these rows narrows 'for every input' (looked for: loops, veiled, ifaces, maps, wideKeys, modest, calm, conditions, laid).
  DERIVED. THE GIVEN ROWS OF THIS SEAT. 6 by the template 'for every input the law returns true; each argument reads behind the call as it read before'; 0 by the template 'total and deterministic' (their statements: YtclhjnlaopclcaaTotals.lean).
  GIVEN WITH THE SEED: the statements are not yours to turn. If you find one false, say at which input.
  Laid BY PROGRAM, IN A SANDBOX (cutbox-rows.mjs): the forced cells as the released guide's own fill.sh prints them over the translation 621d27d54ebc4769… (all of the seat's roots in one cut). By AI agents, Wed Nov 11 2026. No macro, syntax, notation, axiom, sorry.
-/
import Derived.Test.YtclhjnlaopclcaaChecked
import GoSem.Claim
import GoSem.ClaimJoined
import GoSem.ClaimMapViews
import Derived.JoinedTies
import Derived.KernelRfl
namespace Go.Proofs.Ytclhjnlaopclcaa
/- THE CELL 'sum', in the pinned program and in every row, IS THE sha256 OF THE DUMP (.gsa) THAT YtclhjnlaopclcaaProg.lean LOADS. Nothing in Lean hashes anything: it is a label: what it is worth is what the hold of that sum in a sandbox is worth. -/
noncomputable def Try.pinned : Pinned := { name := "ytclhjnlaopclcaa", sum := "621d27d54ebc47694a86f67e26be572d97c724fef73bc358e9c6952c3bba113b", checked := Try.checked }
namespace Rows
def none {H : Type} : Left H := { results := [], args := [] }

/-- 'laws.FnExactConstants': WHATEVER THE INPUT: true; the input reads as it did. -/
def fnExactConstantsSpec : ChangeSpec := { name := "fnExactConstants", fn := fun _ => fun
  | [] => { results := [.lit (.bool true)], args := [] }
  | _ => none }
def fnExactConstantsRow : OpenClaim := { program := "ytclhjnlaopclcaa", sum := "621d27d54ebc47694a86f67e26be572d97c724fef73bc358e9c6952c3bba113b", func := "loop.example/g01345/laws.FnExactConstants", spec := "fnExactConstants", apart := false }
def FnExactConstantsSaid : Prop := fnExactConstantsRow.holds Try.pinned (OpenSpec.ofChange fnExactConstantsSpec)

/-- ITS FALSE NEIGHBOUR: 'it returns false'. Refute it at one input. -/
def fnExactConstantsWrong : ChangeSpec := { name := "fnExactConstants", fn := fun _ => fun
  | [] => { results := [.lit (.bool false)], args := [] }
  | _ => none }
def FnExactConstantsWrongFalsely : Prop := fnExactConstantsRow.holds Try.pinned (OpenSpec.ofChange fnExactConstantsWrong)

/-- 'laws.FnExactCodeName': WHATEVER THE INPUT: true; the input reads as it did. -/
def fnExactCodeNameSpec : ChangeSpec := { name := "fnExactCodeName", fn := fun _ => fun
  | [d] => { results := [.lit (.bool true)], args := [d] }
  | _ => none }
def fnExactCodeNameRow : OpenClaim := { program := "ytclhjnlaopclcaa", sum := "621d27d54ebc47694a86f67e26be572d97c724fef73bc358e9c6952c3bba113b", func := "loop.example/g01345/laws.FnExactCodeName", spec := "fnExactCodeName", apart := false }
def FnExactCodeNameSaid : Prop := fnExactCodeNameRow.holds Try.pinned (OpenSpec.ofChange fnExactCodeNameSpec)

/-- ITS FALSE NEIGHBOUR: 'it returns false'. Refute it at one input. -/
def fnExactCodeNameWrong : ChangeSpec := { name := "fnExactCodeName", fn := fun _ => fun
  | [d] => { results := [.lit (.bool false)], args := [d] }
  | _ => none }
def FnExactCodeNameWrongFalsely : Prop := fnExactCodeNameRow.holds Try.pinned (OpenSpec.ofChange fnExactCodeNameWrong)

/-- 'laws.FnExactSamePasture': WHATEVER THE INPUT: true; the input reads as it did. -/
def fnExactSamePastureSpec : ChangeSpec := { name := "fnExactSamePasture", fn := fun _ => fun
  | [d1, d2] => { results := [.lit (.bool true)], args := [d1, d2] }
  | _ => none }
def fnExactSamePastureRow : OpenClaim := { program := "ytclhjnlaopclcaa", sum := "621d27d54ebc47694a86f67e26be572d97c724fef73bc358e9c6952c3bba113b", func := "loop.example/g01345/laws.FnExactSamePasture", spec := "fnExactSamePasture", apart := false }
def FnExactSamePastureSaid : Prop := fnExactSamePastureRow.holds Try.pinned (OpenSpec.ofChange fnExactSamePastureSpec)

/-- ITS FALSE NEIGHBOUR: 'it returns false'. Refute it at one input. -/
def fnExactSamePastureWrong : ChangeSpec := { name := "fnExactSamePasture", fn := fun _ => fun
  | [d1, d2] => { results := [.lit (.bool false)], args := [d1, d2] }
  | _ => none }
def FnExactSamePastureWrongFalsely : Prop := fnExactSamePastureRow.holds Try.pinned (OpenSpec.ofChange fnExactSamePastureWrong)

/-- 'laws.FnExactValidGrowth': WHATEVER THE INPUT: true; the input reads as it did. -/
def fnExactValidGrowthSpec : ChangeSpec := { name := "fnExactValidGrowth", fn := fun _ => fun
  | [d] => { results := [.lit (.bool true)], args := [d] }
  | _ => none }
def fnExactValidGrowthRow : OpenClaim := { program := "ytclhjnlaopclcaa", sum := "621d27d54ebc47694a86f67e26be572d97c724fef73bc358e9c6952c3bba113b", func := "loop.example/g01345/laws.FnExactValidGrowth", spec := "fnExactValidGrowth", unfollowed := true, recurses := true, apart := false }
def FnExactValidGrowthSaid : Prop := fnExactValidGrowthRow.holds Try.pinned (OpenSpec.ofChange fnExactValidGrowthSpec)

/-- ITS FALSE NEIGHBOUR: 'it returns false'. Refute it at one input. -/
def fnExactValidGrowthWrong : ChangeSpec := { name := "fnExactValidGrowth", fn := fun _ => fun
  | [d] => { results := [.lit (.bool false)], args := [d] }
  | _ => none }
def FnExactValidGrowthWrongFalsely : Prop := fnExactValidGrowthRow.holds Try.pinned (OpenSpec.ofChange fnExactValidGrowthWrong)

/-- 'laws.FnExactFeedHay': WHATEVER THE INPUT: true; the input reads as it did. -/
def fnExactFeedHaySpec : ChangeSpec := { name := "fnExactFeedHay", fn := fun _ => fun
  | [d1, d2, d3] => { results := [.lit (.bool true)], args := [d1, d2, d3] }
  | _ => none }
def fnExactFeedHayRow : OpenClaim := { program := "ytclhjnlaopclcaa", sum := "621d27d54ebc47694a86f67e26be572d97c724fef73bc358e9c6952c3bba113b", func := "loop.example/g01345/laws.FnExactFeedHay", spec := "fnExactFeedHay", apart := false }
def FnExactFeedHaySaid : Prop := fnExactFeedHayRow.holds Try.pinned (OpenSpec.ofChange fnExactFeedHaySpec)

/-- ITS FALSE NEIGHBOUR: 'it returns false'. Refute it at one input. -/
def fnExactFeedHayWrong : ChangeSpec := { name := "fnExactFeedHay", fn := fun _ => fun
  | [d1, d2, d3] => { results := [.lit (.bool false)], args := [d1, d2, d3] }
  | _ => none }
def FnExactFeedHayWrongFalsely : Prop := fnExactFeedHayRow.holds Try.pinned (OpenSpec.ofChange fnExactFeedHayWrong)

/-- 'laws.FnExactFreeGoat': WHATEVER THE INPUT: true; the input reads as it did. -/
def fnExactFreeGoatSpec : ChangeSpec := { name := "fnExactFreeGoat", fn := fun _ => fun
  | [d1, d2, d3] => { results := [.lit (.bool true)], args := [d1, d2, d3] }
  | _ => none }
def fnExactFreeGoatRow : OpenClaim := { program := "ytclhjnlaopclcaa", sum := "621d27d54ebc47694a86f67e26be572d97c724fef73bc358e9c6952c3bba113b", func := "loop.example/g01345/laws.FnExactFreeGoat", spec := "fnExactFreeGoat", apart := false }
def FnExactFreeGoatSaid : Prop := fnExactFreeGoatRow.holds Try.pinned (OpenSpec.ofChange fnExactFreeGoatSpec)

/-- ITS FALSE NEIGHBOUR: 'it returns false'. Refute it at one input. -/
def fnExactFreeGoatWrong : ChangeSpec := { name := "fnExactFreeGoat", fn := fun _ => fun
  | [d1, d2, d3] => { results := [.lit (.bool false)], args := [d1, d2, d3] }
  | _ => none }
def FnExactFreeGoatWrongFalsely : Prop := fnExactFreeGoatRow.holds Try.pinned (OpenSpec.ofChange fnExactFreeGoatWrong)

/- THE SECOND FORM. 'bulk': how many values and letters a reading holds, each counted each time it is reached (what is shared counts as often as it is met; a slice's spare places count too). A statement '..UptoSaid' is the law's where the arguments, and the package variables that the reading takes, are together of bulk at most 1048576: NARROWER than '..Said'. Prove '..Said' where nothing that the law and all that it calls make is longer than what came in: it says more and counts as full. Else prove '..UptoSaid'. A law counts once. -/
mutual
def uptoBulk {H : Type} : DataW H → Nat
  | .lit (.string bytes) => bytes.length + 1
  | .lit _ => 1
  | .nil => 1
  | .ptr d => uptoBulk d + 1
  | .slice elems spare => uptoBulkAll elems + uptoBulkAll spare + 1
  | .agg parts => uptoBulkAll parts + 1
  | .iface _ d => uptoBulk d + 1
  | .map entries => uptoBulkEntries entries + 1
  | .held _ => 1
def uptoBulkAll {H : Type} : List (DataW H) → Nat
  | [] => 0
  | d :: r => uptoBulk d + uptoBulkAll r
def uptoBulkEntries {H : Type} : List (Lit × DataW H) → Nat
  | [] => 0
  | x :: r => uptoBulkEntry x + uptoBulkEntries r
def uptoBulkEntry {H : Type} : Lit × DataW H → Nat
  | (.string bytes, d) => bytes.length + uptoBulk d + 1
  | (_, d) => uptoBulk d + 1
 end
def uptoSmall : (H : Type) → List (DataW H) → Bool := fun _ ds => decide (uptoBulkAll ds ≤ 1048576)
def OpenSpec.upto (s : _root_.Go.ChangeSpec) : _root_.Go.OpenSpec := { _root_.Go.OpenSpec.ofChange s with cond := some uptoSmall }

/-- 'laws.FnExactConstants', WHERE WHAT IT READS IS OF BULK AT MOST 1048576: true; the input reads as it did. -/
def fnExactConstantsUptoRow : OpenClaim := { program := "ytclhjnlaopclcaa", sum := "621d27d54ebc47694a86f67e26be572d97c724fef73bc358e9c6952c3bba113b", func := "loop.example/g01345/laws.FnExactConstants", spec := "fnExactConstants", apart := false, narrowed := true }
def FnExactConstantsUptoSaid : Prop := fnExactConstantsUptoRow.holds Try.pinned (OpenSpec.upto fnExactConstantsSpec)

/-- 'laws.FnExactCodeName', WHERE WHAT IT READS IS OF BULK AT MOST 1048576: true; the input reads as it did. -/
def fnExactCodeNameUptoRow : OpenClaim := { program := "ytclhjnlaopclcaa", sum := "621d27d54ebc47694a86f67e26be572d97c724fef73bc358e9c6952c3bba113b", func := "loop.example/g01345/laws.FnExactCodeName", spec := "fnExactCodeName", apart := false, narrowed := true }
def FnExactCodeNameUptoSaid : Prop := fnExactCodeNameUptoRow.holds Try.pinned (OpenSpec.upto fnExactCodeNameSpec)

/-- 'laws.FnExactSamePasture', WHERE WHAT IT READS IS OF BULK AT MOST 1048576: true; the input reads as it did. -/
def fnExactSamePastureUptoRow : OpenClaim := { program := "ytclhjnlaopclcaa", sum := "621d27d54ebc47694a86f67e26be572d97c724fef73bc358e9c6952c3bba113b", func := "loop.example/g01345/laws.FnExactSamePasture", spec := "fnExactSamePasture", apart := false, narrowed := true }
def FnExactSamePastureUptoSaid : Prop := fnExactSamePastureUptoRow.holds Try.pinned (OpenSpec.upto fnExactSamePastureSpec)

/-- 'laws.FnExactValidGrowth', WHERE WHAT IT READS IS OF BULK AT MOST 1048576: true; the input reads as it did. -/
def fnExactValidGrowthUptoRow : OpenClaim := { program := "ytclhjnlaopclcaa", sum := "621d27d54ebc47694a86f67e26be572d97c724fef73bc358e9c6952c3bba113b", func := "loop.example/g01345/laws.FnExactValidGrowth", spec := "fnExactValidGrowth", unfollowed := true, recurses := true, apart := false, narrowed := true }
def FnExactValidGrowthUptoSaid : Prop := fnExactValidGrowthUptoRow.holds Try.pinned (OpenSpec.upto fnExactValidGrowthSpec)

/-- 'laws.FnExactFeedHay', WHERE WHAT IT READS IS OF BULK AT MOST 1048576: true; the input reads as it did. -/
def fnExactFeedHayUptoRow : OpenClaim := { program := "ytclhjnlaopclcaa", sum := "621d27d54ebc47694a86f67e26be572d97c724fef73bc358e9c6952c3bba113b", func := "loop.example/g01345/laws.FnExactFeedHay", spec := "fnExactFeedHay", apart := false, narrowed := true }
def FnExactFeedHayUptoSaid : Prop := fnExactFeedHayUptoRow.holds Try.pinned (OpenSpec.upto fnExactFeedHaySpec)

/-- 'laws.FnExactFreeGoat', WHERE WHAT IT READS IS OF BULK AT MOST 1048576: true; the input reads as it did. -/
def fnExactFreeGoatUptoRow : OpenClaim := { program := "ytclhjnlaopclcaa", sum := "621d27d54ebc47694a86f67e26be572d97c724fef73bc358e9c6952c3bba113b", func := "loop.example/g01345/laws.FnExactFreeGoat", spec := "fnExactFreeGoat", apart := false, narrowed := true }
def FnExactFreeGoatUptoSaid : Prop := fnExactFreeGoatUptoRow.holds Try.pinned (OpenSpec.upto fnExactFreeGoatSpec)

end Rows
end Go.Proofs.Ytclhjnlaopclcaa
