/-
  No cell of these rows narrows 'for every input' (looked for: loops, veiled, ifaces, maps, wideKeys, modest, calm, conditions, laid).
  DERIVED. THE GIVEN ROWS OF THIS SEAT. 6 by the template 'for every input the law returns true; each argument reads behind the call as it read before'; 0 by the template 'total and deterministic' (their statements: YtgogccconmlkiaaTotals.lean).
  GIVEN WITH THE SEED: the statements are not yours to turn. If you find one false, say at which input.
  Laid BY PROGRAM, IN A SANDBOX (cutbox-rows.mjs): the forced cells as the released guide's own fill.sh prints them over the translation f367d566bcefd260… (all of the seat's roots in one cut). By AI agents, Wed Nov 11 2026. No macro, syntax, notation, axiom, sorry.
-/
import Derived.Test.YtgogccconmlkiaaChecked
import GoSem.Claim
import GoSem.ClaimJoined
import GoSem.ClaimMapViews
import Derived.JoinedTies
import Derived.KernelRfl
namespace Go.Proofs.Ytgogccconmlkiaa
/- THE CELL 'sum', in the pinned program and in every row, IS THE sha256 OF THE DUMP (.gsa) THAT YtgogccconmlkiaaProg.lean LOADS. Nothing in Lean hashes anything: it is a label: what it is worth is what the hold of that sum in a sandbox is worth. -/
noncomputable def Try.pinned : Pinned := { name := "ytgogccconmlkiaa", sum := "f367d566bcefd260b4e3d9b8cd5abee47508e90e2da9d3fa5762147f102d8526", checked := Try.checked }
namespace Rows
def none {H : Type} : Left H := { results := [], args := [] }

/-- 'laws.FnExactNearSide': WHATEVER THE INPUT: true; the input reads as it did. -/
def fnExactNearSideSpec : ChangeSpec := { name := "fnExactNearSide", fn := fun _ => fun
  | [d1, d2, d3] => { results := [.lit (.bool true)], args := [d1, d2, d3] }
  | _ => none }
def fnExactNearSideRow : OpenClaim := { program := "ytgogccconmlkiaa", sum := "f367d566bcefd260b4e3d9b8cd5abee47508e90e2da9d3fa5762147f102d8526", func := "loop.example/g01345/laws.FnExactNearSide", spec := "fnExactNearSide", unfollowed := true, recurses := true, plainKeys := false, apart := false }
def FnExactNearSideSaid : Prop := fnExactNearSideRow.holds Try.pinned (OpenSpec.ofChange fnExactNearSideSpec)

/-- ITS FALSE NEIGHBOUR: 'it returns false'. Refute it at one input. -/
def fnExactNearSideWrong : ChangeSpec := { name := "fnExactNearSide", fn := fun _ => fun
  | [d1, d2, d3] => { results := [.lit (.bool false)], args := [d1, d2, d3] }
  | _ => none }
def FnExactNearSideWrongFalsely : Prop := fnExactNearSideRow.holds Try.pinned (OpenSpec.ofChange fnExactNearSideWrong)

/-- 'laws.FnExactBestStay': WHATEVER THE INPUT: true; the input reads as it did. -/
def fnExactBestStaySpec : ChangeSpec := { name := "fnExactBestStay", fn := fun _ => fun
  | [d1, d2, d3, d4, d5] => { results := [.lit (.bool true)], args := [d1, d2, d3, d4, d5] }
  | _ => none }
def fnExactBestStayRow : OpenClaim := { program := "ytgogccconmlkiaa", sum := "f367d566bcefd260b4e3d9b8cd5abee47508e90e2da9d3fa5762147f102d8526", func := "loop.example/g01345/laws.FnExactBestStay", spec := "fnExactBestStay", unfollowed := true, recurses := true, plainKeys := false, apart := false }
def FnExactBestStaySaid : Prop := fnExactBestStayRow.holds Try.pinned (OpenSpec.ofChange fnExactBestStaySpec)

/-- ITS FALSE NEIGHBOUR: 'it returns false'. Refute it at one input. -/
def fnExactBestStayWrong : ChangeSpec := { name := "fnExactBestStay", fn := fun _ => fun
  | [d1, d2, d3, d4, d5] => { results := [.lit (.bool false)], args := [d1, d2, d3, d4, d5] }
  | _ => none }
def FnExactBestStayWrongFalsely : Prop := fnExactBestStayRow.holds Try.pinned (OpenSpec.ofChange fnExactBestStayWrong)

/-- 'laws.FnExactShortDays': WHATEVER THE INPUT: true; the input reads as it did. -/
def fnExactShortDaysSpec : ChangeSpec := { name := "fnExactShortDays", fn := fun _ => fun
  | [d1, d2, d3, d4, d5, d6] => { results := [.lit (.bool true)], args := [d1, d2, d3, d4, d5, d6] }
  | _ => none }
def fnExactShortDaysRow : OpenClaim := { program := "ytgogccconmlkiaa", sum := "f367d566bcefd260b4e3d9b8cd5abee47508e90e2da9d3fa5762147f102d8526", func := "loop.example/g01345/laws.FnExactShortDays", spec := "fnExactShortDays", unfollowed := true, recurses := true, plainKeys := false, apart := false }
def FnExactShortDaysSaid : Prop := fnExactShortDaysRow.holds Try.pinned (OpenSpec.ofChange fnExactShortDaysSpec)

/-- ITS FALSE NEIGHBOUR: 'it returns false'. Refute it at one input. -/
def fnExactShortDaysWrong : ChangeSpec := { name := "fnExactShortDays", fn := fun _ => fun
  | [d1, d2, d3, d4, d5, d6] => { results := [.lit (.bool false)], args := [d1, d2, d3, d4, d5, d6] }
  | _ => none }
def FnExactShortDaysWrongFalsely : Prop := fnExactShortDaysRow.holds Try.pinned (OpenSpec.ofChange fnExactShortDaysWrong)

/-- 'laws.FnExactRotateYards': WHATEVER THE INPUT: true; the input reads as it did. -/
def fnExactRotateYardsSpec : ChangeSpec := { name := "fnExactRotateYards", fn := fun _ => fun
  | [d1, d2, d3, d4, d5, d6] => { results := [.lit (.bool true)], args := [d1, d2, d3, d4, d5, d6] }
  | _ => none }
def fnExactRotateYardsRow : OpenClaim := { program := "ytgogccconmlkiaa", sum := "f367d566bcefd260b4e3d9b8cd5abee47508e90e2da9d3fa5762147f102d8526", func := "loop.example/g01345/laws.FnExactRotateYards", spec := "fnExactRotateYards", unfollowed := true, recurses := true, plainKeys := false, apart := false }
def FnExactRotateYardsSaid : Prop := fnExactRotateYardsRow.holds Try.pinned (OpenSpec.ofChange fnExactRotateYardsSpec)

/-- ITS FALSE NEIGHBOUR: 'it returns false'. Refute it at one input. -/
def fnExactRotateYardsWrong : ChangeSpec := { name := "fnExactRotateYards", fn := fun _ => fun
  | [d1, d2, d3, d4, d5, d6] => { results := [.lit (.bool false)], args := [d1, d2, d3, d4, d5, d6] }
  | _ => none }
def FnExactRotateYardsWrongFalsely : Prop := fnExactRotateYardsRow.holds Try.pinned (OpenSpec.ofChange fnExactRotateYardsWrong)

/-- 'laws.FnRotated': WHATEVER THE INPUT: true; the input reads as it did. -/
def fnRotatedSpec : ChangeSpec := { name := "fnRotated", fn := fun _ => fun
  | [d1, d2] => { results := [.lit (.bool true)], args := [d1, d2] }
  | _ => none }
def fnRotatedRow : OpenClaim := { program := "ytgogccconmlkiaa", sum := "f367d566bcefd260b4e3d9b8cd5abee47508e90e2da9d3fa5762147f102d8526", func := "loop.example/g01345/laws.FnRotated", spec := "fnRotated", unfollowed := true, recurses := true, plainKeys := false, apart := false }
def FnRotatedSaid : Prop := fnRotatedRow.holds Try.pinned (OpenSpec.ofChange fnRotatedSpec)

/-- ITS FALSE NEIGHBOUR: 'it returns false'. Refute it at one input. -/
def fnRotatedWrong : ChangeSpec := { name := "fnRotated", fn := fun _ => fun
  | [d1, d2] => { results := [.lit (.bool false)], args := [d1, d2] }
  | _ => none }
def FnRotatedWrongFalsely : Prop := fnRotatedRow.holds Try.pinned (OpenSpec.ofChange fnRotatedWrong)

/-- 'laws.FnMown': WHATEVER THE INPUT: true; the input reads as it did. -/
def fnMownSpec : ChangeSpec := { name := "fnMown", fn := fun _ => fun
  | [d1, d2] => { results := [.lit (.bool true)], args := [d1, d2] }
  | _ => none }
def fnMownRow : OpenClaim := { program := "ytgogccconmlkiaa", sum := "f367d566bcefd260b4e3d9b8cd5abee47508e90e2da9d3fa5762147f102d8526", func := "loop.example/g01345/laws.FnMown", spec := "fnMown", unfollowed := true, recurses := true, plainKeys := false, apart := false }
def FnMownSaid : Prop := fnMownRow.holds Try.pinned (OpenSpec.ofChange fnMownSpec)

/-- ITS FALSE NEIGHBOUR: 'it returns false'. Refute it at one input. -/
def fnMownWrong : ChangeSpec := { name := "fnMown", fn := fun _ => fun
  | [d1, d2] => { results := [.lit (.bool false)], args := [d1, d2] }
  | _ => none }
def FnMownWrongFalsely : Prop := fnMownRow.holds Try.pinned (OpenSpec.ofChange fnMownWrong)

/- THE SECOND FORM. 'bulk': how many values and letters a reading holds, each counted each time it is reached (what is shared counts as often as it is met; a slice's spare places count too). A statement '..UptoSaid' is the law's where the arguments, and the package variables that the reading takes, are together of bulk at most 1048576: NARROWER than '..Said'. Prove '..Said' where nothing that the law and all that it calls make is longer than what came in: it says more and counts as full. Else prove '..UptoSaid'. A law counts once. -/
mutual
def uptoBulk {H : Type} : DataW H → Nat
  | .lit (.string bytes) => bytes.length + 1
  | .lit _ => 1
  | .nil => 1
  | .ptr d => uptoBulk d + 1
  | .slice elems spare => uptoBulkAll elems + uptoBulkAll spare + 1
  | .agg parts => uptoBulkAll parts + 1
  | .iface _ d => uptoBulk d + 1
  | .map entries => uptoBulkEntries entries + 1
  | .held _ => 1
def uptoBulkAll {H : Type} : List (DataW H) → Nat
  | [] => 0
  | d :: r => uptoBulk d + uptoBulkAll r
def uptoBulkEntries {H : Type} : List (Lit × DataW H) → Nat
  | [] => 0
  | x :: r => uptoBulkEntry x + uptoBulkEntries r
def uptoBulkEntry {H : Type} : Lit × DataW H → Nat
  | (.string bytes, d) => bytes.length + uptoBulk d + 1
  | (_, d) => uptoBulk d + 1
 end
def uptoSmall : (H : Type) → List (DataW H) → Bool := fun _ ds => decide (uptoBulkAll ds ≤ 1048576)
def OpenSpec.upto (s : _root_.Go.ChangeSpec) : _root_.Go.OpenSpec := { _root_.Go.OpenSpec.ofChange s with cond := some uptoSmall }

/-- 'laws.FnExactNearSide', WHERE WHAT IT READS IS OF BULK AT MOST 1048576: true; the input reads as it did. -/
def fnExactNearSideUptoRow : OpenClaim := { program := "ytgogccconmlkiaa", sum := "f367d566bcefd260b4e3d9b8cd5abee47508e90e2da9d3fa5762147f102d8526", func := "loop.example/g01345/laws.FnExactNearSide", spec := "fnExactNearSide", unfollowed := true, recurses := true, plainKeys := false, apart := false, narrowed := true }
def FnExactNearSideUptoSaid : Prop := fnExactNearSideUptoRow.holds Try.pinned (OpenSpec.upto fnExactNearSideSpec)

/-- 'laws.FnExactBestStay', WHERE WHAT IT READS IS OF BULK AT MOST 1048576: true; the input reads as it did. -/
def fnExactBestStayUptoRow : OpenClaim := { program := "ytgogccconmlkiaa", sum := "f367d566bcefd260b4e3d9b8cd5abee47508e90e2da9d3fa5762147f102d8526", func := "loop.example/g01345/laws.FnExactBestStay", spec := "fnExactBestStay", unfollowed := true, recurses := true, plainKeys := false, apart := false, narrowed := true }
def FnExactBestStayUptoSaid : Prop := fnExactBestStayUptoRow.holds Try.pinned (OpenSpec.upto fnExactBestStaySpec)

/-- 'laws.FnExactShortDays', WHERE WHAT IT READS IS OF BULK AT MOST 1048576: true; the input reads as it did. -/
def fnExactShortDaysUptoRow : OpenClaim := { program := "ytgogccconmlkiaa", sum := "f367d566bcefd260b4e3d9b8cd5abee47508e90e2da9d3fa5762147f102d8526", func := "loop.example/g01345/laws.FnExactShortDays", spec := "fnExactShortDays", unfollowed := true, recurses := true, plainKeys := false, apart := false, narrowed := true }
def FnExactShortDaysUptoSaid : Prop := fnExactShortDaysUptoRow.holds Try.pinned (OpenSpec.upto fnExactShortDaysSpec)

/-- 'laws.FnExactRotateYards', WHERE WHAT IT READS IS OF BULK AT MOST 1048576: true; the input reads as it did. -/
def fnExactRotateYardsUptoRow : OpenClaim := { program := "ytgogccconmlkiaa", sum := "f367d566bcefd260b4e3d9b8cd5abee47508e90e2da9d3fa5762147f102d8526", func := "loop.example/g01345/laws.FnExactRotateYards", spec := "fnExactRotateYards", unfollowed := true, recurses := true, plainKeys := false, apart := false, narrowed := true }
def FnExactRotateYardsUptoSaid : Prop := fnExactRotateYardsUptoRow.holds Try.pinned (OpenSpec.upto fnExactRotateYardsSpec)

/-- 'laws.FnRotated', WHERE WHAT IT READS IS OF BULK AT MOST 1048576: true; the input reads as it did. -/
def fnRotatedUptoRow : OpenClaim := { program := "ytgogccconmlkiaa", sum := "f367d566bcefd260b4e3d9b8cd5abee47508e90e2da9d3fa5762147f102d8526", func := "loop.example/g01345/laws.FnRotated", spec := "fnRotated", unfollowed := true, recurses := true, plainKeys := false, apart := false, narrowed := true }
def FnRotatedUptoSaid : Prop := fnRotatedUptoRow.holds Try.pinned (OpenSpec.upto fnRotatedSpec)

/-- 'laws.FnMown', WHERE WHAT IT READS IS OF BULK AT MOST 1048576: true; the input reads as it did. -/
def fnMownUptoRow : OpenClaim := { program := "ytgogccconmlkiaa", sum := "f367d566bcefd260b4e3d9b8cd5abee47508e90e2da9d3fa5762147f102d8526", func := "loop.example/g01345/laws.FnMown", spec := "fnMown", unfollowed := true, recurses := true, plainKeys := false, apart := false, narrowed := true }
def FnMownUptoSaid : Prop := fnMownUptoRow.holds Try.pinned (OpenSpec.upto fnMownSpec)

end Rows
end Go.Proofs.Ytgogccconmlkiaa
