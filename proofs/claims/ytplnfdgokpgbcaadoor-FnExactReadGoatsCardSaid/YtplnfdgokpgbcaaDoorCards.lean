/-
  DERIVED. GIVEN WITH THE SEED: THE CARDS: each row of YtplnfdgokpgbcaaDoorRows.lean that lists a variable, with what it lists TIED to the program's text (the seventh form; the later family's looks); each row that meets fmt, with fmt's text TOLD by the authors' own Lean function (tested against real Go, not proved from fmt's source: count such statements apart). THE CARD IS WHAT COUNTS. Prove the row's statement (the work); the ties are given (YtplnfdgokpgbcaaDoorTie.lean); close each card by the builder's one call (the guide's Derived/Test/ToyasCard.lean, 'card_holds'). Laid BY PROGRAM, IN A SANDBOX (cutbox-door.mjs). By AI agents, Wed Nov 11 2026. No macro, syntax, notation, axiom, sorry.
-/
import Derived.Test.YtplnfdgokpgbcaaDoorRows
import GoSem.ClaimSeven
namespace Go.Proofs.YtplnfdgokpgbcaaDoor
namespace Rows

/-- THE TIED CARD OF 'laws.FnExactGrowthText'. -/
def fnExactGrowthTextCard : Claim7 := { stood := { row := fnExactGrowthTextRow, standIns := [], harness := (true, "759c90a836ba10333fdb0d76fd3d0e841e692045c93991d5e9ac59e70d0009eb"), looks := true }, kinds := [], alts := [], laidByText := true, laidKinds := [.data, .data, .data], laidTests := true, laidLooks := .later }
def FnExactGrowthTextCardSaid : Prop := Claim7.holds Tryd.pinned (.plain (OpenSpec.ofChange fnExactGrowthTextSpec)) fnExactGrowthTextCard

/-- THE TIED CARD OF 'laws.FnExactGoatsText'. -/
def fnExactGoatsTextCard : Claim7 := { stood := { row := fnExactGoatsTextRow, standIns := [], harness := (true, "759c90a836ba10333fdb0d76fd3d0e841e692045c93991d5e9ac59e70d0009eb"), looks := true }, kinds := [], alts := [], laidByText := true, laidKinds := [.data, .data, .data], laidTests := true, laidLooks := .later }
def FnExactGoatsTextCardSaid : Prop := Claim7.holds Tryd.pinned (.plain (OpenSpec.ofChange fnExactGoatsTextSpec)) fnExactGoatsTextCard

/-- THE TIED CARD OF 'laws.FnExactFenceText'. -/
def fnExactFenceTextCard : Claim7 := { stood := { row := fnExactFenceTextRow, standIns := [], harness := (true, "759c90a836ba10333fdb0d76fd3d0e841e692045c93991d5e9ac59e70d0009eb"), looks := true }, kinds := [], alts := [], laidByText := true, laidKinds := [.data, .data, .data], laidTests := true, laidLooks := .later }
def FnExactFenceTextCardSaid : Prop := Claim7.holds Tryd.pinned (.plain (OpenSpec.ofChange fnExactFenceTextSpec)) fnExactFenceTextCard

/-- THE TIED CARD OF 'laws.FnExactPastureText'. -/
def fnExactPastureTextCard : Claim7 := { stood := { row := fnExactPastureTextRow, standIns := [], harness := (true, "759c90a836ba10333fdb0d76fd3d0e841e692045c93991d5e9ac59e70d0009eb"), looks := true }, kinds := [], alts := [], laidByText := true, laidKinds := [.data, .data, .data], laidTests := true, laidLooks := .later }
def FnExactPastureTextCardSaid : Prop := Claim7.holds Tryd.pinned (.plain (OpenSpec.ofChange fnExactPastureTextSpec)) fnExactPastureTextCard

/-- THE TIED CARD OF 'laws.FnExactReadFence'. -/
def fnExactReadFenceCard : Claim7 := { stood := { row := fnExactReadFenceRow, standIns := [], harness := (true, "759c90a836ba10333fdb0d76fd3d0e841e692045c93991d5e9ac59e70d0009eb"), looks := true }, kinds := [], alts := [], laidByText := true, laidKinds := [.data, .data, .data, .data, .sentinel, .sentinel, .pinned], laidTests := true, laidLooks := .later }
def FnExactReadFenceCardSaid : Prop := Claim7.holds Tryd.pinned (.plain (OpenSpec.ofChange fnExactReadFenceSpec)) fnExactReadFenceCard

/-- THE TIED CARD OF 'laws.FnExactReadGoats'. -/
def fnExactReadGoatsCard : Claim7 := { stood := { row := fnExactReadGoatsRow, standIns := [], harness := (true, "759c90a836ba10333fdb0d76fd3d0e841e692045c93991d5e9ac59e70d0009eb"), looks := true }, kinds := [], alts := [], laidByText := true, laidKinds := [.data, .data, .data, .data, .sentinel, .sentinel, .pinned], laidTests := true, laidLooks := .later }
def FnExactReadGoatsCardSaid : Prop := Claim7.holds Tryd.pinned (.plain (OpenSpec.ofChange fnExactReadGoatsSpec)) fnExactReadGoatsCard

/-- THE SECOND FORM's CARD OF 'laws.FnExactGrowthText'. -/
def fnExactGrowthTextUptoCard : Claim7 := { stood := { row := fnExactGrowthTextUptoRow, standIns := [], harness := (true, "759c90a836ba10333fdb0d76fd3d0e841e692045c93991d5e9ac59e70d0009eb"), looks := true }, kinds := [], alts := [], laidByText := true, laidKinds := [.data, .data, .data], laidTests := true, laidLooks := .later }
def FnExactGrowthTextUptoCardSaid : Prop := Claim7.holds Tryd.pinned (.plain (OpenSpec.upto fnExactGrowthTextSpec)) fnExactGrowthTextUptoCard

/-- THE SECOND FORM's CARD OF 'laws.FnExactGoatsText'. -/
def fnExactGoatsTextUptoCard : Claim7 := { stood := { row := fnExactGoatsTextUptoRow, standIns := [], harness := (true, "759c90a836ba10333fdb0d76fd3d0e841e692045c93991d5e9ac59e70d0009eb"), looks := true }, kinds := [], alts := [], laidByText := true, laidKinds := [.data, .data, .data], laidTests := true, laidLooks := .later }
def FnExactGoatsTextUptoCardSaid : Prop := Claim7.holds Tryd.pinned (.plain (OpenSpec.upto fnExactGoatsTextSpec)) fnExactGoatsTextUptoCard

/-- THE SECOND FORM's CARD OF 'laws.FnExactFenceText'. -/
def fnExactFenceTextUptoCard : Claim7 := { stood := { row := fnExactFenceTextUptoRow, standIns := [], harness := (true, "759c90a836ba10333fdb0d76fd3d0e841e692045c93991d5e9ac59e70d0009eb"), looks := true }, kinds := [], alts := [], laidByText := true, laidKinds := [.data, .data, .data], laidTests := true, laidLooks := .later }
def FnExactFenceTextUptoCardSaid : Prop := Claim7.holds Tryd.pinned (.plain (OpenSpec.upto fnExactFenceTextSpec)) fnExactFenceTextUptoCard

/-- THE SECOND FORM's CARD OF 'laws.FnExactPastureText'. -/
def fnExactPastureTextUptoCard : Claim7 := { stood := { row := fnExactPastureTextUptoRow, standIns := [], harness := (true, "759c90a836ba10333fdb0d76fd3d0e841e692045c93991d5e9ac59e70d0009eb"), looks := true }, kinds := [], alts := [], laidByText := true, laidKinds := [.data, .data, .data], laidTests := true, laidLooks := .later }
def FnExactPastureTextUptoCardSaid : Prop := Claim7.holds Tryd.pinned (.plain (OpenSpec.upto fnExactPastureTextSpec)) fnExactPastureTextUptoCard

/-- THE SECOND FORM's CARD OF 'laws.FnExactReadFence'. -/
def fnExactReadFenceUptoCard : Claim7 := { stood := { row := fnExactReadFenceUptoRow, standIns := [], harness := (true, "759c90a836ba10333fdb0d76fd3d0e841e692045c93991d5e9ac59e70d0009eb"), looks := true }, kinds := [], alts := [], laidByText := true, laidKinds := [.data, .data, .data, .data, .sentinel, .sentinel, .pinned], laidTests := true, laidLooks := .later }
def FnExactReadFenceUptoCardSaid : Prop := Claim7.holds Tryd.pinned (.plain (OpenSpec.upto fnExactReadFenceSpec)) fnExactReadFenceUptoCard

/-- THE SECOND FORM's CARD OF 'laws.FnExactReadGoats'. -/
def fnExactReadGoatsUptoCard : Claim7 := { stood := { row := fnExactReadGoatsUptoRow, standIns := [], harness := (true, "759c90a836ba10333fdb0d76fd3d0e841e692045c93991d5e9ac59e70d0009eb"), looks := true }, kinds := [], alts := [], laidByText := true, laidKinds := [.data, .data, .data, .data, .sentinel, .sentinel, .pinned], laidTests := true, laidLooks := .later }
def FnExactReadGoatsUptoCardSaid : Prop := Claim7.holds Tryd.pinned (.plain (OpenSpec.upto fnExactReadGoatsSpec)) fnExactReadGoatsUptoCard
end Rows
end Go.Proofs.YtplnfdgokpgbcaaDoor
