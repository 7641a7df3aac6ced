/-
  No cell of these rows narrows 'for every input' (looked for: loops, veiled, ifaces, maps, wideKeys, modest, calm, conditions, laid).
  DERIVED. THE GIVEN ROWS OF THIS SEAT. 12 by the template 'for every input the law returns true; each argument reads behind the call as it read before'; 0 by the template 'total and deterministic' (their statements: YtakpbhgfpgliaaaTotals.lean).
  GIVEN WITH THE SEED: the statements are not yours to turn. If you find one false, say at which input.
  Laid BY PROGRAM, IN A SANDBOX (cutbox-rows.mjs): the forced cells as the released guide's own fill.sh prints them over the translation b59d3eb94760ca38… (all of the seat's roots in one cut). By AI agents, Wed Nov 11 2026. No macro, syntax, notation, axiom, sorry.
-/
import Derived.Test.YtakpbhgfpgliaaaChecked
import GoSem.Claim
import GoSem.ClaimJoined
import GoSem.ClaimMapViews
import Derived.JoinedTies
import Derived.KernelRfl
namespace Go.Proofs.Ytakpbhgfpgliaaa
/- THE CELL 'sum', in the pinned program and in every row, IS THE sha256 OF THE DUMP (.gsa) THAT YtakpbhgfpgliaaaProg.lean LOADS. Nothing in Lean hashes anything: it is a label: what it is worth is what the hold of that sum in a sandbox is worth. -/
noncomputable def Try.pinned : Pinned := { name := "ytakpbhgfpgliaaa", sum := "b59d3eb94760ca381ee07d86a827e0ca0fd123db6f8b00415bb4ee4f05c516ca", checked := Try.checked }
namespace Rows
def none {H : Type} : Left H := { results := [], args := [] }

/-- 'laws.FnExactDirectionsValid': WHATEVER THE INPUT: true; the input reads as it did. -/
def fnExactDirectionsValidSpec : ChangeSpec := { name := "fnExactDirectionsValid", fn := fun _ => fun
  | [d] => { results := [.lit (.bool true)], args := [d] }
  | _ => none }
def fnExactDirectionsValidRow : OpenClaim := { program := "ytakpbhgfpgliaaa", sum := "b59d3eb94760ca381ee07d86a827e0ca0fd123db6f8b00415bb4ee4f05c516ca", func := "loop.example/blockboxes/laws.FnExactDirectionsValid", spec := "fnExactDirectionsValid", apart := false }
def FnExactDirectionsValidSaid : Prop := fnExactDirectionsValidRow.holds Try.pinned (OpenSpec.ofChange fnExactDirectionsValidSpec)

/-- ITS FALSE NEIGHBOUR: 'it returns false'. Refute it at one input. -/
def fnExactDirectionsValidWrong : ChangeSpec := { name := "fnExactDirectionsValid", fn := fun _ => fun
  | [d] => { results := [.lit (.bool false)], args := [d] }
  | _ => none }
def FnExactDirectionsValidWrongFalsely : Prop := fnExactDirectionsValidRow.holds Try.pinned (OpenSpec.ofChange fnExactDirectionsValidWrong)

/-- 'laws.FnExactTokenValid': WHATEVER THE INPUT: true; the input reads as it did. -/
def fnExactTokenValidSpec : ChangeSpec := { name := "fnExactTokenValid", fn := fun _ => fun
  | [d] => { results := [.lit (.bool true)], args := [d] }
  | _ => none }
def fnExactTokenValidRow : OpenClaim := { program := "ytakpbhgfpgliaaa", sum := "b59d3eb94760ca381ee07d86a827e0ca0fd123db6f8b00415bb4ee4f05c516ca", func := "loop.example/blockboxes/laws.FnExactTokenValid", spec := "fnExactTokenValid", apart := false }
def FnExactTokenValidSaid : Prop := fnExactTokenValidRow.holds Try.pinned (OpenSpec.ofChange fnExactTokenValidSpec)

/-- ITS FALSE NEIGHBOUR: 'it returns false'. Refute it at one input. -/
def fnExactTokenValidWrong : ChangeSpec := { name := "fnExactTokenValid", fn := fun _ => fun
  | [d] => { results := [.lit (.bool false)], args := [d] }
  | _ => none }
def FnExactTokenValidWrongFalsely : Prop := fnExactTokenValidRow.holds Try.pinned (OpenSpec.ofChange fnExactTokenValidWrong)

/-- 'laws.FnExactDirectionsChanges': WHATEVER THE INPUT: true; the input reads as it did. -/
def fnExactDirectionsChangesSpec : ChangeSpec := { name := "fnExactDirectionsChanges", fn := fun _ => fun
  | [d] => { results := [.lit (.bool true)], args := [d] }
  | _ => none }
def fnExactDirectionsChangesRow : OpenClaim := { program := "ytakpbhgfpgliaaa", sum := "b59d3eb94760ca381ee07d86a827e0ca0fd123db6f8b00415bb4ee4f05c516ca", func := "loop.example/blockboxes/laws.FnExactDirectionsChanges", spec := "fnExactDirectionsChanges", apart := false }
def FnExactDirectionsChangesSaid : Prop := fnExactDirectionsChangesRow.holds Try.pinned (OpenSpec.ofChange fnExactDirectionsChangesSpec)

/-- ITS FALSE NEIGHBOUR: 'it returns false'. Refute it at one input. -/
def fnExactDirectionsChangesWrong : ChangeSpec := { name := "fnExactDirectionsChanges", fn := fun _ => fun
  | [d] => { results := [.lit (.bool false)], args := [d] }
  | _ => none }
def FnExactDirectionsChangesWrongFalsely : Prop := fnExactDirectionsChangesRow.holds Try.pinned (OpenSpec.ofChange fnExactDirectionsChangesWrong)

/-- 'laws.FnExactDirectionsTurn': WHATEVER THE INPUT: true; the input reads as it did. -/
def fnExactDirectionsTurnSpec : ChangeSpec := { name := "fnExactDirectionsTurn", fn := fun _ => fun
  | [d] => { results := [.lit (.bool true)], args := [d] }
  | _ => none }
def fnExactDirectionsTurnRow : OpenClaim := { program := "ytakpbhgfpgliaaa", sum := "b59d3eb94760ca381ee07d86a827e0ca0fd123db6f8b00415bb4ee4f05c516ca", func := "loop.example/blockboxes/laws.FnExactDirectionsTurn", spec := "fnExactDirectionsTurn", apart := false }
def FnExactDirectionsTurnSaid : Prop := fnExactDirectionsTurnRow.holds Try.pinned (OpenSpec.ofChange fnExactDirectionsTurnSpec)

/-- ITS FALSE NEIGHBOUR: 'it returns false'. Refute it at one input. -/
def fnExactDirectionsTurnWrong : ChangeSpec := { name := "fnExactDirectionsTurn", fn := fun _ => fun
  | [d] => { results := [.lit (.bool false)], args := [d] }
  | _ => none }
def FnExactDirectionsTurnWrongFalsely : Prop := fnExactDirectionsTurnRow.holds Try.pinned (OpenSpec.ofChange fnExactDirectionsTurnWrong)

/-- 'laws.FnExactTokenNeeds': WHATEVER THE INPUT: true; the input reads as it did. -/
def fnExactTokenNeedsSpec : ChangeSpec := { name := "fnExactTokenNeeds", fn := fun _ => fun
  | [d] => { results := [.lit (.bool true)], args := [d] }
  | _ => none }
def fnExactTokenNeedsRow : OpenClaim := { program := "ytakpbhgfpgliaaa", sum := "b59d3eb94760ca381ee07d86a827e0ca0fd123db6f8b00415bb4ee4f05c516ca", func := "loop.example/blockboxes/laws.FnExactTokenNeeds", spec := "fnExactTokenNeeds", apart := false }
def FnExactTokenNeedsSaid : Prop := fnExactTokenNeedsRow.holds Try.pinned (OpenSpec.ofChange fnExactTokenNeedsSpec)

/-- ITS FALSE NEIGHBOUR: 'it returns false'. Refute it at one input. -/
def fnExactTokenNeedsWrong : ChangeSpec := { name := "fnExactTokenNeeds", fn := fun _ => fun
  | [d] => { results := [.lit (.bool false)], args := [d] }
  | _ => none }
def FnExactTokenNeedsWrongFalsely : Prop := fnExactTokenNeedsRow.holds Try.pinned (OpenSpec.ofChange fnExactTokenNeedsWrong)

/-- 'laws.FnExactStaffMany': WHATEVER THE INPUT: true; the input reads as it did. -/
def fnExactStaffManySpec : ChangeSpec := { name := "fnExactStaffMany", fn := fun _ => fun
  | [d1, d2] => { results := [.lit (.bool true)], args := [d1, d2] }
  | _ => none }
def fnExactStaffManyRow : OpenClaim := { program := "ytakpbhgfpgliaaa", sum := "b59d3eb94760ca381ee07d86a827e0ca0fd123db6f8b00415bb4ee4f05c516ca", func := "loop.example/blockboxes/laws.FnExactStaffMany", spec := "fnExactStaffMany", apart := false }
def FnExactStaffManySaid : Prop := fnExactStaffManyRow.holds Try.pinned (OpenSpec.ofChange fnExactStaffManySpec)

/-- ITS FALSE NEIGHBOUR: 'it returns false'. Refute it at one input. -/
def fnExactStaffManyWrong : ChangeSpec := { name := "fnExactStaffMany", fn := fun _ => fun
  | [d1, d2] => { results := [.lit (.bool false)], args := [d1, d2] }
  | _ => none }
def FnExactStaffManyWrongFalsely : Prop := fnExactStaffManyRow.holds Try.pinned (OpenSpec.ofChange fnExactStaffManyWrong)

/-- 'laws.FnExactStaffRun': WHATEVER THE INPUT: true; the input reads as it did. -/
def fnExactStaffRunSpec : ChangeSpec := { name := "fnExactStaffRun", fn := fun _ => fun
  | [d1, d2, d3] => { results := [.lit (.bool true)], args := [d1, d2, d3] }
  | _ => none }
def fnExactStaffRunRow : OpenClaim := { program := "ytakpbhgfpgliaaa", sum := "b59d3eb94760ca381ee07d86a827e0ca0fd123db6f8b00415bb4ee4f05c516ca", func := "loop.example/blockboxes/laws.FnExactStaffRun", spec := "fnExactStaffRun", apart := false }
def FnExactStaffRunSaid : Prop := fnExactStaffRunRow.holds Try.pinned (OpenSpec.ofChange fnExactStaffRunSpec)

/-- ITS FALSE NEIGHBOUR: 'it returns false'. Refute it at one input. -/
def fnExactStaffRunWrong : ChangeSpec := { name := "fnExactStaffRun", fn := fun _ => fun
  | [d1, d2, d3] => { results := [.lit (.bool false)], args := [d1, d2, d3] }
  | _ => none }
def FnExactStaffRunWrongFalsely : Prop := fnExactStaffRunRow.holds Try.pinned (OpenSpec.ofChange fnExactStaffRunWrong)

/-- 'laws.FnExactTokenTrains': WHATEVER THE INPUT: true; the input reads as it did. -/
def fnExactTokenTrainsSpec : ChangeSpec := { name := "fnExactTokenTrains", fn := fun _ => fun
  | [d] => { results := [.lit (.bool true)], args := [d] }
  | _ => none }
def fnExactTokenTrainsRow : OpenClaim := { program := "ytakpbhgfpgliaaa", sum := "b59d3eb94760ca381ee07d86a827e0ca0fd123db6f8b00415bb4ee4f05c516ca", func := "loop.example/blockboxes/laws.FnExactTokenTrains", spec := "fnExactTokenTrains", inPlace := ["internal/abi.NoEscape"], apart := false }
def FnExactTokenTrainsSaid : Prop := fnExactTokenTrainsRow.holds Try.pinned (OpenSpec.ofChange fnExactTokenTrainsSpec)

/-- ITS FALSE NEIGHBOUR: 'it returns false'. Refute it at one input. -/
def fnExactTokenTrainsWrong : ChangeSpec := { name := "fnExactTokenTrains", fn := fun _ => fun
  | [d] => { results := [.lit (.bool false)], args := [d] }
  | _ => none }
def FnExactTokenTrainsWrongFalsely : Prop := fnExactTokenTrainsRow.holds Try.pinned (OpenSpec.ofChange fnExactTokenTrainsWrong)

/-- 'laws.FnExactTokenStep': WHATEVER THE INPUT: true; the input reads as it did. -/
def fnExactTokenStepSpec : ChangeSpec := { name := "fnExactTokenStep", fn := fun _ => fun
  | [d1, d2] => { results := [.lit (.bool true)], args := [d1, d2] }
  | _ => none }
def fnExactTokenStepRow : OpenClaim := { program := "ytakpbhgfpgliaaa", sum := "b59d3eb94760ca381ee07d86a827e0ca0fd123db6f8b00415bb4ee4f05c516ca", func := "loop.example/blockboxes/laws.FnExactTokenStep", spec := "fnExactTokenStep", apart := false }
def FnExactTokenStepSaid : Prop := fnExactTokenStepRow.holds Try.pinned (OpenSpec.ofChange fnExactTokenStepSpec)

/-- ITS FALSE NEIGHBOUR: 'it returns false'. Refute it at one input. -/
def fnExactTokenStepWrong : ChangeSpec := { name := "fnExactTokenStep", fn := fun _ => fun
  | [d1, d2] => { results := [.lit (.bool false)], args := [d1, d2] }
  | _ => none }
def FnExactTokenStepWrongFalsely : Prop := fnExactTokenStepRow.holds Try.pinned (OpenSpec.ofChange fnExactTokenStepWrong)

/-- 'laws.FnExactStaffKinds': WHATEVER THE INPUT: true; the input reads as it did. -/
def fnExactStaffKindsSpec : ChangeSpec := { name := "fnExactStaffKinds", fn := fun _ => fun
  | [d1, d2] => { results := [.lit (.bool true)], args := [d1, d2] }
  | _ => none }
def fnExactStaffKindsRow : OpenClaim := { program := "ytakpbhgfpgliaaa", sum := "b59d3eb94760ca381ee07d86a827e0ca0fd123db6f8b00415bb4ee4f05c516ca", func := "loop.example/blockboxes/laws.FnExactStaffKinds", spec := "fnExactStaffKinds", apart := false }
def FnExactStaffKindsSaid : Prop := fnExactStaffKindsRow.holds Try.pinned (OpenSpec.ofChange fnExactStaffKindsSpec)

/-- ITS FALSE NEIGHBOUR: 'it returns false'. Refute it at one input. -/
def fnExactStaffKindsWrong : ChangeSpec := { name := "fnExactStaffKinds", fn := fun _ => fun
  | [d1, d2] => { results := [.lit (.bool false)], args := [d1, d2] }
  | _ => none }
def FnExactStaffKindsWrongFalsely : Prop := fnExactStaffKindsRow.holds Try.pinned (OpenSpec.ofChange fnExactStaffKindsWrong)

/-- 'laws.FnExactTokenRun': WHATEVER THE INPUT: true; the input reads as it did. -/
def fnExactTokenRunSpec : ChangeSpec := { name := "fnExactTokenRun", fn := fun _ => fun
  | [d1, d2] => { results := [.lit (.bool true)], args := [d1, d2] }
  | _ => none }
def fnExactTokenRunRow : OpenClaim := { program := "ytakpbhgfpgliaaa", sum := "b59d3eb94760ca381ee07d86a827e0ca0fd123db6f8b00415bb4ee4f05c516ca", func := "loop.example/blockboxes/laws.FnExactTokenRun", spec := "fnExactTokenRun", apart := false }
def FnExactTokenRunSaid : Prop := fnExactTokenRunRow.holds Try.pinned (OpenSpec.ofChange fnExactTokenRunSpec)

/-- ITS FALSE NEIGHBOUR: 'it returns false'. Refute it at one input. -/
def fnExactTokenRunWrong : ChangeSpec := { name := "fnExactTokenRun", fn := fun _ => fun
  | [d1, d2] => { results := [.lit (.bool false)], args := [d1, d2] }
  | _ => none }
def FnExactTokenRunWrongFalsely : Prop := fnExactTokenRunRow.holds Try.pinned (OpenSpec.ofChange fnExactTokenRunWrong)

/-- 'laws.FnExactTokenCarry': WHATEVER THE INPUT: true; the input reads as it did. -/
def fnExactTokenCarrySpec : ChangeSpec := { name := "fnExactTokenCarry", fn := fun _ => fun
  | [d1, d2] => { results := [.lit (.bool true)], args := [d1, d2] }
  | _ => none }
def fnExactTokenCarryRow : OpenClaim := { program := "ytakpbhgfpgliaaa", sum := "b59d3eb94760ca381ee07d86a827e0ca0fd123db6f8b00415bb4ee4f05c516ca", func := "loop.example/blockboxes/laws.FnExactTokenCarry", spec := "fnExactTokenCarry", apart := false }
def FnExactTokenCarrySaid : Prop := fnExactTokenCarryRow.holds Try.pinned (OpenSpec.ofChange fnExactTokenCarrySpec)

/-- ITS FALSE NEIGHBOUR: 'it returns false'. Refute it at one input. -/
def fnExactTokenCarryWrong : ChangeSpec := { name := "fnExactTokenCarry", fn := fun _ => fun
  | [d1, d2] => { results := [.lit (.bool false)], args := [d1, d2] }
  | _ => none }
def FnExactTokenCarryWrongFalsely : Prop := fnExactTokenCarryRow.holds Try.pinned (OpenSpec.ofChange fnExactTokenCarryWrong)

/- THE SECOND FORM. 'bulk': how many values and letters a reading holds, each counted each time it is reached (what is shared counts as often as it is met; a slice's spare places count too). A statement '..UptoSaid' is the law's where the arguments, and the package variables that the reading takes, are together of bulk at most 1048576: NARROWER than '..Said'. Prove '..Said' where nothing that the law and all that it calls make is longer than what came in: it says more and counts as full. Else prove '..UptoSaid'. A law counts once. -/
mutual
def uptoBulk {H : Type} : DataW H → Nat
  | .lit (.string bytes) => bytes.length + 1
  | .lit _ => 1
  | .nil => 1
  | .ptr d => uptoBulk d + 1
  | .slice elems spare => uptoBulkAll elems + uptoBulkAll spare + 1
  | .agg parts => uptoBulkAll parts + 1
  | .iface _ d => uptoBulk d + 1
  | .map entries => uptoBulkEntries entries + 1
  | .held _ => 1
def uptoBulkAll {H : Type} : List (DataW H) → Nat
  | [] => 0
  | d :: r => uptoBulk d + uptoBulkAll r
def uptoBulkEntries {H : Type} : List (Lit × DataW H) → Nat
  | [] => 0
  | x :: r => uptoBulkEntry x + uptoBulkEntries r
def uptoBulkEntry {H : Type} : Lit × DataW H → Nat
  | (.string bytes, d) => bytes.length + uptoBulk d + 1
  | (_, d) => uptoBulk d + 1
 end
def uptoSmall : (H : Type) → List (DataW H) → Bool := fun _ ds => decide (uptoBulkAll ds ≤ 1048576)
def OpenSpec.upto (s : _root_.Go.ChangeSpec) : _root_.Go.OpenSpec := { _root_.Go.OpenSpec.ofChange s with cond := some uptoSmall }

/-- 'laws.FnExactDirectionsValid', WHERE WHAT IT READS IS OF BULK AT MOST 1048576: true; the input reads as it did. -/
def fnExactDirectionsValidUptoRow : OpenClaim := { program := "ytakpbhgfpgliaaa", sum := "b59d3eb94760ca381ee07d86a827e0ca0fd123db6f8b00415bb4ee4f05c516ca", func := "loop.example/blockboxes/laws.FnExactDirectionsValid", spec := "fnExactDirectionsValid", apart := false, narrowed := true }
def FnExactDirectionsValidUptoSaid : Prop := fnExactDirectionsValidUptoRow.holds Try.pinned (OpenSpec.upto fnExactDirectionsValidSpec)

/-- 'laws.FnExactTokenValid', WHERE WHAT IT READS IS OF BULK AT MOST 1048576: true; the input reads as it did. -/
def fnExactTokenValidUptoRow : OpenClaim := { program := "ytakpbhgfpgliaaa", sum := "b59d3eb94760ca381ee07d86a827e0ca0fd123db6f8b00415bb4ee4f05c516ca", func := "loop.example/blockboxes/laws.FnExactTokenValid", spec := "fnExactTokenValid", apart := false, narrowed := true }
def FnExactTokenValidUptoSaid : Prop := fnExactTokenValidUptoRow.holds Try.pinned (OpenSpec.upto fnExactTokenValidSpec)

/-- 'laws.FnExactDirectionsChanges', WHERE WHAT IT READS IS OF BULK AT MOST 1048576: true; the input reads as it did. -/
def fnExactDirectionsChangesUptoRow : OpenClaim := { program := "ytakpbhgfpgliaaa", sum := "b59d3eb94760ca381ee07d86a827e0ca0fd123db6f8b00415bb4ee4f05c516ca", func := "loop.example/blockboxes/laws.FnExactDirectionsChanges", spec := "fnExactDirectionsChanges", apart := false, narrowed := true }
def FnExactDirectionsChangesUptoSaid : Prop := fnExactDirectionsChangesUptoRow.holds Try.pinned (OpenSpec.upto fnExactDirectionsChangesSpec)

/-- 'laws.FnExactDirectionsTurn', WHERE WHAT IT READS IS OF BULK AT MOST 1048576: true; the input reads as it did. -/
def fnExactDirectionsTurnUptoRow : OpenClaim := { program := "ytakpbhgfpgliaaa", sum := "b59d3eb94760ca381ee07d86a827e0ca0fd123db6f8b00415bb4ee4f05c516ca", func := "loop.example/blockboxes/laws.FnExactDirectionsTurn", spec := "fnExactDirectionsTurn", apart := false, narrowed := true }
def FnExactDirectionsTurnUptoSaid : Prop := fnExactDirectionsTurnUptoRow.holds Try.pinned (OpenSpec.upto fnExactDirectionsTurnSpec)

/-- 'laws.FnExactTokenNeeds', WHERE WHAT IT READS IS OF BULK AT MOST 1048576: true; the input reads as it did. -/
def fnExactTokenNeedsUptoRow : OpenClaim := { program := "ytakpbhgfpgliaaa", sum := "b59d3eb94760ca381ee07d86a827e0ca0fd123db6f8b00415bb4ee4f05c516ca", func := "loop.example/blockboxes/laws.FnExactTokenNeeds", spec := "fnExactTokenNeeds", apart := false, narrowed := true }
def FnExactTokenNeedsUptoSaid : Prop := fnExactTokenNeedsUptoRow.holds Try.pinned (OpenSpec.upto fnExactTokenNeedsSpec)

/-- 'laws.FnExactStaffMany', WHERE WHAT IT READS IS OF BULK AT MOST 1048576: true; the input reads as it did. -/
def fnExactStaffManyUptoRow : OpenClaim := { program := "ytakpbhgfpgliaaa", sum := "b59d3eb94760ca381ee07d86a827e0ca0fd123db6f8b00415bb4ee4f05c516ca", func := "loop.example/blockboxes/laws.FnExactStaffMany", spec := "fnExactStaffMany", apart := false, narrowed := true }
def FnExactStaffManyUptoSaid : Prop := fnExactStaffManyUptoRow.holds Try.pinned (OpenSpec.upto fnExactStaffManySpec)

/-- 'laws.FnExactStaffRun', WHERE WHAT IT READS IS OF BULK AT MOST 1048576: true; the input reads as it did. -/
def fnExactStaffRunUptoRow : OpenClaim := { program := "ytakpbhgfpgliaaa", sum := "b59d3eb94760ca381ee07d86a827e0ca0fd123db6f8b00415bb4ee4f05c516ca", func := "loop.example/blockboxes/laws.FnExactStaffRun", spec := "fnExactStaffRun", apart := false, narrowed := true }
def FnExactStaffRunUptoSaid : Prop := fnExactStaffRunUptoRow.holds Try.pinned (OpenSpec.upto fnExactStaffRunSpec)

/-- 'laws.FnExactTokenTrains', WHERE WHAT IT READS IS OF BULK AT MOST 1048576: true; the input reads as it did. -/
def fnExactTokenTrainsUptoRow : OpenClaim := { program := "ytakpbhgfpgliaaa", sum := "b59d3eb94760ca381ee07d86a827e0ca0fd123db6f8b00415bb4ee4f05c516ca", func := "loop.example/blockboxes/laws.FnExactTokenTrains", spec := "fnExactTokenTrains", inPlace := ["internal/abi.NoEscape"], apart := false, narrowed := true }
def FnExactTokenTrainsUptoSaid : Prop := fnExactTokenTrainsUptoRow.holds Try.pinned (OpenSpec.upto fnExactTokenTrainsSpec)

/-- 'laws.FnExactTokenStep', WHERE WHAT IT READS IS OF BULK AT MOST 1048576: true; the input reads as it did. -/
def fnExactTokenStepUptoRow : OpenClaim := { program := "ytakpbhgfpgliaaa", sum := "b59d3eb94760ca381ee07d86a827e0ca0fd123db6f8b00415bb4ee4f05c516ca", func := "loop.example/blockboxes/laws.FnExactTokenStep", spec := "fnExactTokenStep", apart := false, narrowed := true }
def FnExactTokenStepUptoSaid : Prop := fnExactTokenStepUptoRow.holds Try.pinned (OpenSpec.upto fnExactTokenStepSpec)

/-- 'laws.FnExactStaffKinds', WHERE WHAT IT READS IS OF BULK AT MOST 1048576: true; the input reads as it did. -/
def fnExactStaffKindsUptoRow : OpenClaim := { program := "ytakpbhgfpgliaaa", sum := "b59d3eb94760ca381ee07d86a827e0ca0fd123db6f8b00415bb4ee4f05c516ca", func := "loop.example/blockboxes/laws.FnExactStaffKinds", spec := "fnExactStaffKinds", apart := false, narrowed := true }
def FnExactStaffKindsUptoSaid : Prop := fnExactStaffKindsUptoRow.holds Try.pinned (OpenSpec.upto fnExactStaffKindsSpec)

/-- 'laws.FnExactTokenRun', WHERE WHAT IT READS IS OF BULK AT MOST 1048576: true; the input reads as it did. -/
def fnExactTokenRunUptoRow : OpenClaim := { program := "ytakpbhgfpgliaaa", sum := "b59d3eb94760ca381ee07d86a827e0ca0fd123db6f8b00415bb4ee4f05c516ca", func := "loop.example/blockboxes/laws.FnExactTokenRun", spec := "fnExactTokenRun", apart := false, narrowed := true }
def FnExactTokenRunUptoSaid : Prop := fnExactTokenRunUptoRow.holds Try.pinned (OpenSpec.upto fnExactTokenRunSpec)

/-- 'laws.FnExactTokenCarry', WHERE WHAT IT READS IS OF BULK AT MOST 1048576: true; the input reads as it did. -/
def fnExactTokenCarryUptoRow : OpenClaim := { program := "ytakpbhgfpgliaaa", sum := "b59d3eb94760ca381ee07d86a827e0ca0fd123db6f8b00415bb4ee4f05c516ca", func := "loop.example/blockboxes/laws.FnExactTokenCarry", spec := "fnExactTokenCarry", apart := false, narrowed := true }
def FnExactTokenCarryUptoSaid : Prop := fnExactTokenCarryUptoRow.holds Try.pinned (OpenSpec.upto fnExactTokenCarrySpec)

end Rows
end Go.Proofs.Ytakpbhgfpgliaaa
