/-
  No cell of these rows narrows 'for every input' (looked for: loops, veiled, ifaces, maps, wideKeys, modest, calm, conditions, laid).
  DERIVED. THE GIVEN ROWS OF THIS SEAT. 12 by the template 'for every input the law returns true; each argument reads behind the call as it read before'; 0 by the template 'total and deterministic' (their statements: YtejggpejmooegaaTotals.lean).
  GIVEN WITH THE SEED: the statements are not yours to turn. If you find one false, say at which input.
  Laid BY PROGRAM, IN A SANDBOX (cutbox-rows.mjs): the forced cells as the released guide's own fill.sh prints them over the translation 5383259a08a9aed1… (all of the seat's roots in one cut). By AI agents, Wed Nov 11 2026. No macro, syntax, notation, axiom, sorry.
-/
import Derived.Test.YtejggpejmooegaaChecked
import GoSem.Claim
import GoSem.ClaimJoined
import GoSem.ClaimMapViews
import Derived.JoinedTies
import Derived.KernelRfl
namespace Go.Proofs.Ytejggpejmooegaa
/- THE CELL 'sum', in the pinned program and in every row, IS THE sha256 OF THE DUMP (.gsa) THAT YtejggpejmooegaaProg.lean LOADS. Nothing in Lean hashes anything: it is a label: what it is worth is what the hold of that sum in a sandbox is worth. -/
noncomputable def Try.pinned : Pinned := { name := "ytejggpejmooegaa", sum := "5383259a08a9aed104c30a1105f1489f244a2f02326877cf30ac85cef115e827", checked := Try.checked }
namespace Rows
def none {H : Type} : Left H := { results := [], args := [] }

/-- 'laws.FnChanges': WHATEVER THE INPUT: true; the input reads as it did. -/
def fnChangesSpec : ChangeSpec := { name := "fnChanges", fn := fun _ => fun
  | [d1, d2] => { results := [.lit (.bool true)], args := [d1, d2] }
  | _ => none }
def fnChangesRow : OpenClaim := { program := "ytejggpejmooegaa", sum := "5383259a08a9aed104c30a1105f1489f244a2f02326877cf30ac85cef115e827", func := "loop.example/blockboxes/laws.FnChanges", spec := "fnChanges", plainKeys := false, apart := false }
def FnChangesSaid : Prop := fnChangesRow.holds Try.pinned (OpenSpec.ofChange fnChangesSpec)

/-- ITS FALSE NEIGHBOUR: 'it returns false'. Refute it at one input. -/
def fnChangesWrong : ChangeSpec := { name := "fnChanges", fn := fun _ => fun
  | [d1, d2] => { results := [.lit (.bool false)], args := [d1, d2] }
  | _ => none }
def FnChangesWrongFalsely : Prop := fnChangesRow.holds Try.pinned (OpenSpec.ofChange fnChangesWrong)

/-- 'laws.FnTokenStep': WHATEVER THE INPUT: true; the input reads as it did. -/
def fnTokenStepSpec : ChangeSpec := { name := "fnTokenStep", fn := fun _ => fun
  | [d] => { results := [.lit (.bool true)], args := [d] }
  | _ => none }
def fnTokenStepRow : OpenClaim := { program := "ytejggpejmooegaa", sum := "5383259a08a9aed104c30a1105f1489f244a2f02326877cf30ac85cef115e827", func := "loop.example/blockboxes/laws.FnTokenStep", spec := "fnTokenStep", plainKeys := false, apart := false }
def FnTokenStepSaid : Prop := fnTokenStepRow.holds Try.pinned (OpenSpec.ofChange fnTokenStepSpec)

/-- ITS FALSE NEIGHBOUR: 'it returns false'. Refute it at one input. -/
def fnTokenStepWrong : ChangeSpec := { name := "fnTokenStep", fn := fun _ => fun
  | [d] => { results := [.lit (.bool false)], args := [d] }
  | _ => none }
def FnTokenStepWrongFalsely : Prop := fnTokenStepRow.holds Try.pinned (OpenSpec.ofChange fnTokenStepWrong)

/-- 'laws.FnDirections': WHATEVER THE INPUT: true; the input reads as it did. -/
def fnDirectionsSpec : ChangeSpec := { name := "fnDirections", fn := fun _ => fun
  | [d] => { results := [.lit (.bool true)], args := [d] }
  | _ => none }
def fnDirectionsRow : OpenClaim := { program := "ytejggpejmooegaa", sum := "5383259a08a9aed104c30a1105f1489f244a2f02326877cf30ac85cef115e827", func := "loop.example/blockboxes/laws.FnDirections", spec := "fnDirections", plainKeys := false, apart := false }
def FnDirectionsSaid : Prop := fnDirectionsRow.holds Try.pinned (OpenSpec.ofChange fnDirectionsSpec)

/-- ITS FALSE NEIGHBOUR: 'it returns false'. Refute it at one input. -/
def fnDirectionsWrong : ChangeSpec := { name := "fnDirections", fn := fun _ => fun
  | [d] => { results := [.lit (.bool false)], args := [d] }
  | _ => none }
def FnDirectionsWrongFalsely : Prop := fnDirectionsRow.holds Try.pinned (OpenSpec.ofChange fnDirectionsWrong)

/-- 'laws.FnTokenNeeds': WHATEVER THE INPUT: true; the input reads as it did. -/
def fnTokenNeedsSpec : ChangeSpec := { name := "fnTokenNeeds", fn := fun _ => fun
  | [d] => { results := [.lit (.bool true)], args := [d] }
  | _ => none }
def fnTokenNeedsRow : OpenClaim := { program := "ytejggpejmooegaa", sum := "5383259a08a9aed104c30a1105f1489f244a2f02326877cf30ac85cef115e827", func := "loop.example/blockboxes/laws.FnTokenNeeds", spec := "fnTokenNeeds", plainKeys := false, apart := false }
def FnTokenNeedsSaid : Prop := fnTokenNeedsRow.holds Try.pinned (OpenSpec.ofChange fnTokenNeedsSpec)

/-- ITS FALSE NEIGHBOUR: 'it returns false'. Refute it at one input. -/
def fnTokenNeedsWrong : ChangeSpec := { name := "fnTokenNeeds", fn := fun _ => fun
  | [d] => { results := [.lit (.bool false)], args := [d] }
  | _ => none }
def FnTokenNeedsWrongFalsely : Prop := fnTokenNeedsRow.holds Try.pinned (OpenSpec.ofChange fnTokenNeedsWrong)

/-- 'laws.FnStaffMany': WHATEVER THE INPUT: true; the input reads as it did. -/
def fnStaffManySpec : ChangeSpec := { name := "fnStaffMany", fn := fun _ => fun
  | [d] => { results := [.lit (.bool true)], args := [d] }
  | _ => none }
def fnStaffManyRow : OpenClaim := { program := "ytejggpejmooegaa", sum := "5383259a08a9aed104c30a1105f1489f244a2f02326877cf30ac85cef115e827", func := "loop.example/blockboxes/laws.FnStaffMany", spec := "fnStaffMany", plainKeys := false, apart := false }
def FnStaffManySaid : Prop := fnStaffManyRow.holds Try.pinned (OpenSpec.ofChange fnStaffManySpec)

/-- ITS FALSE NEIGHBOUR: 'it returns false'. Refute it at one input. -/
def fnStaffManyWrong : ChangeSpec := { name := "fnStaffMany", fn := fun _ => fun
  | [d] => { results := [.lit (.bool false)], args := [d] }
  | _ => none }
def FnStaffManyWrongFalsely : Prop := fnStaffManyRow.holds Try.pinned (OpenSpec.ofChange fnStaffManyWrong)

/-- 'laws.FnExactTokenMany': WHATEVER THE INPUT: true; the input reads as it did. -/
def fnExactTokenManySpec : ChangeSpec := { name := "fnExactTokenMany", fn := fun _ => fun
  | [d1, d2] => { results := [.lit (.bool true)], args := [d1, d2] }
  | _ => none }
def fnExactTokenManyRow : OpenClaim := { program := "ytejggpejmooegaa", sum := "5383259a08a9aed104c30a1105f1489f244a2f02326877cf30ac85cef115e827", func := "loop.example/blockboxes/laws.FnExactTokenMany", spec := "fnExactTokenMany", recurses := true, plainKeys := false, apart := false }
def FnExactTokenManySaid : Prop := fnExactTokenManyRow.holds Try.pinned (OpenSpec.ofChange fnExactTokenManySpec)

/-- ITS FALSE NEIGHBOUR: 'it returns false'. Refute it at one input. -/
def fnExactTokenManyWrong : ChangeSpec := { name := "fnExactTokenMany", fn := fun _ => fun
  | [d1, d2] => { results := [.lit (.bool false)], args := [d1, d2] }
  | _ => none }
def FnExactTokenManyWrongFalsely : Prop := fnExactTokenManyRow.holds Try.pinned (OpenSpec.ofChange fnExactTokenManyWrong)

/-- 'laws.FnTokenRun': WHATEVER THE INPUT: true; the input reads as it did. -/
def fnTokenRunSpec : ChangeSpec := { name := "fnTokenRun", fn := fun _ => fun
  | [d1, d2] => { results := [.lit (.bool true)], args := [d1, d2] }
  | _ => none }
def fnTokenRunRow : OpenClaim := { program := "ytejggpejmooegaa", sum := "5383259a08a9aed104c30a1105f1489f244a2f02326877cf30ac85cef115e827", func := "loop.example/blockboxes/laws.FnTokenRun", spec := "fnTokenRun", plainKeys := false, apart := false }
def FnTokenRunSaid : Prop := fnTokenRunRow.holds Try.pinned (OpenSpec.ofChange fnTokenRunSpec)

/-- ITS FALSE NEIGHBOUR: 'it returns false'. Refute it at one input. -/
def fnTokenRunWrong : ChangeSpec := { name := "fnTokenRun", fn := fun _ => fun
  | [d1, d2] => { results := [.lit (.bool false)], args := [d1, d2] }
  | _ => none }
def FnTokenRunWrongFalsely : Prop := fnTokenRunRow.holds Try.pinned (OpenSpec.ofChange fnTokenRunWrong)

/-- 'laws.FnStaffRun': WHATEVER THE INPUT: true; the input reads as it did. -/
def fnStaffRunSpec : ChangeSpec := { name := "fnStaffRun", fn := fun _ => fun
  | [d] => { results := [.lit (.bool true)], args := [d] }
  | _ => none }
def fnStaffRunRow : OpenClaim := { program := "ytejggpejmooegaa", sum := "5383259a08a9aed104c30a1105f1489f244a2f02326877cf30ac85cef115e827", func := "loop.example/blockboxes/laws.FnStaffRun", spec := "fnStaffRun", plainKeys := false, apart := false }
def FnStaffRunSaid : Prop := fnStaffRunRow.holds Try.pinned (OpenSpec.ofChange fnStaffRunSpec)

/-- ITS FALSE NEIGHBOUR: 'it returns false'. Refute it at one input. -/
def fnStaffRunWrong : ChangeSpec := { name := "fnStaffRun", fn := fun _ => fun
  | [d] => { results := [.lit (.bool false)], args := [d] }
  | _ => none }
def FnStaffRunWrongFalsely : Prop := fnStaffRunRow.holds Try.pinned (OpenSpec.ofChange fnStaffRunWrong)

/-- 'laws.FnTokenMany': WHATEVER THE INPUT: true; the input reads as it did. -/
def fnTokenManySpec : ChangeSpec := { name := "fnTokenMany", fn := fun _ => fun
  | [d] => { results := [.lit (.bool true)], args := [d] }
  | _ => none }
def fnTokenManyRow : OpenClaim := { program := "ytejggpejmooegaa", sum := "5383259a08a9aed104c30a1105f1489f244a2f02326877cf30ac85cef115e827", func := "loop.example/blockboxes/laws.FnTokenMany", spec := "fnTokenMany", recurses := true, plainKeys := false, apart := false }
def FnTokenManySaid : Prop := fnTokenManyRow.holds Try.pinned (OpenSpec.ofChange fnTokenManySpec)

/-- ITS FALSE NEIGHBOUR: 'it returns false'. Refute it at one input. -/
def fnTokenManyWrong : ChangeSpec := { name := "fnTokenMany", fn := fun _ => fun
  | [d] => { results := [.lit (.bool false)], args := [d] }
  | _ => none }
def FnTokenManyWrongFalsely : Prop := fnTokenManyRow.holds Try.pinned (OpenSpec.ofChange fnTokenManyWrong)

/-- 'laws.FnStaffKinds': WHATEVER THE INPUT: true; the input reads as it did. -/
def fnStaffKindsSpec : ChangeSpec := { name := "fnStaffKinds", fn := fun _ => fun
  | [d] => { results := [.lit (.bool true)], args := [d] }
  | _ => none }
def fnStaffKindsRow : OpenClaim := { program := "ytejggpejmooegaa", sum := "5383259a08a9aed104c30a1105f1489f244a2f02326877cf30ac85cef115e827", func := "loop.example/blockboxes/laws.FnStaffKinds", spec := "fnStaffKinds", plainKeys := false, apart := false }
def FnStaffKindsSaid : Prop := fnStaffKindsRow.holds Try.pinned (OpenSpec.ofChange fnStaffKindsSpec)

/-- ITS FALSE NEIGHBOUR: 'it returns false'. Refute it at one input. -/
def fnStaffKindsWrong : ChangeSpec := { name := "fnStaffKinds", fn := fun _ => fun
  | [d] => { results := [.lit (.bool false)], args := [d] }
  | _ => none }
def FnStaffKindsWrongFalsely : Prop := fnStaffKindsRow.holds Try.pinned (OpenSpec.ofChange fnStaffKindsWrong)

/-- 'laws.FnTokenTrains': WHATEVER THE INPUT: true; the input reads as it did. -/
def fnTokenTrainsSpec : ChangeSpec := { name := "fnTokenTrains", fn := fun _ => fun
  | [d] => { results := [.lit (.bool true)], args := [d] }
  | _ => none }
def fnTokenTrainsRow : OpenClaim := { program := "ytejggpejmooegaa", sum := "5383259a08a9aed104c30a1105f1489f244a2f02326877cf30ac85cef115e827", func := "loop.example/blockboxes/laws.FnTokenTrains", spec := "fnTokenTrains", inPlace := ["internal/abi.NoEscape"], plainKeys := false, apart := false }
def FnTokenTrainsSaid : Prop := fnTokenTrainsRow.holds Try.pinned (OpenSpec.ofChange fnTokenTrainsSpec)

/-- ITS FALSE NEIGHBOUR: 'it returns false'. Refute it at one input. -/
def fnTokenTrainsWrong : ChangeSpec := { name := "fnTokenTrains", fn := fun _ => fun
  | [d] => { results := [.lit (.bool false)], args := [d] }
  | _ => none }
def FnTokenTrainsWrongFalsely : Prop := fnTokenTrainsRow.holds Try.pinned (OpenSpec.ofChange fnTokenTrainsWrong)

/-- 'laws.FnTokenCarry': WHATEVER THE INPUT: true; the input reads as it did. -/
def fnTokenCarrySpec : ChangeSpec := { name := "fnTokenCarry", fn := fun _ => fun
  | [d] => { results := [.lit (.bool true)], args := [d] }
  | _ => none }
def fnTokenCarryRow : OpenClaim := { program := "ytejggpejmooegaa", sum := "5383259a08a9aed104c30a1105f1489f244a2f02326877cf30ac85cef115e827", func := "loop.example/blockboxes/laws.FnTokenCarry", spec := "fnTokenCarry", inPlace := ["internal/abi.NoEscape"], plainKeys := false, apart := false }
def FnTokenCarrySaid : Prop := fnTokenCarryRow.holds Try.pinned (OpenSpec.ofChange fnTokenCarrySpec)

/-- ITS FALSE NEIGHBOUR: 'it returns false'. Refute it at one input. -/
def fnTokenCarryWrong : ChangeSpec := { name := "fnTokenCarry", fn := fun _ => fun
  | [d] => { results := [.lit (.bool false)], args := [d] }
  | _ => none }
def FnTokenCarryWrongFalsely : Prop := fnTokenCarryRow.holds Try.pinned (OpenSpec.ofChange fnTokenCarryWrong)

/- THE SECOND FORM. 'bulk': how many values and letters a reading holds, each counted each time it is reached (what is shared counts as often as it is met; a slice's spare places count too). A statement '..UptoSaid' is the law's where the arguments, and the package variables that the reading takes, are together of bulk at most 1048576: NARROWER than '..Said'. Prove '..Said' where nothing that the law and all that it calls make is longer than what came in: it says more and counts as full. Else prove '..UptoSaid'. A law counts once. -/
mutual
def uptoBulk {H : Type} : DataW H → Nat
  | .lit (.string bytes) => bytes.length + 1
  | .lit _ => 1
  | .nil => 1
  | .ptr d => uptoBulk d + 1
  | .slice elems spare => uptoBulkAll elems + uptoBulkAll spare + 1
  | .agg parts => uptoBulkAll parts + 1
  | .iface _ d => uptoBulk d + 1
  | .map entries => uptoBulkEntries entries + 1
  | .held _ => 1
def uptoBulkAll {H : Type} : List (DataW H) → Nat
  | [] => 0
  | d :: r => uptoBulk d + uptoBulkAll r
def uptoBulkEntries {H : Type} : List (Lit × DataW H) → Nat
  | [] => 0
  | x :: r => uptoBulkEntry x + uptoBulkEntries r
def uptoBulkEntry {H : Type} : Lit × DataW H → Nat
  | (.string bytes, d) => bytes.length + uptoBulk d + 1
  | (_, d) => uptoBulk d + 1
 end
def uptoSmall : (H : Type) → List (DataW H) → Bool := fun _ ds => decide (uptoBulkAll ds ≤ 1048576)
def OpenSpec.upto (s : _root_.Go.ChangeSpec) : _root_.Go.OpenSpec := { _root_.Go.OpenSpec.ofChange s with cond := some uptoSmall }

/-- 'laws.FnChanges', WHERE WHAT IT READS IS OF BULK AT MOST 1048576: true; the input reads as it did. -/
def fnChangesUptoRow : OpenClaim := { program := "ytejggpejmooegaa", sum := "5383259a08a9aed104c30a1105f1489f244a2f02326877cf30ac85cef115e827", func := "loop.example/blockboxes/laws.FnChanges", spec := "fnChanges", plainKeys := false, apart := false, narrowed := true }
def FnChangesUptoSaid : Prop := fnChangesUptoRow.holds Try.pinned (OpenSpec.upto fnChangesSpec)

/-- 'laws.FnTokenStep', WHERE WHAT IT READS IS OF BULK AT MOST 1048576: true; the input reads as it did. -/
def fnTokenStepUptoRow : OpenClaim := { program := "ytejggpejmooegaa", sum := "5383259a08a9aed104c30a1105f1489f244a2f02326877cf30ac85cef115e827", func := "loop.example/blockboxes/laws.FnTokenStep", spec := "fnTokenStep", plainKeys := false, apart := false, narrowed := true }
def FnTokenStepUptoSaid : Prop := fnTokenStepUptoRow.holds Try.pinned (OpenSpec.upto fnTokenStepSpec)

/-- 'laws.FnDirections', WHERE WHAT IT READS IS OF BULK AT MOST 1048576: true; the input reads as it did. -/
def fnDirectionsUptoRow : OpenClaim := { program := "ytejggpejmooegaa", sum := "5383259a08a9aed104c30a1105f1489f244a2f02326877cf30ac85cef115e827", func := "loop.example/blockboxes/laws.FnDirections", spec := "fnDirections", plainKeys := false, apart := false, narrowed := true }
def FnDirectionsUptoSaid : Prop := fnDirectionsUptoRow.holds Try.pinned (OpenSpec.upto fnDirectionsSpec)

/-- 'laws.FnTokenNeeds', WHERE WHAT IT READS IS OF BULK AT MOST 1048576: true; the input reads as it did. -/
def fnTokenNeedsUptoRow : OpenClaim := { program := "ytejggpejmooegaa", sum := "5383259a08a9aed104c30a1105f1489f244a2f02326877cf30ac85cef115e827", func := "loop.example/blockboxes/laws.FnTokenNeeds", spec := "fnTokenNeeds", plainKeys := false, apart := false, narrowed := true }
def FnTokenNeedsUptoSaid : Prop := fnTokenNeedsUptoRow.holds Try.pinned (OpenSpec.upto fnTokenNeedsSpec)

/-- 'laws.FnStaffMany', WHERE WHAT IT READS IS OF BULK AT MOST 1048576: true; the input reads as it did. -/
def fnStaffManyUptoRow : OpenClaim := { program := "ytejggpejmooegaa", sum := "5383259a08a9aed104c30a1105f1489f244a2f02326877cf30ac85cef115e827", func := "loop.example/blockboxes/laws.FnStaffMany", spec := "fnStaffMany", plainKeys := false, apart := false, narrowed := true }
def FnStaffManyUptoSaid : Prop := fnStaffManyUptoRow.holds Try.pinned (OpenSpec.upto fnStaffManySpec)

/-- 'laws.FnExactTokenMany', WHERE WHAT IT READS IS OF BULK AT MOST 1048576: true; the input reads as it did. -/
def fnExactTokenManyUptoRow : OpenClaim := { program := "ytejggpejmooegaa", sum := "5383259a08a9aed104c30a1105f1489f244a2f02326877cf30ac85cef115e827", func := "loop.example/blockboxes/laws.FnExactTokenMany", spec := "fnExactTokenMany", recurses := true, plainKeys := false, apart := false, narrowed := true }
def FnExactTokenManyUptoSaid : Prop := fnExactTokenManyUptoRow.holds Try.pinned (OpenSpec.upto fnExactTokenManySpec)

/-- 'laws.FnTokenRun', WHERE WHAT IT READS IS OF BULK AT MOST 1048576: true; the input reads as it did. -/
def fnTokenRunUptoRow : OpenClaim := { program := "ytejggpejmooegaa", sum := "5383259a08a9aed104c30a1105f1489f244a2f02326877cf30ac85cef115e827", func := "loop.example/blockboxes/laws.FnTokenRun", spec := "fnTokenRun", plainKeys := false, apart := false, narrowed := true }
def FnTokenRunUptoSaid : Prop := fnTokenRunUptoRow.holds Try.pinned (OpenSpec.upto fnTokenRunSpec)

/-- 'laws.FnStaffRun', WHERE WHAT IT READS IS OF BULK AT MOST 1048576: true; the input reads as it did. -/
def fnStaffRunUptoRow : OpenClaim := { program := "ytejggpejmooegaa", sum := "5383259a08a9aed104c30a1105f1489f244a2f02326877cf30ac85cef115e827", func := "loop.example/blockboxes/laws.FnStaffRun", spec := "fnStaffRun", plainKeys := false, apart := false, narrowed := true }
def FnStaffRunUptoSaid : Prop := fnStaffRunUptoRow.holds Try.pinned (OpenSpec.upto fnStaffRunSpec)

/-- 'laws.FnTokenMany', WHERE WHAT IT READS IS OF BULK AT MOST 1048576: true; the input reads as it did. -/
def fnTokenManyUptoRow : OpenClaim := { program := "ytejggpejmooegaa", sum := "5383259a08a9aed104c30a1105f1489f244a2f02326877cf30ac85cef115e827", func := "loop.example/blockboxes/laws.FnTokenMany", spec := "fnTokenMany", recurses := true, plainKeys := false, apart := false, narrowed := true }
def FnTokenManyUptoSaid : Prop := fnTokenManyUptoRow.holds Try.pinned (OpenSpec.upto fnTokenManySpec)

/-- 'laws.FnStaffKinds', WHERE WHAT IT READS IS OF BULK AT MOST 1048576: true; the input reads as it did. -/
def fnStaffKindsUptoRow : OpenClaim := { program := "ytejggpejmooegaa", sum := "5383259a08a9aed104c30a1105f1489f244a2f02326877cf30ac85cef115e827", func := "loop.example/blockboxes/laws.FnStaffKinds", spec := "fnStaffKinds", plainKeys := false, apart := false, narrowed := true }
def FnStaffKindsUptoSaid : Prop := fnStaffKindsUptoRow.holds Try.pinned (OpenSpec.upto fnStaffKindsSpec)

/-- 'laws.FnTokenTrains', WHERE WHAT IT READS IS OF BULK AT MOST 1048576: true; the input reads as it did. -/
def fnTokenTrainsUptoRow : OpenClaim := { program := "ytejggpejmooegaa", sum := "5383259a08a9aed104c30a1105f1489f244a2f02326877cf30ac85cef115e827", func := "loop.example/blockboxes/laws.FnTokenTrains", spec := "fnTokenTrains", inPlace := ["internal/abi.NoEscape"], plainKeys := false, apart := false, narrowed := true }
def FnTokenTrainsUptoSaid : Prop := fnTokenTrainsUptoRow.holds Try.pinned (OpenSpec.upto fnTokenTrainsSpec)

/-- 'laws.FnTokenCarry', WHERE WHAT IT READS IS OF BULK AT MOST 1048576: true; the input reads as it did. -/
def fnTokenCarryUptoRow : OpenClaim := { program := "ytejggpejmooegaa", sum := "5383259a08a9aed104c30a1105f1489f244a2f02326877cf30ac85cef115e827", func := "loop.example/blockboxes/laws.FnTokenCarry", spec := "fnTokenCarry", inPlace := ["internal/abi.NoEscape"], plainKeys := false, apart := false, narrowed := true }
def FnTokenCarryUptoSaid : Prop := fnTokenCarryUptoRow.holds Try.pinned (OpenSpec.upto fnTokenCarrySpec)

end Rows
end Go.Proofs.Ytejggpejmooegaa
