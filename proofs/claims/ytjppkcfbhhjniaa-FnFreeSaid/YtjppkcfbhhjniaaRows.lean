/-
  No cell of these rows narrows 'for every input' (looked for: loops, veiled, ifaces, maps, wideKeys, modest, calm, conditions, laid).
  DERIVED. THE GIVEN ROWS OF THIS SEAT. 11 by the template 'for every input the law returns true; each argument reads behind the call as it read before'; 0 by the template 'total and deterministic' (their statements: YtjppkcfbhhjniaaTotals.lean).
  GIVEN WITH THE SEED: the statements are not yours to turn. If you find one false, say at which input.
  Laid BY PROGRAM, IN A SANDBOX (cutbox-rows.mjs): the forced cells as the released guide's own fill.sh prints them over the translation bf746073abd8ad01… (all of the seat's roots in one cut). By AI agents, Wed Nov 11 2026. No macro, syntax, notation, axiom, sorry.
-/
import Derived.Test.YtjppkcfbhhjniaaChecked
import GoSem.Claim
import GoSem.ClaimJoined
import GoSem.ClaimMapViews
import Derived.JoinedTies
import Derived.KernelRfl
namespace Go.Proofs.Ytjppkcfbhhjniaa
/- THE CELL 'sum', in the pinned program and in every row, IS THE sha256 OF THE DUMP (.gsa) THAT YtjppkcfbhhjniaaProg.lean LOADS. Nothing in Lean hashes anything: it is a label: what it is worth is what the hold of that sum in a sandbox is worth. -/
noncomputable def Try.pinned : Pinned := { name := "ytjppkcfbhhjniaa", sum := "bf746073abd8ad0103e250a41545122a73d28104fb9bec311ca33c0dc4dd0bcf", checked := Try.checked }
namespace Rows
def none {H : Type} : Left H := { results := [], args := [] }

/-- 'laws.FnBusy': WHATEVER THE INPUT: true; the input reads as it did. -/
def fnBusySpec : ChangeSpec := { name := "fnBusy", fn := fun _ => fun
  | [d] => { results := [.lit (.bool true)], args := [d] }
  | _ => none }
def fnBusyRow : OpenClaim := { program := "ytjppkcfbhhjniaa", sum := "bf746073abd8ad0103e250a41545122a73d28104fb9bec311ca33c0dc4dd0bcf", func := "loop.example/blockboxes/laws.FnBusy", spec := "fnBusy", unfollowed := true, recurses := true, apart := false }
def FnBusySaid : Prop := fnBusyRow.holds Try.pinned (OpenSpec.ofChange fnBusySpec)

/-- ITS FALSE NEIGHBOUR: 'it returns false'. Refute it at one input. -/
def fnBusyWrong : ChangeSpec := { name := "fnBusy", fn := fun _ => fun
  | [d] => { results := [.lit (.bool false)], args := [d] }
  | _ => none }
def FnBusyWrongFalsely : Prop := fnBusyRow.holds Try.pinned (OpenSpec.ofChange fnBusyWrong)

/-- 'laws.FnPasses': WHATEVER THE INPUT: true; the input reads as it did. -/
def fnPassesSpec : ChangeSpec := { name := "fnPasses", fn := fun _ => fun
  | [d] => { results := [.lit (.bool true)], args := [d] }
  | _ => none }
def fnPassesRow : OpenClaim := { program := "ytjppkcfbhhjniaa", sum := "bf746073abd8ad0103e250a41545122a73d28104fb9bec311ca33c0dc4dd0bcf", func := "loop.example/blockboxes/laws.FnPasses", spec := "fnPasses", unfollowed := true, recurses := true, apart := false }
def FnPassesSaid : Prop := fnPassesRow.holds Try.pinned (OpenSpec.ofChange fnPassesSpec)

/-- ITS FALSE NEIGHBOUR: 'it returns false'. Refute it at one input. -/
def fnPassesWrong : ChangeSpec := { name := "fnPasses", fn := fun _ => fun
  | [d] => { results := [.lit (.bool false)], args := [d] }
  | _ => none }
def FnPassesWrongFalsely : Prop := fnPassesRow.holds Try.pinned (OpenSpec.ofChange fnPassesWrong)

/-- 'laws.FnAddPath': WHATEVER THE INPUT: true; the input reads as it did. -/
def fnAddPathSpec : ChangeSpec := { name := "fnAddPath", fn := fun _ => fun
  | [d] => { results := [.lit (.bool true)], args := [d] }
  | _ => none }
def fnAddPathRow : OpenClaim := { program := "ytjppkcfbhhjniaa", sum := "bf746073abd8ad0103e250a41545122a73d28104fb9bec311ca33c0dc4dd0bcf", func := "loop.example/blockboxes/laws.FnAddPath", spec := "fnAddPath", unfollowed := true, recurses := true, apart := false }
def FnAddPathSaid : Prop := fnAddPathRow.holds Try.pinned (OpenSpec.ofChange fnAddPathSpec)

/-- ITS FALSE NEIGHBOUR: 'it returns false'. Refute it at one input. -/
def fnAddPathWrong : ChangeSpec := { name := "fnAddPath", fn := fun _ => fun
  | [d] => { results := [.lit (.bool false)], args := [d] }
  | _ => none }
def FnAddPathWrongFalsely : Prop := fnAddPathRow.holds Try.pinned (OpenSpec.ofChange fnAddPathWrong)

/-- 'laws.FnPathLate': WHATEVER THE INPUT: true; the input reads as it did. -/
def fnPathLateSpec : ChangeSpec := { name := "fnPathLate", fn := fun _ => fun
  | [d] => { results := [.lit (.bool true)], args := [d] }
  | _ => none }
def fnPathLateRow : OpenClaim := { program := "ytjppkcfbhhjniaa", sum := "bf746073abd8ad0103e250a41545122a73d28104fb9bec311ca33c0dc4dd0bcf", func := "loop.example/blockboxes/laws.FnPathLate", spec := "fnPathLate", apart := false }
def FnPathLateSaid : Prop := fnPathLateRow.holds Try.pinned (OpenSpec.ofChange fnPathLateSpec)

/-- ITS FALSE NEIGHBOUR: 'it returns false'. Refute it at one input. -/
def fnPathLateWrong : ChangeSpec := { name := "fnPathLate", fn := fun _ => fun
  | [d] => { results := [.lit (.bool false)], args := [d] }
  | _ => none }
def FnPathLateWrongFalsely : Prop := fnPathLateRow.holds Try.pinned (OpenSpec.ofChange fnPathLateWrong)

/-- 'laws.FnPathClash': WHATEVER THE INPUT: true; the input reads as it did. -/
def fnPathClashSpec : ChangeSpec := { name := "fnPathClash", fn := fun _ => fun
  | [d] => { results := [.lit (.bool true)], args := [d] }
  | _ => none }
def fnPathClashRow : OpenClaim := { program := "ytjppkcfbhhjniaa", sum := "bf746073abd8ad0103e250a41545122a73d28104fb9bec311ca33c0dc4dd0bcf", func := "loop.example/blockboxes/laws.FnPathClash", spec := "fnPathClash", apart := false }
def FnPathClashSaid : Prop := fnPathClashRow.holds Try.pinned (OpenSpec.ofChange fnPathClashSpec)

/-- ITS FALSE NEIGHBOUR: 'it returns false'. Refute it at one input. -/
def fnPathClashWrong : ChangeSpec := { name := "fnPathClash", fn := fun _ => fun
  | [d] => { results := [.lit (.bool false)], args := [d] }
  | _ => none }
def FnPathClashWrongFalsely : Prop := fnPathClashRow.holds Try.pinned (OpenSpec.ofChange fnPathClashWrong)

/-- 'laws.FnPaths': WHATEVER THE INPUT: true; the input reads as it did. -/
def fnPathsSpec : ChangeSpec := { name := "fnPaths", fn := fun _ => fun
  | [d1, d2] => { results := [.lit (.bool true)], args := [d1, d2] }
  | _ => none }
def fnPathsRow : OpenClaim := { program := "ytjppkcfbhhjniaa", sum := "bf746073abd8ad0103e250a41545122a73d28104fb9bec311ca33c0dc4dd0bcf", func := "loop.example/blockboxes/laws.FnPaths", spec := "fnPaths", apart := false }
def FnPathsSaid : Prop := fnPathsRow.holds Try.pinned (OpenSpec.ofChange fnPathsSpec)

/-- ITS FALSE NEIGHBOUR: 'it returns false'. Refute it at one input. -/
def fnPathsWrong : ChangeSpec := { name := "fnPaths", fn := fun _ => fun
  | [d1, d2] => { results := [.lit (.bool false)], args := [d1, d2] }
  | _ => none }
def FnPathsWrongFalsely : Prop := fnPathsRow.holds Try.pinned (OpenSpec.ofChange fnPathsWrong)

/-- 'laws.FnFree': WHATEVER THE INPUT: true; the input reads as it did. -/
def fnFreeSpec : ChangeSpec := { name := "fnFree", fn := fun _ => fun
  | [d] => { results := [.lit (.bool true)], args := [d] }
  | _ => none }
def fnFreeRow : OpenClaim := { program := "ytjppkcfbhhjniaa", sum := "bf746073abd8ad0103e250a41545122a73d28104fb9bec311ca33c0dc4dd0bcf", func := "loop.example/blockboxes/laws.FnFree", spec := "fnFree", unfollowed := true, recurses := true, apart := false }
def FnFreeSaid : Prop := fnFreeRow.holds Try.pinned (OpenSpec.ofChange fnFreeSpec)

/-- ITS FALSE NEIGHBOUR: 'it returns false'. Refute it at one input. -/
def fnFreeWrong : ChangeSpec := { name := "fnFree", fn := fun _ => fun
  | [d] => { results := [.lit (.bool false)], args := [d] }
  | _ => none }
def FnFreeWrongFalsely : Prop := fnFreeRow.holds Try.pinned (OpenSpec.ofChange fnFreeWrong)

/-- 'laws.FnFit': WHATEVER THE INPUT: true; the input reads as it did. -/
def fnFitSpec : ChangeSpec := { name := "fnFit", fn := fun _ => fun
  | [d1, d2] => { results := [.lit (.bool true)], args := [d1, d2] }
  | _ => none }
def fnFitRow : OpenClaim := { program := "ytjppkcfbhhjniaa", sum := "bf746073abd8ad0103e250a41545122a73d28104fb9bec311ca33c0dc4dd0bcf", func := "loop.example/blockboxes/laws.FnFit", spec := "fnFit", unfollowed := true, recurses := true, apart := false }
def FnFitSaid : Prop := fnFitRow.holds Try.pinned (OpenSpec.ofChange fnFitSpec)

/-- ITS FALSE NEIGHBOUR: 'it returns false'. Refute it at one input. -/
def fnFitWrong : ChangeSpec := { name := "fnFit", fn := fun _ => fun
  | [d1, d2] => { results := [.lit (.bool false)], args := [d1, d2] }
  | _ => none }
def FnFitWrongFalsely : Prop := fnFitRow.holds Try.pinned (OpenSpec.ofChange fnFitWrong)

/-- 'laws.FnFitFewer': WHATEVER THE INPUT: true; the input reads as it did. -/
def fnFitFewerSpec : ChangeSpec := { name := "fnFitFewer", fn := fun _ => fun
  | [d1, d2] => { results := [.lit (.bool true)], args := [d1, d2] }
  | _ => none }
def fnFitFewerRow : OpenClaim := { program := "ytjppkcfbhhjniaa", sum := "bf746073abd8ad0103e250a41545122a73d28104fb9bec311ca33c0dc4dd0bcf", func := "loop.example/blockboxes/laws.FnFitFewer", spec := "fnFitFewer", unfollowed := true, recurses := true, apart := false }
def FnFitFewerSaid : Prop := fnFitFewerRow.holds Try.pinned (OpenSpec.ofChange fnFitFewerSpec)

/-- ITS FALSE NEIGHBOUR: 'it returns false'. Refute it at one input. -/
def fnFitFewerWrong : ChangeSpec := { name := "fnFitFewer", fn := fun _ => fun
  | [d1, d2] => { results := [.lit (.bool false)], args := [d1, d2] }
  | _ => none }
def FnFitFewerWrongFalsely : Prop := fnFitFewerRow.holds Try.pinned (OpenSpec.ofChange fnFitFewerWrong)

/-- 'laws.FnPathsOrder': WHATEVER THE INPUT: true; the input reads as it did. -/
def fnPathsOrderSpec : ChangeSpec := { name := "fnPathsOrder", fn := fun _ => fun
  | [d] => { results := [.lit (.bool true)], args := [d] }
  | _ => none }
def fnPathsOrderRow : OpenClaim := { program := "ytjppkcfbhhjniaa", sum := "bf746073abd8ad0103e250a41545122a73d28104fb9bec311ca33c0dc4dd0bcf", func := "loop.example/blockboxes/laws.FnPathsOrder", spec := "fnPathsOrder", unfollowed := true, recurses := true, apart := false }
def FnPathsOrderSaid : Prop := fnPathsOrderRow.holds Try.pinned (OpenSpec.ofChange fnPathsOrderSpec)

/-- ITS FALSE NEIGHBOUR: 'it returns false'. Refute it at one input. -/
def fnPathsOrderWrong : ChangeSpec := { name := "fnPathsOrder", fn := fun _ => fun
  | [d] => { results := [.lit (.bool false)], args := [d] }
  | _ => none }
def FnPathsOrderWrongFalsely : Prop := fnPathsOrderRow.holds Try.pinned (OpenSpec.ofChange fnPathsOrderWrong)

/-- 'laws.FnGap': WHATEVER THE INPUT: true; the input reads as it did. -/
def fnGapSpec : ChangeSpec := { name := "fnGap", fn := fun _ => fun
  | [d] => { results := [.lit (.bool true)], args := [d] }
  | _ => none }
def fnGapRow : OpenClaim := { program := "ytjppkcfbhhjniaa", sum := "bf746073abd8ad0103e250a41545122a73d28104fb9bec311ca33c0dc4dd0bcf", func := "loop.example/blockboxes/laws.FnGap", spec := "fnGap", unfollowed := true, recurses := true, apart := false }
def FnGapSaid : Prop := fnGapRow.holds Try.pinned (OpenSpec.ofChange fnGapSpec)

/-- ITS FALSE NEIGHBOUR: 'it returns false'. Refute it at one input. -/
def fnGapWrong : ChangeSpec := { name := "fnGap", fn := fun _ => fun
  | [d] => { results := [.lit (.bool false)], args := [d] }
  | _ => none }
def FnGapWrongFalsely : Prop := fnGapRow.holds Try.pinned (OpenSpec.ofChange fnGapWrong)

/- THE SECOND FORM. 'bulk': how many values and letters a reading holds, each counted each time it is reached (what is shared counts as often as it is met; a slice's spare places count too). A statement '..UptoSaid' is the law's where the arguments, and the package variables that the reading takes, are together of bulk at most 1048576: NARROWER than '..Said'. Prove '..Said' where nothing that the law and all that it calls make is longer than what came in: it says more and counts as full. Else prove '..UptoSaid'. A law counts once. -/
mutual
def uptoBulk {H : Type} : DataW H → Nat
  | .lit (.string bytes) => bytes.length + 1
  | .lit _ => 1
  | .nil => 1
  | .ptr d => uptoBulk d + 1
  | .slice elems spare => uptoBulkAll elems + uptoBulkAll spare + 1
  | .agg parts => uptoBulkAll parts + 1
  | .iface _ d => uptoBulk d + 1
  | .map entries => uptoBulkEntries entries + 1
  | .held _ => 1
def uptoBulkAll {H : Type} : List (DataW H) → Nat
  | [] => 0
  | d :: r => uptoBulk d + uptoBulkAll r
def uptoBulkEntries {H : Type} : List (Lit × DataW H) → Nat
  | [] => 0
  | x :: r => uptoBulkEntry x + uptoBulkEntries r
def uptoBulkEntry {H : Type} : Lit × DataW H → Nat
  | (.string bytes, d) => bytes.length + uptoBulk d + 1
  | (_, d) => uptoBulk d + 1
 end
def uptoSmall : (H : Type) → List (DataW H) → Bool := fun _ ds => decide (uptoBulkAll ds ≤ 1048576)
def OpenSpec.upto (s : _root_.Go.ChangeSpec) : _root_.Go.OpenSpec := { _root_.Go.OpenSpec.ofChange s with cond := some uptoSmall }

/-- 'laws.FnBusy', WHERE WHAT IT READS IS OF BULK AT MOST 1048576: true; the input reads as it did. -/
def fnBusyUptoRow : OpenClaim := { program := "ytjppkcfbhhjniaa", sum := "bf746073abd8ad0103e250a41545122a73d28104fb9bec311ca33c0dc4dd0bcf", func := "loop.example/blockboxes/laws.FnBusy", spec := "fnBusy", unfollowed := true, recurses := true, apart := false, narrowed := true }
def FnBusyUptoSaid : Prop := fnBusyUptoRow.holds Try.pinned (OpenSpec.upto fnBusySpec)

/-- 'laws.FnPasses', WHERE WHAT IT READS IS OF BULK AT MOST 1048576: true; the input reads as it did. -/
def fnPassesUptoRow : OpenClaim := { program := "ytjppkcfbhhjniaa", sum := "bf746073abd8ad0103e250a41545122a73d28104fb9bec311ca33c0dc4dd0bcf", func := "loop.example/blockboxes/laws.FnPasses", spec := "fnPasses", unfollowed := true, recurses := true, apart := false, narrowed := true }
def FnPassesUptoSaid : Prop := fnPassesUptoRow.holds Try.pinned (OpenSpec.upto fnPassesSpec)

/-- 'laws.FnAddPath', WHERE WHAT IT READS IS OF BULK AT MOST 1048576: true; the input reads as it did. -/
def fnAddPathUptoRow : OpenClaim := { program := "ytjppkcfbhhjniaa", sum := "bf746073abd8ad0103e250a41545122a73d28104fb9bec311ca33c0dc4dd0bcf", func := "loop.example/blockboxes/laws.FnAddPath", spec := "fnAddPath", unfollowed := true, recurses := true, apart := false, narrowed := true }
def FnAddPathUptoSaid : Prop := fnAddPathUptoRow.holds Try.pinned (OpenSpec.upto fnAddPathSpec)

/-- 'laws.FnPathLate', WHERE WHAT IT READS IS OF BULK AT MOST 1048576: true; the input reads as it did. -/
def fnPathLateUptoRow : OpenClaim := { program := "ytjppkcfbhhjniaa", sum := "bf746073abd8ad0103e250a41545122a73d28104fb9bec311ca33c0dc4dd0bcf", func := "loop.example/blockboxes/laws.FnPathLate", spec := "fnPathLate", apart := false, narrowed := true }
def FnPathLateUptoSaid : Prop := fnPathLateUptoRow.holds Try.pinned (OpenSpec.upto fnPathLateSpec)

/-- 'laws.FnPathClash', WHERE WHAT IT READS IS OF BULK AT MOST 1048576: true; the input reads as it did. -/
def fnPathClashUptoRow : OpenClaim := { program := "ytjppkcfbhhjniaa", sum := "bf746073abd8ad0103e250a41545122a73d28104fb9bec311ca33c0dc4dd0bcf", func := "loop.example/blockboxes/laws.FnPathClash", spec := "fnPathClash", apart := false, narrowed := true }
def FnPathClashUptoSaid : Prop := fnPathClashUptoRow.holds Try.pinned (OpenSpec.upto fnPathClashSpec)

/-- 'laws.FnPaths', WHERE WHAT IT READS IS OF BULK AT MOST 1048576: true; the input reads as it did. -/
def fnPathsUptoRow : OpenClaim := { program := "ytjppkcfbhhjniaa", sum := "bf746073abd8ad0103e250a41545122a73d28104fb9bec311ca33c0dc4dd0bcf", func := "loop.example/blockboxes/laws.FnPaths", spec := "fnPaths", apart := false, narrowed := true }
def FnPathsUptoSaid : Prop := fnPathsUptoRow.holds Try.pinned (OpenSpec.upto fnPathsSpec)

/-- 'laws.FnFree', WHERE WHAT IT READS IS OF BULK AT MOST 1048576: true; the input reads as it did. -/
def fnFreeUptoRow : OpenClaim := { program := "ytjppkcfbhhjniaa", sum := "bf746073abd8ad0103e250a41545122a73d28104fb9bec311ca33c0dc4dd0bcf", func := "loop.example/blockboxes/laws.FnFree", spec := "fnFree", unfollowed := true, recurses := true, apart := false, narrowed := true }
def FnFreeUptoSaid : Prop := fnFreeUptoRow.holds Try.pinned (OpenSpec.upto fnFreeSpec)

/-- 'laws.FnFit', WHERE WHAT IT READS IS OF BULK AT MOST 1048576: true; the input reads as it did. -/
def fnFitUptoRow : OpenClaim := { program := "ytjppkcfbhhjniaa", sum := "bf746073abd8ad0103e250a41545122a73d28104fb9bec311ca33c0dc4dd0bcf", func := "loop.example/blockboxes/laws.FnFit", spec := "fnFit", unfollowed := true, recurses := true, apart := false, narrowed := true }
def FnFitUptoSaid : Prop := fnFitUptoRow.holds Try.pinned (OpenSpec.upto fnFitSpec)

/-- 'laws.FnFitFewer', WHERE WHAT IT READS IS OF BULK AT MOST 1048576: true; the input reads as it did. -/
def fnFitFewerUptoRow : OpenClaim := { program := "ytjppkcfbhhjniaa", sum := "bf746073abd8ad0103e250a41545122a73d28104fb9bec311ca33c0dc4dd0bcf", func := "loop.example/blockboxes/laws.FnFitFewer", spec := "fnFitFewer", unfollowed := true, recurses := true, apart := false, narrowed := true }
def FnFitFewerUptoSaid : Prop := fnFitFewerUptoRow.holds Try.pinned (OpenSpec.upto fnFitFewerSpec)

/-- 'laws.FnPathsOrder', WHERE WHAT IT READS IS OF BULK AT MOST 1048576: true; the input reads as it did. -/
def fnPathsOrderUptoRow : OpenClaim := { program := "ytjppkcfbhhjniaa", sum := "bf746073abd8ad0103e250a41545122a73d28104fb9bec311ca33c0dc4dd0bcf", func := "loop.example/blockboxes/laws.FnPathsOrder", spec := "fnPathsOrder", unfollowed := true, recurses := true, apart := false, narrowed := true }
def FnPathsOrderUptoSaid : Prop := fnPathsOrderUptoRow.holds Try.pinned (OpenSpec.upto fnPathsOrderSpec)

/-- 'laws.FnGap', WHERE WHAT IT READS IS OF BULK AT MOST 1048576: true; the input reads as it did. -/
def fnGapUptoRow : OpenClaim := { program := "ytjppkcfbhhjniaa", sum := "bf746073abd8ad0103e250a41545122a73d28104fb9bec311ca33c0dc4dd0bcf", func := "loop.example/blockboxes/laws.FnGap", spec := "fnGap", unfollowed := true, recurses := true, apart := false, narrowed := true }
def FnGapUptoSaid : Prop := fnGapUptoRow.holds Try.pinned (OpenSpec.upto fnGapSpec)

end Rows
end Go.Proofs.Ytjppkcfbhhjniaa
