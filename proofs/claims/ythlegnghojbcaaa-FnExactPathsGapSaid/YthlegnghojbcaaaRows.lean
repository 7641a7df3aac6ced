/-
  No cell of these rows narrows 'for every input' (looked for: loops, veiled, ifaces, maps, wideKeys, modest, calm, conditions, laid).
  DERIVED. THE GIVEN ROWS OF THIS SEAT. 9 by the template 'for every input the law returns true; each argument reads behind the call as it read before'; 0 by the template 'total and deterministic' (their statements: YthlegnghojbcaaaTotals.lean).
  GIVEN WITH THE SEED: the statements are not yours to turn. If you find one false, say at which input.
  Laid BY PROGRAM, IN A SANDBOX (cutbox-rows.mjs): the forced cells as the released guide's own fill.sh prints them over the translation 904c5f08030f60fb… (all of the seat's roots in one cut). By AI agents, Wed Nov 11 2026. No macro, syntax, notation, axiom, sorry.
-/
import Derived.Test.YthlegnghojbcaaaChecked
import GoSem.Claim
import GoSem.ClaimJoined
import GoSem.ClaimMapViews
import Derived.JoinedTies
import Derived.KernelRfl
namespace Go.Proofs.Ythlegnghojbcaaa
/- THE CELL 'sum', in the pinned program and in every row, IS THE sha256 OF THE DUMP (.gsa) THAT YthlegnghojbcaaaProg.lean LOADS. Nothing in Lean hashes anything: it is a label: what it is worth is what the hold of that sum in a sandbox is worth. -/
noncomputable def Try.pinned : Pinned := { name := "ythlegnghojbcaaa", sum := "904c5f08030f60fbff007141d92a21f1d1e8579da1f0b7b5e8653c97b28bb929", checked := Try.checked }
namespace Rows
def none {H : Type} : Left H := { results := [], args := [] }

/-- 'laws.FnExactPathLate': WHATEVER THE INPUT: true; the input reads as it did. -/
def fnExactPathLateSpec : ChangeSpec := { name := "fnExactPathLate", fn := fun _ => fun
  | [d1, d2, d3] => { results := [.lit (.bool true)], args := [d1, d2, d3] }
  | _ => none }
def fnExactPathLateRow : OpenClaim := { program := "ythlegnghojbcaaa", sum := "904c5f08030f60fbff007141d92a21f1d1e8579da1f0b7b5e8653c97b28bb929", func := "loop.example/blockboxes/laws.FnExactPathLate", spec := "fnExactPathLate", apart := false }
def FnExactPathLateSaid : Prop := fnExactPathLateRow.holds Try.pinned (OpenSpec.ofChange fnExactPathLateSpec)

/-- ITS FALSE NEIGHBOUR: 'it returns false'. Refute it at one input. -/
def fnExactPathLateWrong : ChangeSpec := { name := "fnExactPathLate", fn := fun _ => fun
  | [d1, d2, d3] => { results := [.lit (.bool false)], args := [d1, d2, d3] }
  | _ => none }
def FnExactPathLateWrongFalsely : Prop := fnExactPathLateRow.holds Try.pinned (OpenSpec.ofChange fnExactPathLateWrong)

/-- 'laws.FnExactPathsValid': WHATEVER THE INPUT: true; the input reads as it did. -/
def fnExactPathsValidSpec : ChangeSpec := { name := "fnExactPathsValid", fn := fun _ => fun
  | [d1, d2] => { results := [.lit (.bool true)], args := [d1, d2] }
  | _ => none }
def fnExactPathsValidRow : OpenClaim := { program := "ythlegnghojbcaaa", sum := "904c5f08030f60fbff007141d92a21f1d1e8579da1f0b7b5e8653c97b28bb929", func := "loop.example/blockboxes/laws.FnExactPathsValid", spec := "fnExactPathsValid", apart := false }
def FnExactPathsValidSaid : Prop := fnExactPathsValidRow.holds Try.pinned (OpenSpec.ofChange fnExactPathsValidSpec)

/-- ITS FALSE NEIGHBOUR: 'it returns false'. Refute it at one input. -/
def fnExactPathsValidWrong : ChangeSpec := { name := "fnExactPathsValid", fn := fun _ => fun
  | [d1, d2] => { results := [.lit (.bool false)], args := [d1, d2] }
  | _ => none }
def FnExactPathsValidWrongFalsely : Prop := fnExactPathsValidRow.holds Try.pinned (OpenSpec.ofChange fnExactPathsValidWrong)

/-- 'laws.FnExactPathsBusy': WHATEVER THE INPUT: true; the input reads as it did. -/
def fnExactPathsBusySpec : ChangeSpec := { name := "fnExactPathsBusy", fn := fun _ => fun
  | [d1, d2, d3] => { results := [.lit (.bool true)], args := [d1, d2, d3] }
  | _ => none }
def fnExactPathsBusyRow : OpenClaim := { program := "ythlegnghojbcaaa", sum := "904c5f08030f60fbff007141d92a21f1d1e8579da1f0b7b5e8653c97b28bb929", func := "loop.example/blockboxes/laws.FnExactPathsBusy", spec := "fnExactPathsBusy", apart := false }
def FnExactPathsBusySaid : Prop := fnExactPathsBusyRow.holds Try.pinned (OpenSpec.ofChange fnExactPathsBusySpec)

/-- ITS FALSE NEIGHBOUR: 'it returns false'. Refute it at one input. -/
def fnExactPathsBusyWrong : ChangeSpec := { name := "fnExactPathsBusy", fn := fun _ => fun
  | [d1, d2, d3] => { results := [.lit (.bool false)], args := [d1, d2, d3] }
  | _ => none }
def FnExactPathsBusyWrongFalsely : Prop := fnExactPathsBusyRow.holds Try.pinned (OpenSpec.ofChange fnExactPathsBusyWrong)

/-- 'laws.FnExactPathsPasses': WHATEVER THE INPUT: true; the input reads as it did. -/
def fnExactPathsPassesSpec : ChangeSpec := { name := "fnExactPathsPasses", fn := fun _ => fun
  | [d1, d2] => { results := [.lit (.bool true)], args := [d1, d2] }
  | _ => none }
def fnExactPathsPassesRow : OpenClaim := { program := "ythlegnghojbcaaa", sum := "904c5f08030f60fbff007141d92a21f1d1e8579da1f0b7b5e8653c97b28bb929", func := "loop.example/blockboxes/laws.FnExactPathsPasses", spec := "fnExactPathsPasses", apart := false }
def FnExactPathsPassesSaid : Prop := fnExactPathsPassesRow.holds Try.pinned (OpenSpec.ofChange fnExactPathsPassesSpec)

/-- ITS FALSE NEIGHBOUR: 'it returns false'. Refute it at one input. -/
def fnExactPathsPassesWrong : ChangeSpec := { name := "fnExactPathsPasses", fn := fun _ => fun
  | [d1, d2] => { results := [.lit (.bool false)], args := [d1, d2] }
  | _ => none }
def FnExactPathsPassesWrongFalsely : Prop := fnExactPathsPassesRow.holds Try.pinned (OpenSpec.ofChange fnExactPathsPassesWrong)

/-- 'laws.FnExactPathsFree': WHATEVER THE INPUT: true; the input reads as it did. -/
def fnExactPathsFreeSpec : ChangeSpec := { name := "fnExactPathsFree", fn := fun _ => fun
  | [d1, d2, d3, d4, d5] => { results := [.lit (.bool true)], args := [d1, d2, d3, d4, d5] }
  | _ => none }
def fnExactPathsFreeRow : OpenClaim := { program := "ythlegnghojbcaaa", sum := "904c5f08030f60fbff007141d92a21f1d1e8579da1f0b7b5e8653c97b28bb929", func := "loop.example/blockboxes/laws.FnExactPathsFree", spec := "fnExactPathsFree", unfollowed := true, recurses := true, apart := false }
def FnExactPathsFreeSaid : Prop := fnExactPathsFreeRow.holds Try.pinned (OpenSpec.ofChange fnExactPathsFreeSpec)

/-- ITS FALSE NEIGHBOUR: 'it returns false'. Refute it at one input. -/
def fnExactPathsFreeWrong : ChangeSpec := { name := "fnExactPathsFree", fn := fun _ => fun
  | [d1, d2, d3, d4, d5] => { results := [.lit (.bool false)], args := [d1, d2, d3, d4, d5] }
  | _ => none }
def FnExactPathsFreeWrongFalsely : Prop := fnExactPathsFreeRow.holds Try.pinned (OpenSpec.ofChange fnExactPathsFreeWrong)

/-- 'laws.FnExactPathsFit': WHATEVER THE INPUT: true; the input reads as it did. -/
def fnExactPathsFitSpec : ChangeSpec := { name := "fnExactPathsFit", fn := fun _ => fun
  | [d1, d2, d3, d4] => { results := [.lit (.bool true)], args := [d1, d2, d3, d4] }
  | _ => none }
def fnExactPathsFitRow : OpenClaim := { program := "ythlegnghojbcaaa", sum := "904c5f08030f60fbff007141d92a21f1d1e8579da1f0b7b5e8653c97b28bb929", func := "loop.example/blockboxes/laws.FnExactPathsFit", spec := "fnExactPathsFit", unfollowed := true, recurses := true, apart := false }
def FnExactPathsFitSaid : Prop := fnExactPathsFitRow.holds Try.pinned (OpenSpec.ofChange fnExactPathsFitSpec)

/-- ITS FALSE NEIGHBOUR: 'it returns false'. Refute it at one input. -/
def fnExactPathsFitWrong : ChangeSpec := { name := "fnExactPathsFit", fn := fun _ => fun
  | [d1, d2, d3, d4] => { results := [.lit (.bool false)], args := [d1, d2, d3, d4] }
  | _ => none }
def FnExactPathsFitWrongFalsely : Prop := fnExactPathsFitRow.holds Try.pinned (OpenSpec.ofChange fnExactPathsFitWrong)

/-- 'laws.FnExactPathsAdd': WHATEVER THE INPUT: true; the input reads as it did. -/
def fnExactPathsAddSpec : ChangeSpec := { name := "fnExactPathsAdd", fn := fun _ => fun
  | [d1, d2, d3, d4] => { results := [.lit (.bool true)], args := [d1, d2, d3, d4] }
  | _ => none }
def fnExactPathsAddRow : OpenClaim := { program := "ythlegnghojbcaaa", sum := "904c5f08030f60fbff007141d92a21f1d1e8579da1f0b7b5e8653c97b28bb929", func := "loop.example/blockboxes/laws.FnExactPathsAdd", spec := "fnExactPathsAdd", unfollowed := true, recurses := true, apart := false }
def FnExactPathsAddSaid : Prop := fnExactPathsAddRow.holds Try.pinned (OpenSpec.ofChange fnExactPathsAddSpec)

/-- ITS FALSE NEIGHBOUR: 'it returns false'. Refute it at one input. -/
def fnExactPathsAddWrong : ChangeSpec := { name := "fnExactPathsAdd", fn := fun _ => fun
  | [d1, d2, d3, d4] => { results := [.lit (.bool false)], args := [d1, d2, d3, d4] }
  | _ => none }
def FnExactPathsAddWrongFalsely : Prop := fnExactPathsAddRow.holds Try.pinned (OpenSpec.ofChange fnExactPathsAddWrong)

/-- 'laws.FnExactPathsGap': WHATEVER THE INPUT: true; the input reads as it did. -/
def fnExactPathsGapSpec : ChangeSpec := { name := "fnExactPathsGap", fn := fun _ => fun
  | [d1, d2, d3] => { results := [.lit (.bool true)], args := [d1, d2, d3] }
  | _ => none }
def fnExactPathsGapRow : OpenClaim := { program := "ythlegnghojbcaaa", sum := "904c5f08030f60fbff007141d92a21f1d1e8579da1f0b7b5e8653c97b28bb929", func := "loop.example/blockboxes/laws.FnExactPathsGap", spec := "fnExactPathsGap", unfollowed := true, recurses := true, apart := false }
def FnExactPathsGapSaid : Prop := fnExactPathsGapRow.holds Try.pinned (OpenSpec.ofChange fnExactPathsGapSpec)

/-- ITS FALSE NEIGHBOUR: 'it returns false'. Refute it at one input. -/
def fnExactPathsGapWrong : ChangeSpec := { name := "fnExactPathsGap", fn := fun _ => fun
  | [d1, d2, d3] => { results := [.lit (.bool false)], args := [d1, d2, d3] }
  | _ => none }
def FnExactPathsGapWrongFalsely : Prop := fnExactPathsGapRow.holds Try.pinned (OpenSpec.ofChange fnExactPathsGapWrong)

/-- 'laws.FnExactPathsOrder': WHATEVER THE INPUT: true; the input reads as it did. -/
def fnExactPathsOrderSpec : ChangeSpec := { name := "fnExactPathsOrder", fn := fun _ => fun
  | [d1, d2, d3] => { results := [.lit (.bool true)], args := [d1, d2, d3] }
  | _ => none }
def fnExactPathsOrderRow : OpenClaim := { program := "ythlegnghojbcaaa", sum := "904c5f08030f60fbff007141d92a21f1d1e8579da1f0b7b5e8653c97b28bb929", func := "loop.example/blockboxes/laws.FnExactPathsOrder", spec := "fnExactPathsOrder", unfollowed := true, recurses := true, apart := false }
def FnExactPathsOrderSaid : Prop := fnExactPathsOrderRow.holds Try.pinned (OpenSpec.ofChange fnExactPathsOrderSpec)

/-- ITS FALSE NEIGHBOUR: 'it returns false'. Refute it at one input. -/
def fnExactPathsOrderWrong : ChangeSpec := { name := "fnExactPathsOrder", fn := fun _ => fun
  | [d1, d2, d3] => { results := [.lit (.bool false)], args := [d1, d2, d3] }
  | _ => none }
def FnExactPathsOrderWrongFalsely : Prop := fnExactPathsOrderRow.holds Try.pinned (OpenSpec.ofChange fnExactPathsOrderWrong)

/- THE SECOND FORM. 'bulk': how many values and letters a reading holds, each counted each time it is reached (what is shared counts as often as it is met; a slice's spare places count too). A statement '..UptoSaid' is the law's where the arguments, and the package variables that the reading takes, are together of bulk at most 1048576: NARROWER than '..Said'. Prove '..Said' where nothing that the law and all that it calls make is longer than what came in: it says more and counts as full. Else prove '..UptoSaid'. A law counts once. -/
mutual
def uptoBulk {H : Type} : DataW H → Nat
  | .lit (.string bytes) => bytes.length + 1
  | .lit _ => 1
  | .nil => 1
  | .ptr d => uptoBulk d + 1
  | .slice elems spare => uptoBulkAll elems + uptoBulkAll spare + 1
  | .agg parts => uptoBulkAll parts + 1
  | .iface _ d => uptoBulk d + 1
  | .map entries => uptoBulkEntries entries + 1
  | .held _ => 1
def uptoBulkAll {H : Type} : List (DataW H) → Nat
  | [] => 0
  | d :: r => uptoBulk d + uptoBulkAll r
def uptoBulkEntries {H : Type} : List (Lit × DataW H) → Nat
  | [] => 0
  | x :: r => uptoBulkEntry x + uptoBulkEntries r
def uptoBulkEntry {H : Type} : Lit × DataW H → Nat
  | (.string bytes, d) => bytes.length + uptoBulk d + 1
  | (_, d) => uptoBulk d + 1
 end
def uptoSmall : (H : Type) → List (DataW H) → Bool := fun _ ds => decide (uptoBulkAll ds ≤ 1048576)
def OpenSpec.upto (s : _root_.Go.ChangeSpec) : _root_.Go.OpenSpec := { _root_.Go.OpenSpec.ofChange s with cond := some uptoSmall }

/-- 'laws.FnExactPathLate', WHERE WHAT IT READS IS OF BULK AT MOST 1048576: true; the input reads as it did. -/
def fnExactPathLateUptoRow : OpenClaim := { program := "ythlegnghojbcaaa", sum := "904c5f08030f60fbff007141d92a21f1d1e8579da1f0b7b5e8653c97b28bb929", func := "loop.example/blockboxes/laws.FnExactPathLate", spec := "fnExactPathLate", apart := false, narrowed := true }
def FnExactPathLateUptoSaid : Prop := fnExactPathLateUptoRow.holds Try.pinned (OpenSpec.upto fnExactPathLateSpec)

/-- 'laws.FnExactPathsValid', WHERE WHAT IT READS IS OF BULK AT MOST 1048576: true; the input reads as it did. -/
def fnExactPathsValidUptoRow : OpenClaim := { program := "ythlegnghojbcaaa", sum := "904c5f08030f60fbff007141d92a21f1d1e8579da1f0b7b5e8653c97b28bb929", func := "loop.example/blockboxes/laws.FnExactPathsValid", spec := "fnExactPathsValid", apart := false, narrowed := true }
def FnExactPathsValidUptoSaid : Prop := fnExactPathsValidUptoRow.holds Try.pinned (OpenSpec.upto fnExactPathsValidSpec)

/-- 'laws.FnExactPathsBusy', WHERE WHAT IT READS IS OF BULK AT MOST 1048576: true; the input reads as it did. -/
def fnExactPathsBusyUptoRow : OpenClaim := { program := "ythlegnghojbcaaa", sum := "904c5f08030f60fbff007141d92a21f1d1e8579da1f0b7b5e8653c97b28bb929", func := "loop.example/blockboxes/laws.FnExactPathsBusy", spec := "fnExactPathsBusy", apart := false, narrowed := true }
def FnExactPathsBusyUptoSaid : Prop := fnExactPathsBusyUptoRow.holds Try.pinned (OpenSpec.upto fnExactPathsBusySpec)

/-- 'laws.FnExactPathsPasses', WHERE WHAT IT READS IS OF BULK AT MOST 1048576: true; the input reads as it did. -/
def fnExactPathsPassesUptoRow : OpenClaim := { program := "ythlegnghojbcaaa", sum := "904c5f08030f60fbff007141d92a21f1d1e8579da1f0b7b5e8653c97b28bb929", func := "loop.example/blockboxes/laws.FnExactPathsPasses", spec := "fnExactPathsPasses", apart := false, narrowed := true }
def FnExactPathsPassesUptoSaid : Prop := fnExactPathsPassesUptoRow.holds Try.pinned (OpenSpec.upto fnExactPathsPassesSpec)

/-- 'laws.FnExactPathsFree', WHERE WHAT IT READS IS OF BULK AT MOST 1048576: true; the input reads as it did. -/
def fnExactPathsFreeUptoRow : OpenClaim := { program := "ythlegnghojbcaaa", sum := "904c5f08030f60fbff007141d92a21f1d1e8579da1f0b7b5e8653c97b28bb929", func := "loop.example/blockboxes/laws.FnExactPathsFree", spec := "fnExactPathsFree", unfollowed := true, recurses := true, apart := false, narrowed := true }
def FnExactPathsFreeUptoSaid : Prop := fnExactPathsFreeUptoRow.holds Try.pinned (OpenSpec.upto fnExactPathsFreeSpec)

/-- 'laws.FnExactPathsFit', WHERE WHAT IT READS IS OF BULK AT MOST 1048576: true; the input reads as it did. -/
def fnExactPathsFitUptoRow : OpenClaim := { program := "ythlegnghojbcaaa", sum := "904c5f08030f60fbff007141d92a21f1d1e8579da1f0b7b5e8653c97b28bb929", func := "loop.example/blockboxes/laws.FnExactPathsFit", spec := "fnExactPathsFit", unfollowed := true, recurses := true, apart := false, narrowed := true }
def FnExactPathsFitUptoSaid : Prop := fnExactPathsFitUptoRow.holds Try.pinned (OpenSpec.upto fnExactPathsFitSpec)

/-- 'laws.FnExactPathsAdd', WHERE WHAT IT READS IS OF BULK AT MOST 1048576: true; the input reads as it did. -/
def fnExactPathsAddUptoRow : OpenClaim := { program := "ythlegnghojbcaaa", sum := "904c5f08030f60fbff007141d92a21f1d1e8579da1f0b7b5e8653c97b28bb929", func := "loop.example/blockboxes/laws.FnExactPathsAdd", spec := "fnExactPathsAdd", unfollowed := true, recurses := true, apart := false, narrowed := true }
def FnExactPathsAddUptoSaid : Prop := fnExactPathsAddUptoRow.holds Try.pinned (OpenSpec.upto fnExactPathsAddSpec)

/-- 'laws.FnExactPathsGap', WHERE WHAT IT READS IS OF BULK AT MOST 1048576: true; the input reads as it did. -/
def fnExactPathsGapUptoRow : OpenClaim := { program := "ythlegnghojbcaaa", sum := "904c5f08030f60fbff007141d92a21f1d1e8579da1f0b7b5e8653c97b28bb929", func := "loop.example/blockboxes/laws.FnExactPathsGap", spec := "fnExactPathsGap", unfollowed := true, recurses := true, apart := false, narrowed := true }
def FnExactPathsGapUptoSaid : Prop := fnExactPathsGapUptoRow.holds Try.pinned (OpenSpec.upto fnExactPathsGapSpec)

/-- 'laws.FnExactPathsOrder', WHERE WHAT IT READS IS OF BULK AT MOST 1048576: true; the input reads as it did. -/
def fnExactPathsOrderUptoRow : OpenClaim := { program := "ythlegnghojbcaaa", sum := "904c5f08030f60fbff007141d92a21f1d1e8579da1f0b7b5e8653c97b28bb929", func := "loop.example/blockboxes/laws.FnExactPathsOrder", spec := "fnExactPathsOrder", unfollowed := true, recurses := true, apart := false, narrowed := true }
def FnExactPathsOrderUptoSaid : Prop := fnExactPathsOrderUptoRow.holds Try.pinned (OpenSpec.upto fnExactPathsOrderSpec)

end Rows
end Go.Proofs.Ythlegnghojbcaaa
