/-
  No cell of these rows narrows 'for every input' (looked for: loops, veiled, ifaces, maps, wideKeys, modest, calm, conditions, laid).
  DERIVED. THE GIVEN ROWS OF THIS SEAT. 9 by the template 'for every input the law returns true; each argument reads behind the call as it read before'; 0 by the template 'total and deterministic' (their statements: YtanfhgliilkhjaaTotals.lean).
  GIVEN WITH THE SEED: the statements are not yours to turn. If you find one false, say at which input.
  Laid BY PROGRAM, IN A SANDBOX (cutbox-rows.mjs): the forced cells as the released guide's own fill.sh prints them over the translation 0e6efdaf434e7374… (all of the seat's roots in one cut). By AI agents, Wed Nov 11 2026. No macro, syntax, notation, axiom, sorry.
-/
import Derived.Test.YtanfhgliilkhjaaChecked
import GoSem.Claim
import GoSem.ClaimJoined
import GoSem.ClaimMapViews
import Derived.JoinedTies
import Derived.KernelRfl
namespace Go.Proofs.Ytanfhgliilkhjaa
/- THE CELL 'sum', in the pinned program and in every row, IS THE sha256 OF THE DUMP (.gsa) THAT YtanfhgliilkhjaaProg.lean LOADS. Nothing in Lean hashes anything: it is a label: what it is worth is what the hold of that sum in a sandbox is worth. -/
noncomputable def Try.pinned : Pinned := { name := "ytanfhgliilkhjaa", sum := "0e6efdaf434e7374a1e08de2d580204c7a68b1f8f78fc333281224e5ed04499f", checked := Try.checked }
namespace Rows
def none {H : Type} : Left H := { results := [], args := [] }

/-- 'laws.FnExactBookRing': WHATEVER THE INPUT: true; the input reads as it did. -/
def fnExactBookRingSpec : ChangeSpec := { name := "fnExactBookRing", fn := fun _ => fun
  | [d1, d2] => { results := [.lit (.bool true)], args := [d1, d2] }
  | _ => none }
def fnExactBookRingRow : OpenClaim := { program := "ytanfhgliilkhjaa", sum := "0e6efdaf434e7374a1e08de2d580204c7a68b1f8f78fc333281224e5ed04499f", func := "loop.example/blockboxes/laws.FnExactBookRing", spec := "fnExactBookRing", apart := false }
def FnExactBookRingSaid : Prop := fnExactBookRingRow.holds Try.pinned (OpenSpec.ofChange fnExactBookRingSpec)

/-- ITS FALSE NEIGHBOUR: 'it returns false'. Refute it at one input. -/
def fnExactBookRingWrong : ChangeSpec := { name := "fnExactBookRing", fn := fun _ => fun
  | [d1, d2] => { results := [.lit (.bool false)], args := [d1, d2] }
  | _ => none }
def FnExactBookRingWrongFalsely : Prop := fnExactBookRingRow.holds Try.pinned (OpenSpec.ofChange fnExactBookRingWrong)

/-- 'laws.FnExactRegisterValid': WHATEVER THE INPUT: true; the input reads as it did. -/
def fnExactRegisterValidSpec : ChangeSpec := { name := "fnExactRegisterValid", fn := fun _ => fun
  | [d] => { results := [.lit (.bool true)], args := [d] }
  | _ => none }
def fnExactRegisterValidRow : OpenClaim := { program := "ytanfhgliilkhjaa", sum := "0e6efdaf434e7374a1e08de2d580204c7a68b1f8f78fc333281224e5ed04499f", func := "loop.example/blockboxes/laws.FnExactRegisterValid", spec := "fnExactRegisterValid", inPlace := ["internal/bytealg.IndexByteString", "internal/bytealg.IndexString"], named := ["internal/bytealg.MaxLen"], apart := false }
def FnExactRegisterValidSaid : Prop := fnExactRegisterValidRow.holds Try.pinned (OpenSpec.ofChange fnExactRegisterValidSpec)

/-- ITS FALSE NEIGHBOUR: 'it returns false'. Refute it at one input. -/
def fnExactRegisterValidWrong : ChangeSpec := { name := "fnExactRegisterValid", fn := fun _ => fun
  | [d] => { results := [.lit (.bool false)], args := [d] }
  | _ => none }
def FnExactRegisterValidWrongFalsely : Prop := fnExactRegisterValidRow.holds Try.pinned (OpenSpec.ofChange fnExactRegisterValidWrong)

/-- 'laws.FnBookRing': WHATEVER THE INPUT: true; the input reads as it did. -/
def fnBookRingSpec : ChangeSpec := { name := "fnBookRing", fn := fun _ => fun
  | [d1, d2] => { results := [.lit (.bool true)], args := [d1, d2] }
  | _ => none }
def fnBookRingRow : OpenClaim := { program := "ytanfhgliilkhjaa", sum := "0e6efdaf434e7374a1e08de2d580204c7a68b1f8f78fc333281224e5ed04499f", func := "loop.example/blockboxes/laws.FnBookRing", spec := "fnBookRing", recurses := true, apart := false }
def FnBookRingSaid : Prop := fnBookRingRow.holds Try.pinned (OpenSpec.ofChange fnBookRingSpec)

/-- ITS FALSE NEIGHBOUR: 'it returns false'. Refute it at one input. -/
def fnBookRingWrong : ChangeSpec := { name := "fnBookRing", fn := fun _ => fun
  | [d1, d2] => { results := [.lit (.bool false)], args := [d1, d2] }
  | _ => none }
def FnBookRingWrongFalsely : Prop := fnBookRingRow.holds Try.pinned (OpenSpec.ofChange fnBookRingWrong)

/-- 'laws.FnExactRegisterJoin': WHATEVER THE INPUT: true; the input reads as it did. -/
def fnExactRegisterJoinSpec : ChangeSpec := { name := "fnExactRegisterJoin", fn := fun _ => fun
  | [d1, d2] => { results := [.lit (.bool true)], args := [d1, d2] }
  | _ => none }
def fnExactRegisterJoinRow : OpenClaim := { program := "ytanfhgliilkhjaa", sum := "0e6efdaf434e7374a1e08de2d580204c7a68b1f8f78fc333281224e5ed04499f", func := "loop.example/blockboxes/laws.FnExactRegisterJoin", spec := "fnExactRegisterJoin", inPlace := ["internal/bytealg.IndexByteString", "internal/bytealg.IndexString"], named := ["internal/bytealg.MaxLen"], apart := false }
def FnExactRegisterJoinSaid : Prop := fnExactRegisterJoinRow.holds Try.pinned (OpenSpec.ofChange fnExactRegisterJoinSpec)

/-- ITS FALSE NEIGHBOUR: 'it returns false'. Refute it at one input. -/
def fnExactRegisterJoinWrong : ChangeSpec := { name := "fnExactRegisterJoin", fn := fun _ => fun
  | [d1, d2] => { results := [.lit (.bool false)], args := [d1, d2] }
  | _ => none }
def FnExactRegisterJoinWrongFalsely : Prop := fnExactRegisterJoinRow.holds Try.pinned (OpenSpec.ofChange fnExactRegisterJoinWrong)

/-- 'laws.FnBookClear': WHATEVER THE INPUT: true; the input reads as it did. -/
def fnBookClearSpec : ChangeSpec := { name := "fnBookClear", fn := fun _ => fun
  | [d1, d2] => { results := [.lit (.bool true)], args := [d1, d2] }
  | _ => none }
def fnBookClearRow : OpenClaim := { program := "ytanfhgliilkhjaa", sum := "0e6efdaf434e7374a1e08de2d580204c7a68b1f8f78fc333281224e5ed04499f", func := "loop.example/blockboxes/laws.FnBookClear", spec := "fnBookClear", recurses := true, apart := false }
def FnBookClearSaid : Prop := fnBookClearRow.holds Try.pinned (OpenSpec.ofChange fnBookClearSpec)

/-- ITS FALSE NEIGHBOUR: 'it returns false'. Refute it at one input. -/
def fnBookClearWrong : ChangeSpec := { name := "fnBookClear", fn := fun _ => fun
  | [d1, d2] => { results := [.lit (.bool false)], args := [d1, d2] }
  | _ => none }
def FnBookClearWrongFalsely : Prop := fnBookClearRow.holds Try.pinned (OpenSpec.ofChange fnBookClearWrong)

/-- 'laws.FnExactRegisterUntil': WHATEVER THE INPUT: true; the input reads as it did. -/
def fnExactRegisterUntilSpec : ChangeSpec := { name := "fnExactRegisterUntil", fn := fun _ => fun
  | [d1, d2] => { results := [.lit (.bool true)], args := [d1, d2] }
  | _ => none }
def fnExactRegisterUntilRow : OpenClaim := { program := "ytanfhgliilkhjaa", sum := "0e6efdaf434e7374a1e08de2d580204c7a68b1f8f78fc333281224e5ed04499f", func := "loop.example/blockboxes/laws.FnExactRegisterUntil", spec := "fnExactRegisterUntil", inPlace := ["internal/bytealg.IndexByteString", "internal/bytealg.IndexString"], named := ["internal/bytealg.MaxLen"], apart := false }
def FnExactRegisterUntilSaid : Prop := fnExactRegisterUntilRow.holds Try.pinned (OpenSpec.ofChange fnExactRegisterUntilSpec)

/-- ITS FALSE NEIGHBOUR: 'it returns false'. Refute it at one input. -/
def fnExactRegisterUntilWrong : ChangeSpec := { name := "fnExactRegisterUntil", fn := fun _ => fun
  | [d1, d2] => { results := [.lit (.bool false)], args := [d1, d2] }
  | _ => none }
def FnExactRegisterUntilWrongFalsely : Prop := fnExactRegisterUntilRow.holds Try.pinned (OpenSpec.ofChange fnExactRegisterUntilWrong)

/-- 'laws.FnExactRegisterLate': WHATEVER THE INPUT: true; the input reads as it did. -/
def fnExactRegisterLateSpec : ChangeSpec := { name := "fnExactRegisterLate", fn := fun _ => fun
  | [d1, d2] => { results := [.lit (.bool true)], args := [d1, d2] }
  | _ => none }
def fnExactRegisterLateRow : OpenClaim := { program := "ytanfhgliilkhjaa", sum := "0e6efdaf434e7374a1e08de2d580204c7a68b1f8f78fc333281224e5ed04499f", func := "loop.example/blockboxes/laws.FnExactRegisterLate", spec := "fnExactRegisterLate", inPlace := ["internal/bytealg.IndexByteString", "internal/bytealg.IndexString"], named := ["internal/bytealg.MaxLen"], apart := false }
def FnExactRegisterLateSaid : Prop := fnExactRegisterLateRow.holds Try.pinned (OpenSpec.ofChange fnExactRegisterLateSpec)

/-- ITS FALSE NEIGHBOUR: 'it returns false'. Refute it at one input. -/
def fnExactRegisterLateWrong : ChangeSpec := { name := "fnExactRegisterLate", fn := fun _ => fun
  | [d1, d2] => { results := [.lit (.bool false)], args := [d1, d2] }
  | _ => none }
def FnExactRegisterLateWrongFalsely : Prop := fnExactRegisterLateRow.holds Try.pinned (OpenSpec.ofChange fnExactRegisterLateWrong)

/-- 'laws.FnBookRead': WHATEVER THE INPUT: true; the input reads as it did. -/
def fnBookReadSpec : ChangeSpec := { name := "fnBookRead", fn := fun _ => fun
  | [d] => { results := [.lit (.bool true)], args := [d] }
  | _ => none }
def fnBookReadRow : OpenClaim := { program := "ytanfhgliilkhjaa", sum := "0e6efdaf434e7374a1e08de2d580204c7a68b1f8f78fc333281224e5ed04499f", func := "loop.example/blockboxes/laws.FnBookRead", spec := "fnBookRead", apart := false }
def FnBookReadSaid : Prop := fnBookReadRow.holds Try.pinned (OpenSpec.ofChange fnBookReadSpec)

/-- ITS FALSE NEIGHBOUR: 'it returns false'. Refute it at one input. -/
def fnBookReadWrong : ChangeSpec := { name := "fnBookRead", fn := fun _ => fun
  | [d] => { results := [.lit (.bool false)], args := [d] }
  | _ => none }
def FnBookReadWrongFalsely : Prop := fnBookReadRow.holds Try.pinned (OpenSpec.ofChange fnBookReadWrong)

/-- 'laws.FnExactRegisterOf': WHATEVER THE INPUT: true; the input reads as it did. -/
def fnExactRegisterOfSpec : ChangeSpec := { name := "fnExactRegisterOf", fn := fun _ => fun
  | [d1, d2, d3] => { results := [.lit (.bool true)], args := [d1, d2, d3] }
  | _ => none }
def fnExactRegisterOfRow : OpenClaim := { program := "ytanfhgliilkhjaa", sum := "0e6efdaf434e7374a1e08de2d580204c7a68b1f8f78fc333281224e5ed04499f", func := "loop.example/blockboxes/laws.FnExactRegisterOf", spec := "fnExactRegisterOf", inPlace := ["internal/bytealg.IndexByteString", "internal/bytealg.IndexString"], named := ["internal/bytealg.MaxLen"], apart := false }
def FnExactRegisterOfSaid : Prop := fnExactRegisterOfRow.holds Try.pinned (OpenSpec.ofChange fnExactRegisterOfSpec)

/-- ITS FALSE NEIGHBOUR: 'it returns false'. Refute it at one input. -/
def fnExactRegisterOfWrong : ChangeSpec := { name := "fnExactRegisterOf", fn := fun _ => fun
  | [d1, d2, d3] => { results := [.lit (.bool false)], args := [d1, d2, d3] }
  | _ => none }
def FnExactRegisterOfWrongFalsely : Prop := fnExactRegisterOfRow.holds Try.pinned (OpenSpec.ofChange fnExactRegisterOfWrong)

/- THE SECOND FORM. 'bulk': how many values and letters a reading holds, each counted each time it is reached (what is shared counts as often as it is met; a slice's spare places count too). A statement '..UptoSaid' is the law's where the arguments, and the package variables that the reading takes, are together of bulk at most 1048576: NARROWER than '..Said'. Prove '..Said' where nothing that the law and all that it calls make is longer than what came in: it says more and counts as full. Else prove '..UptoSaid'. A law counts once. -/
mutual
def uptoBulk {H : Type} : DataW H → Nat
  | .lit (.string bytes) => bytes.length + 1
  | .lit _ => 1
  | .nil => 1
  | .ptr d => uptoBulk d + 1
  | .slice elems spare => uptoBulkAll elems + uptoBulkAll spare + 1
  | .agg parts => uptoBulkAll parts + 1
  | .iface _ d => uptoBulk d + 1
  | .map entries => uptoBulkEntries entries + 1
  | .held _ => 1
def uptoBulkAll {H : Type} : List (DataW H) → Nat
  | [] => 0
  | d :: r => uptoBulk d + uptoBulkAll r
def uptoBulkEntries {H : Type} : List (Lit × DataW H) → Nat
  | [] => 0
  | x :: r => uptoBulkEntry x + uptoBulkEntries r
def uptoBulkEntry {H : Type} : Lit × DataW H → Nat
  | (.string bytes, d) => bytes.length + uptoBulk d + 1
  | (_, d) => uptoBulk d + 1
 end
def uptoSmall : (H : Type) → List (DataW H) → Bool := fun _ ds => decide (uptoBulkAll ds ≤ 1048576)
def OpenSpec.upto (s : _root_.Go.ChangeSpec) : _root_.Go.OpenSpec := { _root_.Go.OpenSpec.ofChange s with cond := some uptoSmall }

/-- 'laws.FnExactBookRing', WHERE WHAT IT READS IS OF BULK AT MOST 1048576: true; the input reads as it did. -/
def fnExactBookRingUptoRow : OpenClaim := { program := "ytanfhgliilkhjaa", sum := "0e6efdaf434e7374a1e08de2d580204c7a68b1f8f78fc333281224e5ed04499f", func := "loop.example/blockboxes/laws.FnExactBookRing", spec := "fnExactBookRing", apart := false, narrowed := true }
def FnExactBookRingUptoSaid : Prop := fnExactBookRingUptoRow.holds Try.pinned (OpenSpec.upto fnExactBookRingSpec)

/-- 'laws.FnExactRegisterValid', WHERE WHAT IT READS IS OF BULK AT MOST 1048576: true; the input reads as it did. -/
def fnExactRegisterValidUptoRow : OpenClaim := { program := "ytanfhgliilkhjaa", sum := "0e6efdaf434e7374a1e08de2d580204c7a68b1f8f78fc333281224e5ed04499f", func := "loop.example/blockboxes/laws.FnExactRegisterValid", spec := "fnExactRegisterValid", inPlace := ["internal/bytealg.IndexByteString", "internal/bytealg.IndexString"], named := ["internal/bytealg.MaxLen"], apart := false, narrowed := true }
def FnExactRegisterValidUptoSaid : Prop := fnExactRegisterValidUptoRow.holds Try.pinned (OpenSpec.upto fnExactRegisterValidSpec)

/-- 'laws.FnBookRing', WHERE WHAT IT READS IS OF BULK AT MOST 1048576: true; the input reads as it did. -/
def fnBookRingUptoRow : OpenClaim := { program := "ytanfhgliilkhjaa", sum := "0e6efdaf434e7374a1e08de2d580204c7a68b1f8f78fc333281224e5ed04499f", func := "loop.example/blockboxes/laws.FnBookRing", spec := "fnBookRing", recurses := true, apart := false, narrowed := true }
def FnBookRingUptoSaid : Prop := fnBookRingUptoRow.holds Try.pinned (OpenSpec.upto fnBookRingSpec)

/-- 'laws.FnExactRegisterJoin', WHERE WHAT IT READS IS OF BULK AT MOST 1048576: true; the input reads as it did. -/
def fnExactRegisterJoinUptoRow : OpenClaim := { program := "ytanfhgliilkhjaa", sum := "0e6efdaf434e7374a1e08de2d580204c7a68b1f8f78fc333281224e5ed04499f", func := "loop.example/blockboxes/laws.FnExactRegisterJoin", spec := "fnExactRegisterJoin", inPlace := ["internal/bytealg.IndexByteString", "internal/bytealg.IndexString"], named := ["internal/bytealg.MaxLen"], apart := false, narrowed := true }
def FnExactRegisterJoinUptoSaid : Prop := fnExactRegisterJoinUptoRow.holds Try.pinned (OpenSpec.upto fnExactRegisterJoinSpec)

/-- 'laws.FnBookClear', WHERE WHAT IT READS IS OF BULK AT MOST 1048576: true; the input reads as it did. -/
def fnBookClearUptoRow : OpenClaim := { program := "ytanfhgliilkhjaa", sum := "0e6efdaf434e7374a1e08de2d580204c7a68b1f8f78fc333281224e5ed04499f", func := "loop.example/blockboxes/laws.FnBookClear", spec := "fnBookClear", recurses := true, apart := false, narrowed := true }
def FnBookClearUptoSaid : Prop := fnBookClearUptoRow.holds Try.pinned (OpenSpec.upto fnBookClearSpec)

/-- 'laws.FnExactRegisterUntil', WHERE WHAT IT READS IS OF BULK AT MOST 1048576: true; the input reads as it did. -/
def fnExactRegisterUntilUptoRow : OpenClaim := { program := "ytanfhgliilkhjaa", sum := "0e6efdaf434e7374a1e08de2d580204c7a68b1f8f78fc333281224e5ed04499f", func := "loop.example/blockboxes/laws.FnExactRegisterUntil", spec := "fnExactRegisterUntil", inPlace := ["internal/bytealg.IndexByteString", "internal/bytealg.IndexString"], named := ["internal/bytealg.MaxLen"], apart := false, narrowed := true }
def FnExactRegisterUntilUptoSaid : Prop := fnExactRegisterUntilUptoRow.holds Try.pinned (OpenSpec.upto fnExactRegisterUntilSpec)

/-- 'laws.FnExactRegisterLate', WHERE WHAT IT READS IS OF BULK AT MOST 1048576: true; the input reads as it did. -/
def fnExactRegisterLateUptoRow : OpenClaim := { program := "ytanfhgliilkhjaa", sum := "0e6efdaf434e7374a1e08de2d580204c7a68b1f8f78fc333281224e5ed04499f", func := "loop.example/blockboxes/laws.FnExactRegisterLate", spec := "fnExactRegisterLate", inPlace := ["internal/bytealg.IndexByteString", "internal/bytealg.IndexString"], named := ["internal/bytealg.MaxLen"], apart := false, narrowed := true }
def FnExactRegisterLateUptoSaid : Prop := fnExactRegisterLateUptoRow.holds Try.pinned (OpenSpec.upto fnExactRegisterLateSpec)

/-- 'laws.FnBookRead', WHERE WHAT IT READS IS OF BULK AT MOST 1048576: true; the input reads as it did. -/
def fnBookReadUptoRow : OpenClaim := { program := "ytanfhgliilkhjaa", sum := "0e6efdaf434e7374a1e08de2d580204c7a68b1f8f78fc333281224e5ed04499f", func := "loop.example/blockboxes/laws.FnBookRead", spec := "fnBookRead", apart := false, narrowed := true }
def FnBookReadUptoSaid : Prop := fnBookReadUptoRow.holds Try.pinned (OpenSpec.upto fnBookReadSpec)

/-- 'laws.FnExactRegisterOf', WHERE WHAT IT READS IS OF BULK AT MOST 1048576: true; the input reads as it did. -/
def fnExactRegisterOfUptoRow : OpenClaim := { program := "ytanfhgliilkhjaa", sum := "0e6efdaf434e7374a1e08de2d580204c7a68b1f8f78fc333281224e5ed04499f", func := "loop.example/blockboxes/laws.FnExactRegisterOf", spec := "fnExactRegisterOf", inPlace := ["internal/bytealg.IndexByteString", "internal/bytealg.IndexString"], named := ["internal/bytealg.MaxLen"], apart := false, narrowed := true }
def FnExactRegisterOfUptoSaid : Prop := fnExactRegisterOfUptoRow.holds Try.pinned (OpenSpec.upto fnExactRegisterOfSpec)

end Rows
end Go.Proofs.Ytanfhgliilkhjaa
