/-
  Contract of heldPathS at paths that hold the marks.
-/
import Derived.Test.YtjppkcfbhhjniaaPathMk
namespace Go.Proofs.Ytjppkcfbhhjniaa
open Go.RowKit
set_option linter.unusedVariables false

/-- The marks from k0 on, path by path. -/
def marked (D : Nat → PD) (k0 : Int) (E : Nat → PD) (n : Nat) : Prop := ∀ i, i < n → (E i).m1 = (D i).m1 ∧ (E i).m2 = (D i).m2 ∧ (∀ j, j < (D i).m1 → (E i).f1 j = k0 + tot D i + j) ∧ (∀ j, j < (D i).m2 → (E i).f2 j = k0 + tot D i + (D i).m1 + j)
end Go.Proofs.Ytjppkcfbhhjniaa
