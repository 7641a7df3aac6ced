/-
  Contracts of the small functions on paths by value: szPath, toPath, eqPath, markPath, heldPath.
-/
import Derived.Test.YtjppkcfbhhjniaaPathI
namespace Go.Proofs.Ytjppkcfbhhjniaa
open Go.RowKit
set_option linter.unusedVariables false

/-- A path has been made. -/
def NewPath (w : World) (n1 : Nat) (f1 : Nat → Int) (n2 : Nat) (f2 : Nat → Int) (e : Ending) (w' : World) : Prop :=
  ∃ b1 b2 : Nat, e = .returned (.agg #[.slice (some ⟨b1, 0, none⟩) n1 n1, .slice (some ⟨b2, 0, none⟩) n2 n2]) ∧ OwP w' w.heap.size w'.heap.size (some ⟨b1, 0, none⟩) n1 f1 (some ⟨b2, 0, none⟩) n2 f2 ∧ Below w.heap.size w w'
/-- The same, told of the two blocks. -/
def NewPath2 (w : World) (n1 : Nat) (f1 : Nat → Int) (n2 : Nat) (f2 : Nat → Int) (e : Ending) (w' : World) : Prop :=
  ∃ b1 b2 : Nat, e = .returned (.agg #[.slice (some ⟨b1, 0, none⟩) n1 n1, .slice (some ⟨b2, 0, none⟩) n2 n2]) ∧ (w.heap.size ≤ b1 ∧ b1 < b2 ∧ b2 < w'.heap.size) ∧ Ow w' b1 (some ⟨b1, 0, none⟩) n1 f1 ∧ Ow w' b2 (some ⟨b2, 0, none⟩) n2 f2 ∧ Below w.heap.size w w'
/-- eqPath. -/
def eqP (n1 : Nat) (f1 : Nat → Int) (n2 : Nat) (f2 : Nat → Int) (m1 : Nat) (g1 : Nat → Int) (m2 : Nat) (g2 : Nat → Int) : Bool := eqI n1 f1 m1 g1 && eqI n2 f2 m2 g2
theorem eqP_self (n1 : Nat) (f1 : Nat → Int) (n2 : Nat) (f2 : Nat → Int) : eqP n1 f1 n2 f2 n1 f1 n2 f2 = true := by simp [eqP, eqI_self]
theorem eqP_no1 {n1 m1 n2 m2 : Nat} {f1 g1 f2 g2 : Nat → Int} (h : eqI n1 f1 m1 g1 = false) : eqP n1 f1 n2 f2 m1 g1 m2 g2 = false := by simp [eqP, h]
theorem eqP_no2 {n1 m1 n2 m2 : Nat} {f1 g1 f2 g2 : Nat → Int} (h : eqI n2 f2 m2 g2 = false) : eqP n1 f1 n2 f2 m1 g1 m2 g2 = false := by simp [eqP, h]
theorem eqP_yes {n1 m1 n2 m2 : Nat} {f1 g1 f2 g2 : Nat → Int} (h : eqI n1 f1 m1 g1 = true) (h2 : eqI n2 f2 m2 g2 = true) : eqP n1 f1 n2 f2 m1 g1 m2 g2 = true := by simp [eqP, h, h2]
end Go.Proofs.Ytjppkcfbhhjniaa
