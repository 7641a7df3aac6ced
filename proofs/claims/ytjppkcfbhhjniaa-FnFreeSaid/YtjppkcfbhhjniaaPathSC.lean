/-
  Contracts of the small functions on slices of paths: szPathS, toPathS, eqPathS.
-/
import Derived.Test.YtjppkcfbhhjniaaK1
import Derived.Test.YtjppkcfbhhjniaaPathH
import Derived.Deep.RegionHeld3
import Derived.Laws.MakeOwn
namespace Go.Proofs.Ytjppkcfbhhjniaa
open Go.RowKit
set_option linter.unusedVariables false

/-- How many numbers the first k paths have. -/
def tot (D : Nat → PD) : Nat → Nat
  | 0 => 0
  | k + 1 => tot D k + (D k).m1 + (D k).m2
theorem tot_mono (D : Nat → PD) {k m : Nat} (h : k ≤ m) : tot D k ≤ tot D m := by
  induction m with
  | zero => rw [show k = 0 by omega]; exact Nat.le_refl _
  | succ m ih =>
    by_cases e : k = m + 1
    · subst e; exact Nat.le_refl _
    · have := ih (by omega)
      show _ ≤ tot D m + (D m).m1 + (D m).m2
      omega
theorem tot_at (D : Nat → PD) {k n : Nat} (h : k < n) : (D k).m1 + (D k).m2 ≤ tot D n := by
  have := tot_mono D (show k + 1 ≤ n from h)
  have e : tot D (k + 1) = tot D k + (D k).m1 + (D k).m2 := rfl
  omega
/-- szPathS. -/
def szV (n : Nat) (D : Nat → PD) (left : Int) : Int := if (n : Int) + tot D n ≤ left then left - n - tot D n else -1
theorem szV_yes {n : Nat} {D : Nat → PD} {left : Int} (h : (n : Int) + tot D n ≤ left) : szV n D left = left - n - tot D n := if_pos h
theorem szV_no {n : Nat} {D : Nat → PD} {left : Int} (h : ¬ (n : Int) + tot D n ≤ left) : szV n D left = -1 := if_neg h
theorem pathInfo : (Try.prog.info? 31).map (fun i => (i.zero, i.size, i.bytes)) = some (some (.agg #[.slice none 0 0, .slice none 0 0]), 2, 48) := by kernel_rfl
theorem made2 (w : World) (z : Value) (n : Nat) (T : TypeId) : (w.alloc (.cells (madeCells #[z, z] n) T)).rowIs w.heap.size T n (fun _ => z) :=
  ⟨_, Go.Deep.blk_alloc_new _ _, size_madeCells _ _, fun i hi => by
    have h2 : i % 2 = 0 ∨ i % 2 = 1 := by omega
    rcases h2 with h2 | h2 <;> simp [madeCells, hi, h2]⟩
/-- A slice of paths has been made. -/
def NewPaths (w : World) (n : Nat) (D : Nat → PD) (e : Ending) (w' : World) : Prop := e = .returned (.slice (some ⟨w.heap.size, 0, none⟩) n n) ∧ PsPart w' 31 w.heap.size w'.heap.size w.heap.size n n D ∧ Below w.heap.size w w'
end Go.Proofs.Ytjppkcfbhhjniaa
