/-
  Plain facts of FnTokenMany: the turned state has as many texts; the sum over the first letter.
-/
import Derived.Test.YtejggpejmooegaaTokMP
namespace Go.Proofs.Ytejggpejmooegaa
set_option linter.unusedVariables false

theorem many_turn : ∀ (k : Nat) (a b : Int), many k (a, b, 0) = many k (b, a, 0) ∧ many k (a, b, 1) = many k (b, a, 2) := by
  intro k
  induction k with
  | zero => intro a b; exact ⟨rfl, rfl⟩
  | succ k ih =>
    intro a b
    constructor
    · show sumO (many k) (a, b, 0) lets = sumO (many k) (b, a, 0) lets
      rw [sumO_0, sumO_0, (ih (a - 1) b).2, ← (ih (b - 1) a).2, Nat.add_comm]
    · show sumO (many k) (a, b, 1) lets = sumO (many k) (b, a, 2) lets
      rw [sumO_1 _ _ _ 1 (.inl rfl), sumO_1 _ _ _ 2 (.inr rfl), (ih (a + 1) b).1, (ih a (b + 1)).1, Nat.add_comm]
/-- The token that is out, turned. -/
def outT (o : Int) : Int := if o = 1 then 2 else if o = 2 then 1 else 0
theorem many_turned (k : Nat) {a b o : Int} (h : tokV a b o = true) : many k (b, a, outT o) = many k (a, b, o) := by
  have ho : o = 0 ∨ o = 1 ∨ o = 2 := vk_out (s := (a, b, o)) h
  rcases ho with rfl | rfl | rfl
  · exact (many_turn k b a).1
  · exact (many_turn k a b).2.symm
  · exact (many_turn k b a).2
theorem tokV_turned {a b o : Int} (h : tokV a b o = true) : tokV b a (outT o) = true := by
  have ho : o = 0 ∨ o = 1 ∨ o = 2 := vk_out (s := (a, b, o)) h
  have h := tokV_iff.1 h
  rw [tokV_iff]
  rcases ho with rfl | rfl | rfl
  · have : outT 0 = 0 := rfl
    omega
  · have : outT 1 = 2 := rfl
    omega
  · have : outT 2 = 1 := rfl
    omega
end Go.Proofs.Ytejggpejmooegaa
