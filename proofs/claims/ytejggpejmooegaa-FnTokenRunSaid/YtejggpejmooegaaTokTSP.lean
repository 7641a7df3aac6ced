/-
  Plain: no token is lost in a step.
-/
import Derived.Test.YtejggpejmooegaaTokRP
import Derived.Test.YtejggpejmooegaaTokU
import Derived.Test.YtejggpejmooegaaTok4P
namespace Go.Proofs.Ytejggpejmooegaa
open Go.RowKit

def tokN (a b o : Int) : Int := if 0 < o then a + b + 1 else a + b
theorem stepO_facts {a b o : Int} {c : UInt8} {x y z : Int} (h : tokV a b o = true) (e : stepO a b o c = some (x, y, z)) : tokV x y z = true ∧ tokN x y z = tokN a b o ∧
    ((o = 0 ∧ 0 < z ∧ stepO x y z 113 = some (a, b, o)) ∨ (0 < o ∧ z = 0 ∧ (c = 112 ∨ c = 113))) := by
  have hv := stepO_valid h e
  rw [tokV_iff] at h
  refine ⟨hv, ?_⟩
  unfold stepO at e
  unfold tokN
  split at e
  · rename_i hc
    simp only [Option.some.injEq, Prod.mk.injEq] at e
    obtain ⟨rfl, rfl, rfl⟩ := e
    obtain ⟨_, rfl, _⟩ := hc
    refine ⟨by simp; omega, .inl ⟨rfl, by omega, ?_⟩⟩
    rw [step_q1 rfl, show a - 1 + 1 = a by omega]
  split at e
  · rename_i _ hc
    simp only [Option.some.injEq, Prod.mk.injEq] at e
    obtain ⟨rfl, rfl, rfl⟩ := e
    obtain ⟨_, rfl, _⟩ := hc
    refine ⟨by simp; omega, .inl ⟨rfl, by omega, ?_⟩⟩
    rw [step_q2 rfl, show b - 1 + 1 = b by omega]
  split at e
  · rename_i _ _ hc
    simp only [Option.some.injEq, Prod.mk.injEq] at e
    obtain ⟨rfl, rfl, rfl⟩ := e
    have ho : 0 < o := by omega
    refine ⟨by rw [if_neg (by omega), if_pos ho]; omega, .inr ⟨ho, rfl, ?_⟩⟩
    rcases hc with ⟨hc, _⟩ | ⟨hc, _⟩
    · exact .inl hc
    · exact .inr hc
  split at e
  · rename_i _ _ _ hc
    simp only [Option.some.injEq, Prod.mk.injEq] at e
    obtain ⟨rfl, rfl, rfl⟩ := e
    have ho : 0 < o := by omega
    refine ⟨by rw [if_neg (by omega), if_pos ho]; omega, .inr ⟨ho, rfl, ?_⟩⟩
    rcases hc with ⟨hc, _⟩ | ⟨hc, _⟩
    · exact .inl hc
    · exact .inr hc
  · cases e
end Go.Proofs.Ytejggpejmooegaa
