/-
  Plain: a step of tokens.
-/
import Derived.Test.YtejggpejmooegaaTok3
namespace Go.Proofs.Ytejggpejmooegaa
open Go.RowKit

abbrev Tk := Int × Int × Int
/-- An event of a valid state. -/
def stepO (a b o : Int) (c : UInt8) : Option Tk :=
  if c = 97 ∧ o = 0 ∧ 0 < a then some (a - 1, b, 1)
  else if c = 98 ∧ o = 0 ∧ 0 < b then some (a, b - 1, 2)
  else if (c = 112 ∧ o = 1) ∨ (c = 113 ∧ o = 2) then some (a, b + 1, 0)
  else if (c = 112 ∧ o = 2) ∨ (c = 113 ∧ o = 1) then some (a + 1, b, 0)
  else none
/-- TokenStep. -/
def stepS (a b o : Int) (l : List UInt8) : Option Tk :=
  if tokV a b o = true then (match l with | [c] => stepO a b o c | _ => none) else none
/-- The answer as it is handed back. -/
def tkA (x : Option Tk) : Int := (x.getD (0, 0, 0)).1
def tkB (x : Option Tk) : Int := (x.getD (0, 0, 0)).2.1
def tkO (x : Option Tk) : Int := (x.getD (0, 0, 0)).2.2
def tkV (x : Option Tk) : Value := .agg #[.int .i64 (tkA x), .int .i64 (tkB x), .int .i64 (tkO x)]
theorem tkV_some (a b o : Int) : tkV (some (a, b, o)) = .agg #[.int .i64 a, .int .i64 b, .int .i64 o] := rfl
theorem tkV_none : tkV none = .agg #[.int .i64 0, .int .i64 0, .int .i64 0] := rfl
theorem byte_is {c d : UInt8} (h : (c.toNat : Int) = (d.toNat : Int)) : c = d := by
  rw [← UInt8.toNat_inj]; omega
theorem byte_isnt {c d : UInt8} (h : ¬ (c.toNat : Int) = (d.toNat : Int)) : ¬ c = d := by
  intro e; subst e; exact h rfl
theorem ret_tk {v w : Value} {x y : Bool} (h : v = w) (h2 : x = y) : Ending.returned (.tuple #[v, .bool x]) = .returned (.tuple #[w, .bool y]) := by rw [h, h2]
theorem step_a {a b o : Int} (ho : o = 0) (ha : 0 < a) : stepO a b o 97 = some (a - 1, b, 1) := if_pos ⟨rfl, ho, ha⟩
theorem step_a_no {a b o : Int} (h : ¬ (o = 0 ∧ 0 < a)) : stepO a b o 97 = none := by
  unfold stepO; rw [if_neg (fun x => h x.2), if_neg (by simp), if_neg (by simp), if_neg (by simp)]
theorem step_b {a b o : Int} (ho : o = 0) (hb : 0 < b) : stepO a b o 98 = some (a, b - 1, 2) := by
  unfold stepO; rw [if_neg (by simp), if_pos ⟨rfl, ho, hb⟩]
theorem step_b_no {a b o : Int} (h : ¬ (o = 0 ∧ 0 < b)) : stepO a b o 98 = none := by
  unfold stepO; rw [if_neg (by simp), if_neg (fun x => h x.2), if_neg (by simp), if_neg (by simp)]
theorem step_p1 {a b o : Int} (ho : o = 1) : stepO a b o 112 = some (a, b + 1, 0) := by
  unfold stepO; rw [if_neg (by simp), if_neg (by simp), if_pos (.inl ⟨rfl, ho⟩)]
theorem step_p2 {a b o : Int} (ho : o = 2) : stepO a b o 112 = some (a + 1, b, 0) := by
  subst ho; unfold stepO; rw [if_neg (by simp), if_neg (by simp), if_neg (by simp), if_pos (.inl ⟨rfl, rfl⟩)]
theorem step_p_no {a b o : Int} (h : ¬ o = 1) (h2 : ¬ o = 2) : stepO a b o 112 = none := by
  unfold stepO; rw [if_neg (by simp), if_neg (by simp), if_neg (by simp [h]), if_neg (by simp [h2])]
theorem step_q2 {a b o : Int} (ho : o = 2) : stepO a b o 113 = some (a, b + 1, 0) := by
  unfold stepO; rw [if_neg (by simp), if_neg (by simp), if_pos (.inr ⟨rfl, ho⟩)]
theorem step_q1 {a b o : Int} (ho : o = 1) : stepO a b o 113 = some (a + 1, b, 0) := by
  subst ho; unfold stepO; rw [if_neg (by simp), if_neg (by simp), if_neg (by simp), if_pos (.inr ⟨rfl, rfl⟩)]
theorem step_q_no {a b o : Int} (h : ¬ o = 1) (h2 : ¬ o = 2) : stepO a b o 113 = none := by
  unfold stepO; rw [if_neg (by simp), if_neg (by simp), if_neg (by simp [h2]), if_neg (by simp [h])]
theorem step_else {a b o : Int} {c : UInt8} (h1 : c ≠ 97) (h2 : c ≠ 98) (h3 : c ≠ 112) (h4 : c ≠ 113) : stepO a b o c = none := by
  unfold stepO; rw [if_neg (by simp [h1]), if_neg (by simp [h2]), if_neg (by simp [h3, h4]), if_neg (by simp [h3, h4])]
end Go.Proofs.Ytejggpejmooegaa
