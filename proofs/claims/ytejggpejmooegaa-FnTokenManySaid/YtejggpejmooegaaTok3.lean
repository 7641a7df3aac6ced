/-
  Contracts of the functions on the state of tokens: l6In, TokenValid, toToken, eqToken.
-/
import Derived.Test.YtejggpejmooegaaTok1
import Derived.Handy
namespace Go.Proofs.Ytejggpejmooegaa
open Go.RowKit

/-- A step by what a contract leaves. -/
theorem bl {B : Nat} {w w1 w2 : World} (h : Below B w w1) (hB : B ≤ w.heap.size) (h2 : Below w1.heap.size w1 w2) : Below B w w2 :=
  h.trans (h2.mono (Nat.le_trans hB h.size))
theorem bcell {W w1 : World} (hb : Below W.heap.size W w1) : (∀ b o, b < W.heap.size → w1.cell? ⟨b, o, none⟩ = W.cell? ⟨b, o, none⟩) ∧ (∀ b o, b < W.heap.size → w1.frozen? ⟨b, o, none⟩ = W.frozen? ⟨b, o, none⟩) :=
  ⟨fun b o h => hb.cell (p := ⟨b, o, none⟩) h, fun b o h => hb.frozen (p := ⟨b, o, none⟩) h⟩
/-- l6In. -/
def inB (n lo hi : Int) : Bool := decide (lo ≤ n) && decide (n ≤ hi)
theorem inB_yes {n lo hi : Int} (h : lo ≤ n ∧ n ≤ hi) : inB n lo hi = true := by simp [inB, h]
theorem inB_no {n lo hi : Int} (h : ¬ (lo ≤ n ∧ n ≤ hi)) : inB n lo hi = false := by
  unfold inB; rw [Bool.and_eq_false_iff]; simp only [decide_eq_false_iff_not]; omega
/-- TokenValid. -/
def tokV (a b o : Int) : Bool := decide (0 ≤ a ∧ a ≤ 12 ∧ 0 ≤ b ∧ b ≤ 12 ∧ 0 ≤ o ∧ o ≤ 2 ∧ (0 < o → a + b + 1 ≤ 12) ∧ a + b ≤ 12)
theorem tokV_iff {a b o : Int} : tokV a b o = true ↔ (0 ≤ a ∧ a ≤ 12 ∧ 0 ≤ b ∧ b ≤ 12 ∧ 0 ≤ o ∧ o ≤ 2 ∧ (0 < o → a + b + 1 ≤ 12) ∧ a + b ≤ 12) := decide_eq_true_iff
theorem tokV_of {a b o : Int} {v : Bool} (h : v = true ↔ (0 ≤ a ∧ a ≤ 12 ∧ 0 ≤ b ∧ b ≤ 12 ∧ 0 ≤ o ∧ o ≤ 2 ∧ (0 < o → a + b + 1 ≤ 12) ∧ a + b ≤ 12)) : v = tokV a b o := by
  rw [Bool.eq_iff_iff, tokV_iff]; exact h
theorem tokV_yes {a b o : Int} (h : 0 ≤ a ∧ a ≤ 12 ∧ 0 ≤ b ∧ b ≤ 12 ∧ 0 ≤ o ∧ o ≤ 2 ∧ (0 < o → a + b + 1 ≤ 12) ∧ a + b ≤ 12) : tokV a b o = true := tokV_iff.2 h
theorem tokV_no {a b o : Int} (h : ¬ (0 ≤ a ∧ a ≤ 12 ∧ 0 ≤ b ∧ b ≤ 12 ∧ 0 ≤ o ∧ o ≤ 2 ∧ (0 < o → a + b + 1 ≤ 12) ∧ a + b ≤ 12)) : tokV a b o = false := by
  cases hc : tokV a b o
  · rfl
  · exact absurd (tokV_iff.1 hc) h

theorem sIn (n lo hi : Int) (w : World) :
    Calls Try.prog 63 #[.int .i64 n, .int .i64 lo, .int .i64 hi] w fun e w' => e = .returned (.bool (inB n lo hi)) ∧ w = w' := by
  by_cases h1 : lo ≤ n
  · by_cases h2 : n ≤ hi
    all_goals
      go_enter Try.func63, Try.ntmps63
      go_wp2
      go_ret
      exact ⟨ret_bool (by simp [inB]; omega), rfl⟩
  · go_enter Try.func63, Try.ntmps63
    go_wp2
    go_ret
    exact ⟨ret_bool (by simp [inB]; omega), rfl⟩
theorem sIn_yes (n lo hi : Int) (w : World) (h : lo ≤ n ∧ n ≤ hi) :
    Calls Try.prog 63 #[.int .i64 n, .int .i64 lo, .int .i64 hi] w fun e w' => e = .returned (.bool true) ∧ w = w' :=
  (sIn n lo hi w).mono fun _ _ ⟨he, hw⟩ => ⟨by rw [he, inB_yes h], hw⟩
theorem sIn_no (n lo hi : Int) (w : World) (h : ¬ (lo ≤ n ∧ n ≤ hi)) :
    Calls Try.prog 63 #[.int .i64 n, .int .i64 lo, .int .i64 hi] w fun e w' => e = .returned (.bool false) ∧ w = w' :=
  (sIn n lo hi w).mono fun _ _ ⟨he, hw⟩ => ⟨by rw [he, inB_no h], hw⟩

set_option maxHeartbeats 1000000 in
/-- The program's TokenValid. -/
theorem iTokV (a b o : Int) (w : World) :
    Calls Try.prog 21 #[.agg #[.int .i64 a, .int .i64 b, .int .i64 o]] w fun e w' => e = .returned (.bool (tokV a b o)) ∧ Below w.heap.size w w' := by
  have hc : a < 0 ∨ (0 ≤ a ∧ 12 < a) ∨ (0 ≤ a ∧ a ≤ 12 ∧ b < 0) ∨ (0 ≤ a ∧ a ≤ 12 ∧ 0 ≤ b ∧ 12 < b) ∨ (0 ≤ a ∧ a ≤ 12 ∧ 0 ≤ b ∧ b ≤ 12 ∧ o < 0) ∨ (0 ≤ a ∧ a ≤ 12 ∧ 0 ≤ b ∧ b ≤ 12 ∧ 0 ≤ o ∧ 2 < o) ∨
      (0 ≤ a ∧ a ≤ 12 ∧ 0 ≤ b ∧ b ≤ 12 ∧ 0 ≤ o ∧ o ≤ 2 ∧ o ≤ 0) ∨ (0 ≤ a ∧ a ≤ 12 ∧ 0 ≤ b ∧ b ≤ 12 ∧ 0 ≤ o ∧ o ≤ 2 ∧ 0 < o) := by omega
  rcases hc with h1 | ⟨h1, h2⟩ | ⟨h1, h2, h3⟩ | ⟨h1, h2, h3, h4⟩ | ⟨h1, h2, h3, h4, h5⟩ | ⟨h1, h2, h3, h4, h5, h6⟩ | ⟨h1, h2, h3, h4, h5, h6, h7⟩ | ⟨h1, h2, h3, h4, h5, h6, h7⟩
  all_goals
    go_enter Try.func21, Try.ntmps21
    go_wp2
    go_ret
    refine ⟨ret_bool (tokV_of ?_), by go_grown⟩
    first | (rw [decide_eq_true_iff]; omega) | (simp only [Bool.false_eq_true, false_iff]; omega)
set_option maxHeartbeats 1000000 in
/-- The reference's TokenValid. -/
theorem sTokV (a b o : Int) (w : World) :
    Calls Try.prog 58 #[.agg #[.int .i64 a, .int .i64 b, .int .i64 o]] w fun e w' => e = .returned (.bool (tokV a b o)) ∧ Below w.heap.size w w' := by
  have hc : ¬ (0 ≤ a ∧ a ≤ 12) ∨ ((0 ≤ a ∧ a ≤ 12) ∧ ¬ (0 ≤ b ∧ b ≤ 12)) ∨ ((0 ≤ a ∧ a ≤ 12) ∧ (0 ≤ b ∧ b ≤ 12) ∧ ¬ (0 ≤ o ∧ o ≤ 2)) ∨
      ((0 ≤ a ∧ a ≤ 12) ∧ (0 ≤ b ∧ b ≤ 12) ∧ (0 ≤ o ∧ o ≤ 2) ∧ o ≤ 0) ∨ ((0 ≤ a ∧ a ≤ 12) ∧ (0 ≤ b ∧ b ≤ 12) ∧ (0 ≤ o ∧ o ≤ 2) ∧ 0 < o) := by omega
  rcases hc with h1 | ⟨h1, h2⟩ | ⟨h1, h2, h3⟩ | ⟨h1, h2, h3, h4⟩ | ⟨h1, h2, h3, h4⟩
  · go_enter Try.func58, Try.ntmps58
    go_wp2_with (go_at_call 63; refine (sIn_no _ _ _ _ h1).mono ?_; rintro e w' ⟨rfl, rfl⟩)
    go_ret
    exact ⟨ret_bool (tokV_no (by omega)).symm, by go_grown⟩
  · go_enter Try.func58, Try.ntmps58
    go_wp2_with fail
    refine (sIn_yes _ _ _ _ h1).mono ?_
    rintro e w' ⟨rfl, rfl⟩
    go_wp2_with (go_at_call 63; refine (sIn_no _ _ _ _ h2).mono ?_; rintro e w' ⟨rfl, rfl⟩)
    go_ret
    exact ⟨ret_bool (tokV_no (by omega)).symm, by go_grown⟩
  · go_enter Try.func58, Try.ntmps58
    go_wp2_with fail
    refine (sIn_yes _ _ _ _ h1).mono ?_
    rintro e w' ⟨rfl, rfl⟩
    go_wp2_with fail
    refine (sIn_yes _ _ _ _ h2).mono ?_
    rintro e w' ⟨rfl, rfl⟩
    go_wp2_with (go_at_call 63; refine (sIn_no _ _ _ _ h3).mono ?_; rintro e w' ⟨rfl, rfl⟩)
    go_ret
    exact ⟨ret_bool (tokV_no (by omega)).symm, by go_grown⟩
  all_goals
    go_enter Try.func58, Try.ntmps58
    go_wp2_with fail
    refine (sIn_yes _ _ _ _ h1).mono ?_
    rintro e w' ⟨rfl, rfl⟩
    go_wp2_with fail
    refine (sIn_yes _ _ _ _ h2).mono ?_
    rintro e w' ⟨rfl, rfl⟩
    go_wp2_with (go_at_call 63; refine (sIn_yes _ _ _ _ h3).mono ?_; rintro e w' ⟨rfl, rfl⟩)
    go_ret
    refine ⟨ret_bool (tokV_of ?_), by go_grown⟩
    first | (rw [decide_eq_true_iff]; omega) | (simp only [Bool.false_eq_true, false_iff]; omega)
/-- toToken. -/
theorem toTok (a b o : Int) (w : World) :
    Calls Try.prog 34 #[.agg #[.int .i64 a, .int .i64 b, .int .i64 o]] w fun e w' => e = .returned (.agg #[.int .i64 a, .int .i64 b, .int .i64 o]) ∧ Below w.heap.size w w' := by
  go_enter Try.func34, Try.ntmps34
  go_wp2
  go_returns
  exact ⟨rfl, by go_grown⟩
/-- eqToken. -/
def eqT (a b o a' b' o' : Int) : Bool := decide (a = a' ∧ b = b' ∧ o = o')
theorem eqT_self (a b o : Int) : eqT a b o a b o = true := by simp [eqT]
end Go.Proofs.Ytejggpejmooegaa
