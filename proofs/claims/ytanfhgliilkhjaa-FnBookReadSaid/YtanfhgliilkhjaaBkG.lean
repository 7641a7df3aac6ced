/-
  Contracts of the reference's l1Groups, CodeValid.
-/
import Derived.Test.YtanfhgliilkhjaaBkS
namespace Go.Proofs.Ytanfhgliilkhjaa
open Go.RowKit Go.Deep
set_option linter.unusedVariables false

/-- l6In. -/
def inB (n lo hi : Int) : Bool := decide (lo ≤ n) && decide (n ≤ hi)
theorem inB_yes {n lo hi : Int} (h : lo ≤ n ∧ n ≤ hi) : inB n lo hi = true := by simp [inB, h]
theorem inB_no {n lo hi : Int} (h : ¬ (lo ≤ n ∧ n ≤ hi)) : inB n lo hi = false := by
  unfold inB; rw [Bool.and_eq_false_iff]; simp only [decide_eq_false_iff_not]; omega
/-- TokenValid. -/
def tokV (a b o : Int) : Bool := decide (0 ≤ a ∧ a ≤ 12 ∧ 0 ≤ b ∧ b ≤ 12 ∧ 0 ≤ o ∧ o ≤ 2 ∧ (0 < o → a + b + 1 ≤ 12) ∧ a + b ≤ 12)
theorem tokV_iff {a b o : Int} : tokV a b o = true ↔ (0 ≤ a ∧ a ≤ 12 ∧ 0 ≤ b ∧ b ≤ 12 ∧ 0 ≤ o ∧ o ≤ 2 ∧ (0 < o → a + b + 1 ≤ 12) ∧ a + b ≤ 12) := decide_eq_true_iff
theorem tokV_of {a b o : Int} {v : Bool} (h : v = true ↔ (0 ≤ a ∧ a ≤ 12 ∧ 0 ≤ b ∧ b ≤ 12 ∧ 0 ≤ o ∧ o ≤ 2 ∧ (0 < o → a + b + 1 ≤ 12) ∧ a + b ≤ 12)) : v = tokV a b o := by
  rw [Bool.eq_iff_iff, tokV_iff]; exact h
theorem tokV_yes {a b o : Int} (h : 0 ≤ a ∧ a ≤ 12 ∧ 0 ≤ b ∧ b ≤ 12 ∧ 0 ≤ o ∧ o ≤ 2 ∧ (0 < o → a + b + 1 ≤ 12) ∧ a + b ≤ 12) : tokV a b o = true := tokV_iff.2 h
theorem tokV_no {a b o : Int} (h : ¬ (0 ≤ a ∧ a ≤ 12 ∧ 0 ≤ b ∧ b ≤ 12 ∧ 0 ≤ o ∧ o ≤ 2 ∧ (0 < o → a + b + 1 ≤ 12) ∧ a + b ≤ 12)) : tokV a b o = false := by
  cases hc : tokV a b o
  · rfl
  · exact absurd (tokV_iff.1 hc) h

theorem sIn (n lo hi : Int) (w : World) :
    Calls Try.prog 53 #[.int .i64 n, .int .i64 lo, .int .i64 hi] w fun e w' => e = .returned (.bool (inB n lo hi)) ∧ w = w' := by
  by_cases h1 : lo ≤ n
  · by_cases h2 : n ≤ hi
    all_goals
      go_enter Try.func53, Try.ntmps53
      go_wp2
      go_ret
      exact ⟨ret_bool (by simp [inB]; omega), rfl⟩
  · go_enter Try.func53, Try.ntmps53
    go_wp2
    go_ret
    exact ⟨ret_bool (by simp [inB]; omega), rfl⟩
theorem sIn_yes (n lo hi : Int) (w : World) (h : lo ≤ n ∧ n ≤ hi) :
    Calls Try.prog 53 #[.int .i64 n, .int .i64 lo, .int .i64 hi] w fun e w' => e = .returned (.bool true) ∧ w = w' :=
  (sIn n lo hi w).mono fun _ _ ⟨he, hw⟩ => ⟨by rw [he, inB_yes h], hw⟩
theorem sIn_no (n lo hi : Int) (w : World) (h : ¬ (lo ≤ n ∧ n ≤ hi)) :
    Calls Try.prog 53 #[.int .i64 n, .int .i64 lo, .int .i64 hi] w fun e w' => e = .returned (.bool false) ∧ w = w' :=
  (sIn n lo hi w).mono fun _ _ ⟨he, hw⟩ => ⟨by rw [he, inB_no h], hw⟩

set_option maxHeartbeats 1000000 in
theorem sGroups (A : Option Addr) (n c : Nat) (f : Nat → Int) (lo hi : Nat) (w : World) (h : Rn w w.heap.size A n f) (hn : n ≤ 1048576) (v : Bool) (hv : Hid (v = true ↔ ((lo ≤ n ∧ n ≤ hi) ∧ grpV n f))) :
    Calls Try.prog 90 #[.slice A n c, .int .i64 (lo : Int), .int .i64 (hi : Int)] w fun e w' => e = .returned (.bool v) ∧ w' = w := by
  go_enter Try.func90, Try.ntmps90
  go_wp2
  go_loopw [7] (fun i wr => ∃ k : Nat, k ≤ n ∧ i = .int .i64 k ∧ Hid (grpV k f) ∧ wr = w) (fun i _ => n - (intOf i).toNat)
  case atStart => exact ⟨0, Nat.zero_le _, rfl, fun _ h => absurd h (by omega), rfl⟩
  case round =>
    obtain ⟨k, hk, rfl, hG, rfl⟩ := hrel
    by_cases hlt : k < n
    · obtain ⟨b, off, rfl, hbB, hc⟩ := h (by omega)
      have cx := hc k hlt
      have k0 : (0 : Int) ≤ (k : Int) := by omega
      have k1 : (k : Int) < (n : Int) := by omega
      by_cases hg : 1 ≤ f k ∧ f k ≤ 6
      · have hG2 : Hid (grpV (k + 1) f) := fun i hi => by
          by_cases e : i = k
          · subst e; exact hg
          · exact hG.out i (by omega)
        have HI := Lib.hid (sIn_yes (f k) 1 6 wr hg)
        clear hg hc
        go_wp2_with (go_at_call 53; refine HI.out.mono ?_; rintro e w' ⟨rfl, rfl⟩)
        go_roundw
        case rel => exact ⟨k + 1, by omega, by go_num, hG2, by trivial⟩
        case measure => simp [intOf]; omega
      · have hno : Hid (v = false) := by
          cases v
          · rfl
          · exact absurd ((hv.out.1 rfl).2 k hlt) hg
        have HI := Lib.hid (sIn_no (f k) 1 6 wr hg)
        clear hg hc hv
        go_wp2_with (go_at_call 53; refine HI.out.mono ?_; rintro e w' ⟨rfl, rfl⟩)
        go_ret
        simp [hno.out]
    · obtain rfl : k = n := by omega
      by_cases hl : (lo : Int) ≤ (k : Int) ∧ (k : Int) ≤ (hi : Int)
      · have hyes : Hid (v = true) := hv.out.2 ⟨by omega, hG.out⟩
        have HI := Lib.hid (sIn_yes (k : Int) lo hi wr hl)
        clear hl hv
        go_wp2_with (go_at_call 53; refine HI.out.mono ?_; rintro e w' ⟨rfl, rfl⟩)
        go_ret
        simp [hyes.out]
      · have hno : Hid (v = false) := by
          cases v
          · rfl
          · exact absurd (hv.out.1 rfl).1 (by omega)
        have HI := Lib.hid (sIn_no (k : Int) lo hi wr hl)
        clear hl hv
        go_wp2_with (go_at_call 53; refine HI.out.mono ?_; rintro e w' ⟨rfl, rfl⟩)
        go_ret
        simp [hno.out]
theorem sCode (A : Option Addr) (n c : Nat) (f : Nat → Int) (w : World) (h : Rn w w.heap.size A n f) (hn : n ≤ 1048576) (v : Bool) (hv : Hid (v = true ↔ codeV ⟨n, f⟩)) :
    Calls Try.prog 83 #[.slice A n c] w fun e w' => e = .returned (.bool v) ∧ w' = w := by
  have H := Lib.hid (sGroups A n c f 1 5 w h hn v hv)
  clear h hv
  go_enter Try.func83, Try.ntmps83
  go_wp2_with fail
  refine H.out.mono ?_
  rintro e w1 ⟨rfl, rfl⟩
  go_wp2
  go_ret
  exact ⟨rfl, rfl⟩
end Go.Proofs.Ytanfhgliilkhjaa
