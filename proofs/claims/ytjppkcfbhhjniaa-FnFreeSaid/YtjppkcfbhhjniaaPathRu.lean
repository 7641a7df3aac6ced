/-
  Contracts of runsValid and l2Runs.
-/
import Derived.Test.YtjppkcfbhhjniaaPathFd
namespace Go.Proofs.Ytjppkcfbhhjniaa
open Go.RowKit
set_option linter.unusedVariables false

/-- Are they runs of so many sections? -/
def runsV (n : Int) (r : Nat) (f : Nat → Int) : Prop := (1 ≤ n ∧ n ≤ 5) ∧ (r : Int) = n ∧ ∀ i, i < r → 1 ≤ f i ∧ f i ≤ 100
instance (n : Int) (r : Nat) (f : Nat → Int) : Decidable (runsV n r f) := by unfold runsV; infer_instance
set_option maxHeartbeats 1000000 in
theorem iRuns (v : Bool) (A : Option Addr) (r c : Nat) (f : Nat → Int) (n : Int) (w : World) (hv : v = decide (runsV n r f)) (h : Rn w w.heap.size A r f) (hm : r ≤ 1099511627776) :
    Calls Try.prog 70 #[.int .i64 n, .slice A r c] w fun e w' => e = .returned (.bool v) ∧ Below w.heap.size w w' := by
  have V := Lib.hid hv
  clear hv
  by_cases hn : 1 ≤ n ∧ n ≤ 5
  rotate_left
  · have hr := hide (V.out.trans (decide_eq_false (fun x => hn x.1)))
    have N := Lib.hid hn
    clear hn
    go_enter Try.func70, Try.ntmps70
    go_wp2_with (go_at_call 58; refine (iSec_no _ _ N.out).mono ?_; rintro e w' ⟨rfl, rfl⟩)
    go_ret
    exact ⟨ret_bool hr.symm, Below.refl _ _⟩
  have N := Lib.hid hn
  by_cases hl : (r : Int) = n
  rotate_left
  · have hr := hide (V.out.trans (decide_eq_false (fun x => hl x.2.1)))
    have d1 : ((r : Int) != n) = true := bne_iff_ne.2 hl
    clear hn hl
    go_enter Try.func70, Try.ntmps70
    go_wp2_with (go_at_call 58; refine (iSec_yes _ _ N.out).mono ?_; rintro e w' ⟨rfl, rfl⟩)
    go_ret
    exact ⟨ret_bool hr.symm, Below.refl _ _⟩
  subst hl
  have HH := Lib.hid h
  clear hn h
  go_enter Try.func70, Try.ntmps70
  go_wp2_with (go_at_call 58; refine (iSec_yes _ _ N.out).mono ?_; rintro e w' ⟨rfl, rfl⟩)
  go_loopw [18] (fun i wr => ∃ j : Nat, j ≤ r ∧ i = .int .i64 j ∧ Hid (∀ i, i < j → 1 ≤ f i ∧ f i ≤ 100) ∧ wr = w) (fun i _ => r - (intOf i).toNat)
  case atStart => exact ⟨0, Nat.zero_le _, rfl, (fun i hi => absurd hi (by omega)), rfl⟩
  case round =>
    obtain ⟨j, hj, rfl, hall, rfl⟩ := hrel
    by_cases hlt : j < r
    · obtain ⟨b, off, rfl, hb, hc⟩ := HH.out (by omega)
      have z := hc j hlt
      have j0 : (0 : Int) ≤ (j : Int) := by omega
      have j1 : (j : Int) < (r : Int) := by omega
      clear hc
      by_cases h1 : 1 ≤ f j
      · have d1 : decide (f j < 1) = false := decide_eq_false (by omega)
        by_cases h2 : f j ≤ 100
        · have d2 : decide (100 < f j) = false := decide_eq_false (by omega)
          have hall2 : Hid (∀ i, i < j + 1 → 1 ≤ f i ∧ f i ≤ 100) := fun i hi => by
            by_cases e : i = j
            · subst e; exact ⟨h1, h2⟩
            · exact hall i (by omega)
          clear h1 h2
          go_wp2
          go_roundw
          case rel => exact ⟨j + 1, by omega, by go_num, hall2, trivial⟩
          case measure => simp [intOf]; omega
        · have d2 : decide (100 < f j) = true := decide_eq_true (by omega)
          have hr := hide (V.out.trans (decide_eq_false (fun x => h2 (x.2.2 j hlt).2)))
          clear h1 h2
          go_wp2
          go_ret
          exact ⟨ret_bool hr.symm, Below.refl _ _⟩
      · have d1 : decide (f j < 1) = true := decide_eq_true (by omega)
        have hr := hide (V.out.trans (decide_eq_false (fun x => h1 (x.2.2 j hlt).1)))
        clear h1
        go_wp2
        go_ret
        exact ⟨ret_bool hr.symm, Below.refl _ _⟩
    · obtain rfl : j = r := by omega
      have hr := hide (V.out.trans (decide_eq_true ⟨N.out, rfl, hall.out⟩))
      go_wp2
      go_ret
      exact ⟨ret_bool hr.symm, Below.refl _ _⟩
set_option maxHeartbeats 1000000 in
theorem sRuns (v : Bool) (A : Option Addr) (r c : Nat) (f : Nat → Int) (n : Int) (w : World) (hv : v = decide (runsV n r f)) (h : Rn w w.heap.size A r f) (hm : r ≤ 1099511627776) :
    Calls Try.prog 71 #[.int .i64 n, .slice A r c] w fun e w' => e = .returned (.bool v) ∧ Below w.heap.size w w' := by
  have V := Lib.hid hv
  have HH := Lib.hid h
  clear hv h
  go_enter Try.func71, Try.ntmps71
  go_wp2
  go_loopw [5] (fun i wr => ∃ j : Nat, j ≤ r ∧ i = .int .i64 j ∧ Hid (∀ i, i < j → 1 ≤ f i ∧ f i ≤ 100) ∧ wr = w) (fun i _ => r - (intOf i).toNat)
  case atStart => exact ⟨0, Nat.zero_le _, rfl, (fun i hi => absurd hi (by omega)), rfl⟩
  case round =>
    obtain ⟨j, hj, rfl, hall, rfl⟩ := hrel
    by_cases hlt : j < r
    · obtain ⟨b, off, rfl, hb, hc⟩ := HH.out (by omega)
      have z := hc j hlt
      have j0 : (0 : Int) ≤ (j : Int) := by omega
      have j1 : (j : Int) < (r : Int) := by omega
      clear hc
      by_cases h1 : 1 ≤ f j ∧ f j ≤ 100
      · have hall2 : Hid (∀ i, i < j + 1 → 1 ≤ f i ∧ f i ≤ 100) := fun i hi => by
          by_cases e : i = j
          · subst e; exact h1
          · exact hall i (by omega)
        go_wp2_with (go_at_call 51; refine (sIn_yes _ _ _ _ h1).mono ?_; rintro e w' ⟨rfl, rfl⟩)
        go_roundw
        case rel => exact ⟨j + 1, by omega, by go_num, hall2, trivial⟩
        case measure => simp [intOf]; omega
      · have hr := hide (V.out.trans (decide_eq_false (fun x => h1 (x.2.2 j hlt))))
        go_wp2_with (go_at_call 51; refine (sIn_no _ _ _ _ h1).mono ?_; rintro e w' ⟨rfl, rfl⟩)
        go_ret
        exact ⟨ret_bool hr.symm, Below.refl _ _⟩
    · obtain rfl : j = r := by omega
      by_cases hl : (j : Int) = n
      · subst hl
        by_cases hn : 1 ≤ (j : Int) ∧ (j : Int) ≤ 5
        · have hr := hide (V.out.trans (decide_eq_true ⟨hn, rfl, hall.out⟩))
          go_wp2_with (go_at_call 51; refine (sIn_yes _ _ _ _ hn).mono ?_; rintro e w' ⟨rfl, rfl⟩)
          go_ret
          exact ⟨ret_bool hr.symm, Below.refl _ _⟩
        · have hr := hide (V.out.trans (decide_eq_false (fun x => hn x.1)))
          go_wp2_with (go_at_call 51; refine (sIn_no _ _ _ _ hn).mono ?_; rintro e w' ⟨rfl, rfl⟩)
          go_ret
          exact ⟨ret_bool hr.symm, Below.refl _ _⟩
      · have d1 : ((j : Int) == n) = false := beq_eq_false_iff_ne.2 hl
        have hr := hide (V.out.trans (decide_eq_false (fun x => hl x.2.1)))
        clear hl
        go_wp2
        go_ret
        exact ⟨ret_bool hr.symm, Below.refl _ _⟩
end Go.Proofs.Ytjppkcfbhhjniaa
