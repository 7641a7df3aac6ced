/-
  Contracts of the reference's l1Same; of the laws' sameInts.
-/
import Derived.Test.YtanfhgliilkhjaaBkM
import Derived.Deep.QuietTactic
import Derived.BigQuiet
namespace Go.Proofs.Ytanfhgliilkhjaa
open Go.RowKit Go.Deep
set_option linter.unusedVariables false

theorem eqI_iff {d e : LD} : eqI d.n d.f e.n e.f = true ↔ sameC d e := decide_eq_true_iff
set_option maxHeartbeats 1000000 in
theorem l1same (A : Option Addr) (n c : Nat) (f : Nat → Int) (D : Option Addr) (m d : Nat) (g : Nat → Int) (w : World) (hA : Rn w w.heap.size A n f) (hD : Rn w w.heap.size D m g) (hn : n ≤ 1099511627776) (hm : m ≤ 1099511627776) :
    Calls Try.prog 84 #[.slice A n c, .slice D m d] w fun e w' => e = .returned (.bool (eqI n f m g)) ∧ ∃ q, w' = w.drewN q := by
  by_cases e : n = m
  rotate_left
  · have hr := hide (eqI_no1 (f := f) (g := g) e)
    have hd : ((n : Int) != (m : Int)) = true := ne_lit (by omega)
    clear e
    go_enter Try.func84, Try.ntmps84
    go_wp2
    go_ret
    exact ⟨ret_bool hr.symm, 0, rfl⟩
  subst e
  have hd : ((n : Int) != (n : Int)) = false := eq_lit rfl
  go_enter Try.func84, Try.ntmps84
  go_wp2
  go_loopw [5] (fun i wr => ∃ k : Nat, k ≤ n ∧ i = .int .i64 k ∧ Hid (∀ j, j < k → f j = g j) ∧ Hid (∃ q, wr = w.drewN q)) (fun i _ => n - (intOf i).toNat)
  case atStart => exact ⟨0, Nat.zero_le _, rfl, fun _ h => absurd h (by omega), 0, rfl⟩
  case round =>
    obtain ⟨k, hk, rfl, hE, hq⟩ := hrel
    by_cases hlt : k < n
    · obtain ⟨b, off, rfl, hbB, hc⟩ := hA (by omega)
      obtain ⟨b2, off2, rfl, hbB2, hc2⟩ := hD (by omega)
      obtain ⟨q, rfl⟩ := hq.out
      have hcell := hc k hlt
      have hcell2 := hc2 k hlt
      have hk0 : (0 : Int) ≤ (k : Int) := by omega
      have hk1 : (k : Int) < (n : Int) := by omega
      clear hc hc2
      by_cases he : f k = g k
      · have hst : Hid (∀ j, j < k + 1 → f j = g j) := fun j hj => by
          by_cases x : j = k
          · subst x; exact he
          · exact hE.out j (by omega)
        have hd2 := eq_lit he
        clear he
        go_wp2
        go_quiet (fail)
        go_wp2
        go_roundw
        case rel => exact ⟨k + 1, by omega, by go_num, hst, _, rfl⟩
        case measure => simp [intOf]; omega
      · have hr := hide (eqI_no2 (m := n) hlt he)
        have hd2 := ne_lit he
        clear he
        go_wp2
        go_quiet (fail)
        go_wp2
        go_ret
        exact ⟨ret_bool hr.symm, _, World.drewN_drewN _ _ _⟩
    · obtain rfl : k = n := by omega
      have hr := hide (eqI_yes hE.out)
      obtain ⟨q, rfl⟩ := hq.out
      go_wp2
      go_ret
      exact ⟨ret_bool hr.symm, _, rfl⟩
set_option maxHeartbeats 1000000 in
theorem sameI (A : Option Addr) (n c : Nat) (f : Nat → Int) (D : Option Addr) (m d : Nat) (g : Nat → Int) (w : World) (hA : Rn w w.heap.size A n f) (hD : Rn w w.heap.size D m g) (hn : n ≤ 1099511627776) (hm : m ≤ 1099511627776) :
    Calls Try.prog 28 #[.slice A n c, .slice D m d] w fun e w' => e = .returned (.bool (eqI n f m g)) ∧ ∃ q, w' = w.drewN q := by
  by_cases e : n = m
  rotate_left
  · have hr := hide (eqI_no1 (f := f) (g := g) e)
    have hd : ((n : Int) != (m : Int)) = true := ne_lit (by omega)
    clear e
    go_enter Try.func28, Try.ntmps28
    go_wp2
    go_ret
    exact ⟨ret_bool hr.symm, 0, rfl⟩
  subst e
  have hd : ((n : Int) != (n : Int)) = false := eq_lit rfl
  go_enter Try.func28, Try.ntmps28
  go_wp2
  go_loopw [5] (fun i wr => ∃ k : Nat, k ≤ n ∧ i = .int .i64 k ∧ Hid (∀ j, j < k → f j = g j) ∧ Hid (∃ q, wr = w.drewN q)) (fun i _ => n - (intOf i).toNat)
  case atStart => exact ⟨0, Nat.zero_le _, rfl, fun _ h => absurd h (by omega), 0, rfl⟩
  case round =>
    obtain ⟨k, hk, rfl, hE, hq⟩ := hrel
    by_cases hlt : k < n
    · obtain ⟨b, off, rfl, hbB, hc⟩ := hA (by omega)
      obtain ⟨b2, off2, rfl, hbB2, hc2⟩ := hD (by omega)
      obtain ⟨q, rfl⟩ := hq.out
      have hcell := hc k hlt
      have hcell2 := hc2 k hlt
      have hk0 : (0 : Int) ≤ (k : Int) := by omega
      have hk1 : (k : Int) < (n : Int) := by omega
      clear hc hc2
      by_cases he : f k = g k
      · have hst : Hid (∀ j, j < k + 1 → f j = g j) := fun j hj => by
          by_cases x : j = k
          · subst x; exact he
          · exact hE.out j (by omega)
        have hd2 := eq_lit he
        clear he
        go_wp2
        go_quiet (fail)
        go_wp2
        go_roundw
        case rel => exact ⟨k + 1, by omega, by go_num, hst, _, rfl⟩
        case measure => simp [intOf]; omega
      · have hr := hide (eqI_no2 (m := n) hlt he)
        have hd2 := ne_lit he
        clear he
        go_wp2
        go_quiet (fail)
        go_wp2
        go_ret
        exact ⟨ret_bool hr.symm, _, World.drewN_drewN _ _ _⟩
    · obtain rfl : k = n := by omega
      have hr := hide (eqI_yes hE.out)
      obtain ⟨q, rfl⟩ := hq.out
      go_wp2
      go_ret
      exact ⟨ret_bool hr.symm, _, rfl⟩
end Go.Proofs.Ytanfhgliilkhjaa
