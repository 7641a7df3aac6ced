/-
  Contract of heldPathS at paths that hold the marks.
-/
import Derived.Test.YthlegnghojbcaaaPathMk
namespace Go.Proofs.Ythlegnghojbcaaa
open Go.RowKit
set_option linter.unusedVariables false

/-- The marks from k0 on, path by path. -/
def marked (D : Nat → PD) (k0 : Int) (E : Nat → PD) (n : Nat) : Prop := ∀ i, i < n → (E i).m1 = (D i).m1 ∧ (E i).m2 = (D i).m2 ∧ (∀ j, j < (D i).m1 → (E i).f1 j = k0 + tot D i + j) ∧ (∀ j, j < (D i).m2 → (E i).f2 j = k0 + tot D i + (D i).m1 + j)
set_option maxHeartbeats 2000000 in
theorem heldPathS_any (A : Option Addr) (n c : Nat) (D E : Nat → PD) (k0 : Int) (w : World) (h : PsRn w w.heap.size A n E) (hE : marked D k0 E n) (hk0 : 0 ≤ k0) (hk1 : k0 ≤ 1000000000) (ht : (n : Int) + tot D n ≤ 1048576) :
    Calls Try.prog 38 #[.slice A n c, .int .i64 k0] w fun e w' => e = .returned (.int .i64 (k0 + tot D n)) ∧ w = w' := by
  have H0 := Lib.hid h
  have HE := Lib.hid hE
  clear h hE
  go_enter Try.func38, Try.ntmps38
  go_wp2
  go_loopw [1, 5] (fun v i wr => ∃ (j : Nat) (u : Int), j ≤ n ∧ i = .int .i64 j ∧ v = .int .i64 u ∧ Hid (u = k0 + tot D j) ∧ w = wr) (fun _ i _ => n - (intOf i).toNat)
  case atStart => exact ⟨0, k0, Nat.zero_le _, rfl, rfl, by show k0 = k0 + tot D 0; simp [tot], rfl⟩
  case round =>
    obtain ⟨j, u, hj, rfl, rfl, hU, rfl⟩ := hrel
    by_cases hlt : j < n
    · obtain ⟨b, off, a1, c1, a2, c2, n1, f1, n2, f2, rfl, hbB, hD, x0, x1, r1, r2⟩ := H0.out.at_ hlt
      obtain ⟨e1, e2, e3, e4⟩ := HE.out j hlt
      rw [hD] at e1 e2 e3 e4
      simp only at e1 e2 e3 e4
      have t2 := tot_mono D (show j + 1 ≤ n by omega)
      have t3 : tot D (j + 1) = tot D j + (D j).m1 + (D j).m2 := rfl
      have hU1 : u = k0 + tot D j := hU.out
      have j0 : (0 : Int) ≤ (j : Int) := by omega
      have j1 : (j : Int) < (n : Int) := by omega
      have n1' : n1 ≤ 1048576 := by omega
      have n2' : n2 ≤ 1048576 := by omega
      have u0 : 0 ≤ u := by omega
      have u1 : u ≤ 1010000000 := by omega
      have hU3 : Hid (u + n1 + n2 = k0 + tot D (j + 1)) := by show _ = _; omega
      have F1 := Lib.hid (show ∀ i, i < n1 → f1 i = u + i from fun i hi => by rw [e3 i (by omega), hU1])
      have F2 := Lib.hid (show ∀ i, i < n2 → f2 i = u + n1 + i from fun i hi => by rw [e4 i (by omega), hU1, e1])
      have g1 : decide (u + (n1 : Int) < 0) = false := decide_eq_false (by omega)
      have g2 : decide (u + (n1 : Int) + (n2 : Int) < 0) = false := decide_eq_false (by omega)
      have R1 := Lib.hid r1
      have R2 := Lib.hid r2
      clear e1 e2 e3 e4 hD t2 t3 hU1 hU r1 r2
      go_wp2_with fail
      refine (heldInts a1 n1 c1 _ f1 u _ R1.out F1.out u0 (by omega) (by omega)).mono ?_
      rintro e w1 ⟨rfl, rfl⟩
      go_wp2_with fail
      refine (heldInts a2 n2 c2 _ f2 (u + n1) _ R2.out F2.out (by omega) (by omega) (by omega)).mono ?_
      rintro e w1 ⟨rfl, rfl⟩
      go_wp2
      go_roundw
      case rel => exact ⟨j + 1, _, by omega, by go_num, rfl, hU3, trivial⟩
      case measure => simp [intOf]; omega
    · obtain rfl : j = n := by omega
      go_wp2
      go_ret
      exact ⟨ret_int hU.out, rfl⟩
end Go.Proofs.Ythlegnghojbcaaa
