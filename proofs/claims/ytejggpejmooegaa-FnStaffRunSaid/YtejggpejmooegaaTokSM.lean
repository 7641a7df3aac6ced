/-
  The walk of FnStaffMany.
-/
import Derived.Test.YtejggpejmooegaaTokSMP
import Derived.Test.YtejggpejmooegaaTokSK
namespace Go.Proofs.Ytejggpejmooegaa
open Go.RowKit
set_option linter.unusedVariables false

theorem mod2 (n : Nat) : Int.tmod (n : Int) 2 = ((n % 2 : Nat) : Int) ∧ (n : Int) % 2 = ((n % 2 : Nat) : Int) ∧ Int.tdiv (n : Int) 2 = ((n / 2 : Nat) : Int) := by
  refine ⟨?_, by omega, ?_⟩
  · rw [Int.tmod_eq_emod_of_nonneg (by omega)]; omega
  · rw [Int.tdiv_eq_ediv_of_nonneg (by omega)]; omega
set_option maxHeartbeats 2000000 in
theorem w_FnStaffMany (a0 : Option Addr) (len0 cap0 : Nat) (z0 : List Int) (w : World) (w0 : IsRow .u8 w a0 len0 cap0 z0) :
    Calls Try.prog 7 #[.slice a0 len0 cap0] w fun e w' => e = .returned (.bool true) ∧ Below w.heap.size w w' := by
  obtain ⟨hA, hc, hm⟩ := w0.bytes
  have hAH := Lib.hid hA
  clear w0 hA
  by_cases hs0 : 1048576 < len0
  · have hd0 : decide ((1048576 : Int) < (len0 : Int)) = true := by simp; omega
    go_enter Try.func7, Try.ntmps7
    go_wp2
    go_ret
    exact ⟨rfl, Below.refl _ _⟩
  have hd0 : decide ((1048576 : Int) < (len0 : Int)) = false := by simp; omega
  go_enter Try.func7, Try.ntmps7
  go_wp2_with fail
  refine (d_DrawStaffMany a0 len0 cap0 w hAH.out (by omega) hc hm).mono ?_
  rintro e w1 ⟨a, s, rfl, hab, hsz, hb⟩
  clear hc hm hAH hs0 hd0
  go_wp2_with fail
  refine (iStaffM a s _ (by omega)).mono ?_
  rintro e w' ⟨rfl, rfl⟩
  go_wp2_with fail
  refine (sStaffM a s _ (by omega)).mono ?_
  rintro e w' ⟨rfl, rfl⟩
  obtain ⟨n, hn⟩ : ∃ n, staffM a s.data.toList = n := ⟨_, rfl⟩
  have hle := staffM_le a s.data.toList
  have hN := Lib.hid hn
  rw [hn] at hle ⊢
  by_cases h0 : n < 0
  · have hd : decide (n < 0) = true := decide_eq_true h0
    clear h0
    go_wp2
    go_ret
    exact ⟨rfl, hb⟩
  have hd : decide (n < 0) = false := decide_eq_false h0
  obtain ⟨ha, hv⟩ := staffM_in (a := a) (l := s.data.toList) (by rw [hn]; exact h0)
  have hCnt := Lib.hid (cnt_staff ha hv)
  have hYes := Lib.hid (yes_run ha hv)
  clear hn h0 hv ha
  by_cases h8 : 8 < s.size
  · have hd8 : decide ((8 : Int) < (s.size : Int)) = true := decide_eq_true (by omega)
    have hd2 : decide (n ≤ 2) = true := decide_eq_true hle.2
    clear hCnt hYes hN
    go_wp2
    go_ret
    exact ⟨rfl, hb⟩
  have hd8 : decide ((8 : Int) < (s.size : Int)) = false := decide_eq_false (by omega)
  go_wp2
  go_loopw [9, 10] (fun p i wr => ∃ k : Nat, k ≤ s.size ∧ i = .int .i64 k ∧ p = .int .i64 ((2 ^ k : Nat) : Int) ∧ w1 = wr) (fun _ i _ => s.size - (intOf i).toNat)
  case atStart => exact ⟨0, Nat.zero_le _, rfl, rfl, rfl⟩
  case round =>
    obtain ⟨k, hk, rfl, rfl, rfl⟩ := hrel
    have hpb := pow_bd k (by omega)
    have hps : 2 ^ (k + 1) = 2 * 2 ^ k := by rw [Nat.pow_succ, Nat.mul_comm]
    by_cases hlt : k < s.size
    · generalize hP : 2 ^ k = P at *
      have hPH := Lib.hid hps
      clear hps hP
      go_wp2
      go_roundw
      case rel => exact ⟨k + 1, by omega, by go_num, by rw [hPH.out]; go_num, trivial⟩
      case measure => simp [intOf]; omega
    · obtain rfl : k = s.size := by omega
      clear hps
      generalize hP : 2 ^ s.size = P at *
      clear hP
      go_wp2
      go_loopw [8, 11] (fun c i wr => ∃ x : Nat, x ≤ P ∧ i = .int .i64 x ∧ c = .int .i64 ((cnt (yes a s.data.toList) x : Nat) : Int) ∧ w1 = wr) (fun _ i _ => P - (intOf i).toNat)
      case atStart => exact ⟨0, Nat.zero_le _, rfl, rfl, rfl⟩
      case round =>
        obtain ⟨x, hx, rfl, rfl, rfl⟩ := hrel
        have hcl := cnt_le (yes a s.data.toList) x
        by_cases hlt2 : x < P
        · go_wp2
          go_loopw [12, 13, 14] (fun t y i wr => ∃ j : Nat, j ≤ s.size ∧ i = .int .i64 j ∧ y = .int .i64 ((x / 2 ^ j : Nat) : Int) ∧ t = .string (baOf (bt x j)) ∧ w1 = wr) (fun _ _ i _ => s.size - (intOf i).toNat)
          case atStart => exact ⟨0, Nat.zero_le _, rfl, by simp, rfl, rfl⟩
          case round =>
            obtain ⟨j, hj, rfl, rfl, rfl, rfl⟩ := hrel
            by_cases hlt3 : j < s.size
            · have hjs : (baOf (bt x j)).size ≤ 60 := by rw [baOf_size, bt_len]; omega
              have hhalf := Lib.hid (half_pow x j)
              have hqx : x / 2 ^ j ≤ x := Nat.div_le_self _ _
              have hbs := Lib.hid (bt_s x j)
              have hbt := Lib.hid (bt_t x j)
              generalize hq : x / 2 ^ j = q at *
              clear hq
              obtain ⟨m1, m2, m3⟩ := mod2 q
              by_cases hp : q % 2 = 0
              · have he := Lib.hid (hbs.out hp)
                rw [hp] at m1 m2
                clear hbs hbt hp
                go_wp2
                go_roundw
                case rel => exact ⟨j + 1, by omega, by go_num, by rw [← hhalf.out]; exact int_eq (by omega), by rw [← he.out], trivial⟩
                case measure => simp [intOf]; omega
              · have he := Lib.hid (hbt.out hp)
                have hp1 : q % 2 = 1 := by omega
                rw [hp1] at m1 m2
                clear hbs hbt hp hp1
                go_wp2
                go_roundw
                case rel => exact ⟨j + 1, by omega, by go_num, by rw [← hhalf.out]; exact int_eq (by omega), by rw [← he.out], trivial⟩
                case measure => simp [intOf]; omega
            · obtain rfl : j = s.size := by omega
              have hsz2 : (baOf (bt x s.size)).size ≤ 1048576 := by rw [baOf_size, bt_len]; omega
              cases hy : yes a s.data.toList x
              · have hcs : cnt (yes a s.data.toList) (x + 1) = cnt (yes a s.data.toList) x := by rw [cnt, hy]; rfl
                have hCS := Lib.hid hcs
                have hY := Lib.hid ((hYes.out x).trans hy)
                clear hy hcs
                go_wp2_with fail
                refine (iStaffRv a s _ false _ (by omega) hsz2 hY.out).mono ?_
                rintro e w' ⟨⟨v, _, rfl⟩, rfl⟩
                go_wp2
                go_roundw
                case rel => exact ⟨x + 1, by omega, by go_num, by rw [hCS.out], trivial⟩
                case measure => simp [intOf]; omega
              · have hcs : cnt (yes a s.data.toList) (x + 1) = cnt (yes a s.data.toList) x + 1 := by rw [cnt, hy]; rfl
                have hCS := Lib.hid hcs
                have hY := Lib.hid ((hYes.out x).trans hy)
                clear hy hcs
                go_wp2_with fail
                refine (iStaffRv a s _ true _ (by omega) hsz2 hY.out).mono ?_
                rintro e w' ⟨⟨v, _, rfl⟩, rfl⟩
                go_wp2
                go_roundw
                case rel => exact ⟨x + 1, by omega, by go_num, by rw [hCS.out]; go_num, trivial⟩
                case measure => simp [intOf]; omega
        · obtain rfl : x = P := by omega
          have hfin : (((cnt (yes a s.data.toList) x : Nat) : Int) == n) = true := by rw [hCnt.out, hN.out]; simp
          go_wp2
          go_ret
          exact ⟨rfl, hb⟩
end Go.Proofs.Ytejggpejmooegaa
