/-
  Contract of markText: a text for each number.
-/
import Derived.Test.YtanfhgliilkhjaaRegM
import Derived.Laws.BytesArg
namespace Go.Proofs.Ytanfhgliilkhjaa
open Go.RowKit Go.Deep
set_option linter.unusedVariables false

/-- The text of a number, behind what has been written of it. -/
def mkT (j : Nat) (s : ByteArray) : ByteArray := if h : j = 0 then (⟨#[109]⟩ : ByteArray) ++ s else mkT (j / 10) (strOfNums [48 + ((j % 10 : Nat) : Int)] ++ s)
termination_by j
decreasing_by omega
theorem mkT_zero (s : ByteArray) : mkT 0 s = (⟨#[109]⟩ : ByteArray) ++ s := by rw [mkT, dif_pos rfl]
theorem mkT_step {j : Nat} (h : 0 < j) (s : ByteArray) : mkT j s = mkT (j / 10) (strOfNums [48 + ((j % 10 : Nat) : Int)] ++ s) := by rw [mkT, dif_neg (by omega)]
set_option maxRecDepth 100000 in
set_option maxHeartbeats 1000000 in
theorem markText_any (k : Nat) (w : World) (hk : 1 ≤ k ∧ k ≤ 1099511627776) :
    Calls Try.prog 70 #[.int .i64 (k : Int)] w fun e w' => e = .returned (.string (mkT k ⟨#[]⟩)) ∧ Below w.heap.size w w' := by
  have d0 : decide ((k : Int) ≤ 0) = false := decide_eq_false (by omega)
  go_enter Try.func70, Try.ntmps70
  go_wp2
  go_loopw [0, 3] (fun n o wr => ∃ (j : Nat) (s : ByteArray), j ≤ k ∧ n = .int .i64 j ∧ o = .string s ∧ s.size + j ≤ k ∧ Hid (mkT j s = mkT k ⟨#[]⟩) ∧ Below w.heap.size w wr) (fun n _ _ => (intOf n).toNat)
  case atStart => exact ⟨k, _, Nat.le_refl _, rfl, rfl, by simp [ByteArray.size], rfl, Below.refl _ _⟩
  case round =>
    obtain ⟨j, s, hj, rfl, rfl, hsj, hF, hb⟩ := hrel
    have hsz := hb.size
    by_cases h0 : 0 < j
    · have d1 : decide ((0 : Int) < (j : Int)) = true := decide_eq_true (by omega)
      have hst := mkT_step h0 s
      rw [hF.out] at hst
      have hm1 : Int.tmod (j : Int) 10 = ((j % 10 : Nat) : Int) := by rw [Int.tmod_eq_emod_of_nonneg (by omega)]; omega
      have hm2 : (j : Int) % 10 = ((j % 10 : Nat) : Int) := by omega
      have hq1 : Int.tdiv (j : Int) 10 = ((j / 10 : Nat) : Int) := by rw [Int.tdiv_eq_ediv_of_nonneg (by omega)]; omega
      have hq2 : (j : Int) / 10 = ((j / 10 : Nat) : Int) := by omega
      obtain ⟨r, hr⟩ : ∃ r, j % 10 = r := ⟨_, rfl⟩
      obtain ⟨q, hq⟩ : ∃ q, j / 10 = q := ⟨_, rfl⟩
      rw [hr] at hm1 hm2
      rw [hq] at hq1 hq2
      rw [hr, hq] at hst
      have hr9 : r ≤ 9 := by omega
      have hqj : q < j := by omega
      have hcv := run_convert_bytes_arg (P := Try.prog) (wr.alloc (.cells #[.int .u8 (48 + (r : Int))] 5)) 40 5 Try.underlying40 Try.underlying5 wr.heap.size 0 1 1 [48 + (r : Int)] rfl (fun i hi => by
        obtain rfl : i = 0 := by omega
        exact (Bx.new wr [.int .u8 (48 + (r : Int))] 5).cell (i := 0) (by simp)) 9 Try.underlying9
      obtain ⟨c, hc⟩ : ∃ c, strOfNums [48 + (r : Int)] = c := ⟨_, rfl⟩
      have hc1 : c.size = 1 := by rw [← hc]; rfl
      have hz : ¬ 9223372036854775807 < c.size + s.size := by omega
      have hz2 : (c ++ s).size + q ≤ k := by rw [ByteArray.size_append]; omega
      have HZ := Lib.hid hz2
      rw [hc] at hst hcv
      have ST := Lib.hid hst.symm
      clear hr hq hst hc hz2 hc1
      go_wp2
      go_roundw
      case rel => exact ⟨q, _, by omega, rfl, rfl, HZ.out, ST, by go_grown⟩
      case measure => simp [intOf]; omega
    · obtain rfl : j = 0 := by omega
      have hr := hide hF.out
      rw [mkT_zero] at hr
      have hz : ¬ 9223372036854775807 < 1 + s.size := by omega
      go_wp2
      go_ret
      exact ⟨by simp [hr.out], hb⟩
end Go.Proofs.Ytanfhgliilkhjaa
