/-
  Contracts of the functions on directions: what the program's and the reference's functions return.
-/
import Derived.Test.YtejggpejmooegaaProg
import Derived.Test.YtejggpejmooegaaTokPlain
import Derived.WalkKit
import Derived.Lib.Hide
import Derived.Outline
namespace Go.Proofs.Ytejggpejmooegaa
open Go.RowKit

set_option maxHeartbeats 400000 in
/-- The reference's DirectionsValid. -/
theorem sDirsV (s : ByteArray) (w : World) (hs : s.size ≤ 1048576) :
    Calls Try.prog 55 #[.string s] w fun e w' => e = .returned (.bool (dirsV s.data.toList)) ∧ w = w' := by
  go_enter Try.func55, Try.ntmps55
  go_wp2
  go_loop [3] (fun i => ∃ k : Nat, k ≤ s.size ∧ i = .int .i64 k ∧ Hid ((s.data.toList.take k).all isUD = true)) (fun i => s.size - (intOf i).toNat)
  case atStart => exact ⟨0, Nat.zero_le _, rfl, by simp [Hid]⟩
  case round =>
    obtain ⟨k, hk, rfl, hU⟩ := hrel
    by_cases hlt : k < s.size
    · by_cases hc : (s[k].toNat : Int) = 85 ∨ (s[k].toNat : Int) = 68
      · have hn := ud_step hlt hU hc
        rcases hc with hc | hc
        all_goals
          go_wp2
          go_round
          case rel => exact ⟨k + 1, by omega, by go_num, hn⟩
          case measure => simp [intOf]; omega
      · have hn := hide (ud_no hlt hc)
        have h1 : ((s[k].toNat : Int) != 85) = true := by simp; omega
        have h2 : ((s[k].toNat : Int) != 68) = true := by simp; omega
        clear hc
        go_wp2
        go_ret
        exact ⟨ret_bool (Eq.symm hn), rfl⟩
    · obtain rfl : k = s.size := by omega
      go_wp2
      go_ret
      exact ⟨ret_bool (ud_all hU).symm, rfl⟩
set_option maxHeartbeats 400000 in
/-- The program's DirectionsValid. -/
theorem iDirsV (s : ByteArray) (w : World) (hs : s.size ≤ 1048576) :
    Calls Try.prog 54 #[.string s] w fun e w' => e = .returned (.bool (dirsV s.data.toList)) ∧ w = w' := by
  by_cases hL : 30 < s.size
  · have hn := hide (ud_long hL)
    have hd : decide ((30 : Int) < (s.size : Int)) = true := by simp; omega
    go_enter Try.func54, Try.ntmps54
    go_wp2
    go_ret
    exact ⟨ret_bool (Eq.symm hn), rfl⟩
  have hd : decide ((30 : Int) < (s.size : Int)) = false := by simp; omega
  go_enter Try.func54, Try.ntmps54
  go_wp2
  go_loop [9] (fun i => ∃ k : Nat, k ≤ s.size ∧ i = .int .i64 k ∧ Hid ((s.data.toList.take k).all isUD = true)) (fun i => s.size - (intOf i).toNat)
  case atStart => exact ⟨0, Nat.zero_le _, rfl, by simp [Hid]⟩
  case round =>
    obtain ⟨k, hk, rfl, hU⟩ := hrel
    by_cases hlt : k < s.size
    · by_cases hc : (s[k].toNat : Int) = 85 ∨ (s[k].toNat : Int) = 68
      · have hn := ud_step hlt hU hc
        rcases hc with hc | hc
        all_goals
          go_wp2
          go_round
          case rel => exact ⟨k + 1, by omega, by go_num, hn⟩
          case measure => simp [intOf]; omega
      · have hn := hide (ud_no hlt hc)
        have h1 : ((s[k].toNat : Int) != 85) = true := by simp; omega
        have h2 : ((s[k].toNat : Int) != 68) = true := by simp; omega
        clear hc
        go_wp2
        go_ret
        exact ⟨ret_bool (Eq.symm hn), rfl⟩
    · obtain rfl : k = s.size := by omega
      go_wp2
      go_ret
      exact ⟨ret_bool ((ud_all hU).trans (by simp; omega)).symm, rfl⟩
end Go.Proofs.Ytejggpejmooegaa
