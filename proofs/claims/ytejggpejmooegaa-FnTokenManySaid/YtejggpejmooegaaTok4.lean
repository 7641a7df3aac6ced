/-
  Contracts of DirectionsTurn, the program's and the reference's.
-/
import Derived.Test.YtejggpejmooegaaTok1
import Derived.Test.YtejggpejmooegaaTok4P
import Derived.Handy
import Derived.Deep.OwnRows
import Derived.Laws.BytesArg
namespace Go.Proofs.Ytejggpejmooegaa
open Go.RowKit

set_option maxHeartbeats 400000 in
/-- The reference's DirectionsTurn. -/
theorem sTurn (s : ByteArray) (w : World) (hs : s.size ≤ 1048576) :
    Calls Try.prog 25 #[.string s] w fun e w' => e = .returned (.tuple #[.string (turnS s), .bool (dirsV s.data.toList)]) ∧ w = w' := by
  cases hv : dirsV s.data.toList
  · have hn := hide (turnS_no hv)
    have hV := Lib.hid hv
    clear hv
    go_enter Try.func25, Try.ntmps25
    go_wp2_with (go_at_call 55; refine (sDirsV _ _ hs).mono ?_; rintro e w' ⟨rfl, rfl⟩; rw [hV.out])
    go_ret2
    exact ⟨by rw [show turnS s = baOf [] from hn]; rfl, rfl⟩
  have hlen := dirs_len hv
  have hn := hide (turnS_yes hv)
  have hV := Lib.hid hv
  clear hv
  go_enter Try.func25, Try.ntmps25
  go_wp2_with (go_at_call 55; refine (sDirsV _ _ hs).mono ?_; rintro e w' ⟨rfl, rfl⟩; rw [hV.out])
  go_loop [4, 5] (fun o i => ∃ k : Nat, k ≤ s.size ∧ i = .int .i64 k ∧ o = .string (baOf (turnL (s.data.toList.take k)))) (fun _ i => s.size - (intOf i).toNat)
  case atStart => exact ⟨0, Nat.zero_le _, rfl, rfl⟩
  case round =>
    obtain ⟨k, hk, rfl, rfl⟩ := hrel
    by_cases hlt : k < s.size
    · have hsz := turn_len s k
      by_cases hc : (s[k].toNat : Int) = 85
      · have hst := hide (turn_u s k hlt hc)
        go_wp2
        go_round
        case rel => exact ⟨k + 1, by omega, by go_num, by rw [hst.out]⟩
        case measure => simp [intOf]; omega
      · have hst := hide (turn_d s k hlt hc)
        have hd : ((s[k].toNat : Int) == 85) = false := by simpa using hc
        clear hc
        go_wp2
        go_round
        case rel => exact ⟨k + 1, by omega, by go_num, by rw [hst.out]⟩
        case measure => simp [intOf]; omega
    · obtain rfl : k = s.size := by omega
      have hfin := hide (turn_all s)
      go_wp2
      go_ret2
      exact ⟨ret_string_bool (by rw [hfin.out, hn.out]) rfl, rfl⟩

theorem u8info : (Try.prog.info? 5).map (fun i => (i.zero, i.size, i.bytes)) = some (some (.int .u8 0), 1, 1) := by kernel_rfl
set_option maxHeartbeats 400000 in
/-- The program's DirectionsTurn. -/
theorem iTurn (s : ByteArray) (w : World) (hs : s.size ≤ 1048576) :
    Calls Try.prog 24 #[.string s] w fun e w' => e = .returned (.tuple #[.string (turnS s), .bool (dirsV s.data.toList)]) ∧ Below w.heap.size w w' := by
  cases hv : dirsV s.data.toList
  · have hn := hide (turnS_no hv)
    have hV := Lib.hid hv
    clear hv
    go_enter Try.func24, Try.ntmps24
    go_wp2_with (go_at_call 54; refine (iDirsV _ _ hs).mono ?_; rintro e w' ⟨rfl, rfl⟩; rw [hV.out])
    go_ret2
    exact ⟨by rw [show turnS s = baOf [] from hn]; rfl, Below.refl _ _⟩
  have hlen := dirs_len hv
  have hn := hide (turnS_yes hv)
  have hV := Lib.hid hv
  clear hv
  have hmk := run_make_row' (P := Try.prog) 22 5 (.int .u8 0) 1 Try.underlying22 u8info rfl .i64 .i64 s.size (by omega) (by omega)
  go_enter Try.func24, Try.ntmps24
  go_wp2_with (go_at_call 54; refine (iDirsV _ _ hs).mono ?_; rintro e w' ⟨rfl, rfl⟩; rw [hV.out])
  have hrow := World.rowIs_made w (.int .u8 0) s.size 5
  go_loopw [14] (fun i wr => ∃ k : Nat, k ≤ s.size ∧ i = .int .i64 k ∧ wr.rowIs w.heap.size 5 s.size (bf (turnL s.data.toList) k) ∧ Below w.heap.size w wr) (fun i _ => s.size - (intOf i).toNat)
  case atStart => exact ⟨0, Nat.zero_le _, rfl, by rw [bf_zero]; exact hrow, by go_grown⟩
  case round =>
    obtain ⟨k, hk, rfl, hr, hb⟩ := hrel
    clear hmk hrow
    by_cases hlt : k < s.size
    · obtain ⟨v0, hcell⟩ : ∃ v, wr.cell? ⟨w.heap.size, k, none⟩ = some v := ⟨_, hr.cell hlt⟩
      have hfz := hr.frozen k
      by_cases hc : (s[k].toNat : Int) = 85
      · have hst := hide (bf_step (v := .int .u8 68) hr (by rw [turn_at s k hlt, turnC_u hc]; rfl))
        go_wp2
        go_roundw
        case rel => exact ⟨k + 1, by omega, by go_num, hst, by go_grown⟩
        case measure => simp [intOf]; omega
      · have hst := hide (bf_step (v := .int .u8 85) hr (by rw [turn_at s k hlt, turnC_d hc]; rfl))
        have hd : ((s[k].toNat : Int) == 85) = false := by simpa using hc
        clear hc
        go_wp2
        go_roundw
        case rel => exact ⟨k + 1, by omega, by go_num, hst, by go_grown⟩
        case measure => simp [intOf]; omega
    · obtain rfl : k = s.size := by omega
      have hcv := conv_row (P := Try.prog) (turnL s.data.toList) Try.underlying22 Try.underlying5 hr (turn_length s) 9 Try.underlying9
      go_wp2
      go_ret2
      exact ⟨ret_string_bool (by rw [hn.out]) rfl, hb⟩
end Go.Proofs.Ytejggpejmooegaa
