/-
  Contracts of TokenTrains, the program's and the reference's.
-/
import Derived.Test.YtejggpejmooegaaTok1
import Derived.Test.YtejggpejmooegaaTok9P
import Derived.Test.YtejggpejmooegaaTok3
import Derived.Test.YtejggpejmooegaaTokBld
namespace Go.Proofs.Ytejggpejmooegaa
open Go.RowKit

set_option maxHeartbeats 1000000 in
/-- The reference's TokenTrains. -/
theorem sTrains (s : ByteArray) (w : World) (hs : s.size ≤ 1048576) :
    Calls Try.prog 48 #[.string s] w fun e w' => e = .returned (.tuple #[.string (trS s), .bool (trOk s.data.toList)]) ∧ w = w' := by
  cases hv : dirsV s.data.toList
  · have hb := trOk_dir hv
    have hn := hide (trS_no hb)
    have hn2 := hide hb
    have hV := Lib.hid hv
    clear hv hb
    go_enter Try.func48, Try.ntmps48
    go_wp2_with (go_at_call 55; refine (sDirsV _ _ hs).mono ?_; rintro e w' ⟨rfl, rfl⟩; rw [hV.out])
    go_ret2
    exact ⟨ret_string_bool (by rw [hn.out]; rfl) (by rw [hn2.out]), rfl⟩
  have hlen := dirs_len hv
  by_cases hL : 30 < 2 * s.size
  · have hb := trOk_long hL
    have hn := hide (trS_no hb)
    have hn2 := hide hb
    have hd : decide ((30 : Int) < 2 * (s.size : Int)) = true := by simp; omega
    have hV := Lib.hid hv
    clear hv hb
    go_enter Try.func48, Try.ntmps48
    go_wp2_with (go_at_call 55; refine (sDirsV _ _ hs).mono ?_; rintro e w' ⟨rfl, rfl⟩; rw [hV.out])
    go_ret2
    exact ⟨ret_string_bool (by rw [hn.out]; rfl) (by rw [hn2.out]), rfl⟩
  have hd : decide ((30 : Int) < 2 * (s.size : Int)) = false := by simp; omega
  have hb := trOk_yes hv hL
  have hn := hide (trS_yes hb)
  have hn2 := hide hb
  have hV := Lib.hid hv
  clear hv hb hL
  go_enter Try.func48, Try.ntmps48
  go_wp2_with (go_at_call 55; refine (sDirsV _ _ hs).mono ?_; rintro e w' ⟨rfl, rfl⟩; rw [hV.out])
  go_loop [4, 5] (fun o i => ∃ k : Nat, k ≤ s.size ∧ i = .int .i64 k ∧ o = .string (baOf (trL (s.data.toList.take k)))) (fun _ i => s.size - (intOf i).toNat)
  case atStart => exact ⟨0, Nat.zero_le _, rfl, rfl⟩
  case round =>
    obtain ⟨k, hk, rfl, rfl⟩ := hrel
    by_cases hlt : k < s.size
    · have hsz := tr_size s k
      by_cases hc : (s[k].toNat : Int) = 85
      · have hst := hide (tr_u s k hlt hc)
        go_wp2
        go_round
        case rel => exact ⟨k + 1, by omega, by go_num, by rw [hst.out]⟩
        case measure => simp [intOf]; omega
      · have hst := hide (tr_d s k hlt hc)
        have hd : ((s[k].toNat : Int) == 85) = false := by simpa using hc
        clear hc
        go_wp2
        go_round
        case rel => exact ⟨k + 1, by omega, by go_num, by rw [hst.out]⟩
        case measure => simp [intOf]; omega
    · obtain rfl : k = s.size := by omega
      have hfin := hide (tr_all s)
      go_wp2
      go_ret2
      exact ⟨ret_string_bool (by rw [hfin.out, hn.out]) (by rw [hn2.out]), rfl⟩
set_option maxHeartbeats 1000000 in
/-- The program's TokenTrains. -/
theorem iTrains (s : ByteArray) (w : World) (hs : s.size ≤ 1048576) :
    Calls Try.prog 47 #[.string s] w fun e w' => e = .returned (.tuple #[.string (trS s), .bool (trOk s.data.toList)]) ∧ Below w.heap.size w w' := by
  cases hv : dirsV s.data.toList
  · have hb := trOk_dir hv
    have hn := hide (trS_no hb)
    have hn2 := hide hb
    have hV := Lib.hid hv
    clear hv hb
    go_enter Try.func47, Try.ntmps47
    go_wp2_with (go_at_call 54; refine (iDirsV _ _ hs).mono ?_; rintro e w' ⟨rfl, rfl⟩; rw [hV.out])
    go_ret2
    exact ⟨ret_string_bool (by rw [hn.out]; rfl) (by rw [hn2.out]), Below.refl _ _⟩
  have hlen := dirs_len hv
  by_cases hL : 30 < 2 * s.size
  · have hb := trOk_long hL
    have hn := hide (trS_no hb)
    have hn2 := hide hb
    have hd : decide ((30 : Int) < 2 * (s.size : Int)) = true := by simp; omega
    have hV := Lib.hid hv
    clear hv hb
    go_enter Try.func47, Try.ntmps47
    go_wp2_with (go_at_call 54; refine (iDirsV _ _ hs).mono ?_; rintro e w' ⟨rfl, rfl⟩; rw [hV.out])
    go_ret2
    exact ⟨ret_string_bool (by rw [hn.out]; rfl) (by rw [hn2.out]), Below.refl _ _⟩
  have hd : decide ((30 : Int) < 2 * (s.size : Int)) = false := by simp; omega
  have hb := trOk_yes hv hL
  have hn := hide (trS_yes hb)
  have hn2 := hide hb
  have hV := Lib.hid hv
  clear hv hb hL
  go_enter Try.func47, Try.ntmps47
  go_wp2_with (go_at_call 54; refine (iDirsV _ _ hs).mono ?_; rintro e w' ⟨rfl, rfl⟩; rw [hV.out])
  go_loopw [17] (fun i wr => ∃ k : Nat, k ≤ s.size ∧ i = .int .i64 k ∧ Lib.IsBuilder 81 5 w.heap.size w.heap.size (Lib.byteCells (trL (s.data.toList.take k))) wr ∧ Below w.heap.size w wr) (fun i _ => s.size - (intOf i).toNat)
  case atStart => exact ⟨0, Nat.zero_le _, rfl, by rw [trb_zero]; exact Lib.fresh_isBuilder _ _ _, by go_grown⟩
  case round =>
    obtain ⟨k, hk, rfl, hB, hb⟩ := hrel
    have hbz := hb.size
    by_cases hlt : k < s.size
    · have hsz := tr_cells s k
      by_cases hc : (s[k].toNat : Int) = 85
      · have hst := hide (trb_u s k hlt hc)
        go_wp2_with (go_at_call 71; refine (bWrite _ _ _ _ _ hB (by have e : (ByteArray.mk #[97, 112]).size = 2 := rfl; omega) hbz).mono ?_; rintro e w1 ⟨rfl, hB1, hb1⟩)
        go_roundw
        case rel => exact ⟨k + 1, by omega, by go_num, by rw [← hst.out]; exact .inr hB1, hb.trans hb1⟩
        case measure => simp [intOf]; omega
      · have hst := hide (trb_d s k hlt hc)
        have hd : ((s[k].toNat : Int) == 85) = false := by simpa using hc
        clear hc
        go_wp2_with (go_at_call 71; refine (bWrite _ _ _ _ _ hB (by have e : (ByteArray.mk #[98, 112]).size = 2 := rfl; omega) hbz).mono ?_; rintro e w1 ⟨rfl, hB1, hb1⟩)
        go_roundw
        case rel => exact ⟨k + 1, by omega, by go_num, by rw [← hst.out]; exact .inr hB1, hb.trans hb1⟩
        case measure => simp [intOf]; omega
    · obtain rfl : k = s.size := by omega
      have hfin := hide (tr_all s)
      go_wp2_with (go_at_call 72; refine (bString _ _ _ _ hB hbz).mono ?_; rintro e w1 ⟨rfl, hb1⟩)
      go_ret2
      exact ⟨ret_string_bool (by rw [hn.out, ← hfin.out]; rfl) (by rw [hn2.out]), hb.trans hb1⟩
end Go.Proofs.Ytejggpejmooegaa
