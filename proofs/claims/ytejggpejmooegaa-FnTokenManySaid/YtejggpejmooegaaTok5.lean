/-
  Contracts of l6tNeeds and TokenNeeds, the program's and the reference's.
-/
import Derived.Test.YtejggpejmooegaaTok1
import Derived.Test.YtejggpejmooegaaTok5P
namespace Go.Proofs.Ytejggpejmooegaa
open Go.RowKit

set_option maxHeartbeats 400000 in
/-- l6tNeeds. -/
theorem sNeeds (s : ByteArray) (w : World) (hs : s.size ≤ 1048576) :
    Calls Try.prog 60 #[.string s] w fun e w' => e = .returned (.tuple #[.int .i64 (needA s.data.toList), .int .i64 (needB s.data.toList)]) ∧ w = w' := by
  obtain ⟨z1, z2, z3⟩ := need_nil s
  have hz1 := hide z1
  have hz2 := hide z2
  have hz3 := hide z3
  clear z1 z2 z3
  go_enter Try.func60, Try.ntmps60
  go_wp2
  go_loop [4, 5, 6, 7] (fun b a c i => ∃ k : Nat, k ≤ s.size ∧ i = .int .i64 k ∧ b = .int .i64 (-bal (s.data.toList.take k)) ∧ a = .int .i64 (-needA (s.data.toList.take k)) ∧ c = .int .i64 (needB (s.data.toList.take k))) (fun _ _ _ i => s.size - (intOf i).toNat)
  case atStart => exact ⟨0, Nat.zero_le _, rfl, by rw [hz1.out]; rfl, by rw [hz2.out]; rfl, by rw [hz3.out]⟩
  case round =>
    obtain ⟨k, hk, rfl, rfl, rfl, rfl⟩ := hrel
    have hbd := need_len s k
    by_cases hlt : k < s.size
    · by_cases hc : (s[k].toNat : Int) = 85
      · have hst := hide (need_u s k hlt hc)
        generalize hb : bal (s.data.toList.take k) = b at *
        generalize ha : needA (s.data.toList.take k) = a at *
        generalize hbb : needB (s.data.toList.take k) = c at *
        clear hb ha hbb
        go_wp2
        go_round
        case rel => exact ⟨k + 1, by omega, by go_num, int_eq (by rw [hst.out.1]; first | done | omega), int_eq (by rw [hst.out.2.1]; first | done | omega | (split <;> omega)), int_eq (by rw [hst.out.2.2]; first | done | omega | (split <;> omega))⟩
        case measure => simp [intOf]; omega
      · have hst := hide (need_d s k hlt hc)
        have hd : ((s[k].toNat : Int) == 85) = false := by simpa using hc
        clear hc
        generalize hb : bal (s.data.toList.take k) = b at *
        generalize ha : needA (s.data.toList.take k) = a at *
        generalize hbb : needB (s.data.toList.take k) = c at *
        clear hb ha hbb
        go_wp2
        go_round
        case rel => exact ⟨k + 1, by omega, by go_num, int_eq (by rw [hst.out.1]; first | done | omega), int_eq (by rw [hst.out.2.1]; first | done | omega | (split <;> omega)), int_eq (by rw [hst.out.2.2]; first | done | omega | (split <;> omega))⟩
        case measure => simp [intOf]; omega
    · obtain rfl : k = s.size := by omega
      have hfin := hide (need_all s)
      go_wp2
      go_ret2
      exact ⟨ret_int2 (by rw [hfin.out.1]; first | done | omega) (by rw [hfin.out.2]), rfl⟩
/-- The reference's TokenNeeds. -/
theorem sTokNeeds (s : ByteArray) (w : World) (hs : s.size ≤ 1048576) :
    Calls Try.prog 28 #[.string s] w fun e w' => e = .returned (.tuple #[.int .i64 (needsA s.data.toList), .int .i64 (needsB s.data.toList), .bool (dirsV s.data.toList)]) ∧ w = w' := by
  cases hv : dirsV s.data.toList
  · have hn := hide (needs_no hv)
    have hV := Lib.hid hv
    clear hv
    go_enter Try.func28, Try.ntmps28
    go_wp2_with (go_at_call 55; refine (sDirsV _ _ hs).mono ?_; rintro e w' ⟨rfl, rfl⟩; rw [hV.out])
    go_ret3
    exact ⟨ret_int2b hn.1.symm hn.2.symm rfl, rfl⟩
  have hn := hide (needs_yes hv)
  have hV := Lib.hid hv
  clear hv
  go_enter Try.func28, Try.ntmps28
  go_wp2_with (first | (go_at_call 55; refine (sDirsV _ _ hs).mono ?_; rintro e w' ⟨rfl, rfl⟩; rw [hV.out]) | (go_at_call 60; refine (sNeeds _ _ hs).mono ?_; rintro e w' ⟨rfl, rfl⟩))
  go_ret3
  exact ⟨ret_int2b hn.1.symm hn.2.symm rfl, rfl⟩
set_option maxHeartbeats 400000 in
/-- The program's TokenNeeds. -/
theorem iTokNeeds (s : ByteArray) (w : World) (hs : s.size ≤ 1048576) :
    Calls Try.prog 27 #[.string s] w fun e w' => e = .returned (.tuple #[.int .i64 (needsA s.data.toList), .int .i64 (needsB s.data.toList), .bool (dirsV s.data.toList)]) ∧ w = w' := by
  cases hv : dirsV s.data.toList
  · have hn := hide (needs_no hv)
    have hV := Lib.hid hv
    clear hv
    go_enter Try.func27, Try.ntmps27
    go_wp2_with (go_at_call 54; refine (iDirsV _ _ hs).mono ?_; rintro e w' ⟨rfl, rfl⟩; rw [hV.out])
    go_ret3
    exact ⟨ret_int2b hn.1.symm hn.2.symm rfl, rfl⟩
  have hn := hide (needs_yes hv)
  have hV := Lib.hid hv
  clear hv
  obtain ⟨z1, z2, z3⟩ := need_nil s
  have hz1 := hide z1
  have hz2 := hide z2
  have hz3 := hide z3
  clear z1 z2 z3
  go_enter Try.func27, Try.ntmps27
  go_wp2_with (go_at_call 54; refine (iDirsV _ _ hs).mono ?_; rintro e w' ⟨rfl, rfl⟩; rw [hV.out])
  go_loop [5, 6, 7, 14] (fun b a c i => ∃ k : Nat, k ≤ s.size ∧ i = .int .i64 k ∧ b = .int .i64 (bal (s.data.toList.take k)) ∧ a = .int .i64 (needA (s.data.toList.take k)) ∧ c = .int .i64 (needB (s.data.toList.take k))) (fun _ _ _ i => s.size - (intOf i).toNat)
  case atStart => exact ⟨0, Nat.zero_le _, rfl, by rw [hz1.out], by rw [hz2.out], by rw [hz3.out]⟩
  case round =>
    obtain ⟨k, hk, rfl, rfl, rfl, rfl⟩ := hrel
    have hbd := need_len s k
    by_cases hlt : k < s.size
    · by_cases hc : (s[k].toNat : Int) = 85
      · have hst := hide (need_u s k hlt hc)
        generalize hb : bal (s.data.toList.take k) = b at *
        generalize ha : needA (s.data.toList.take k) = a at *
        generalize hbb : needB (s.data.toList.take k) = c at *
        clear hb ha hbb
        go_wp2
        go_round
        case rel => exact ⟨k + 1, by omega, by go_num, int_eq (by rw [hst.out.1]), int_eq (by rw [hst.out.2.1]; first | done | omega | (split <;> omega)), int_eq (by rw [hst.out.2.2]; first | done | omega | (split <;> omega))⟩
        case measure => simp [intOf]; omega
      · have hst := hide (need_d s k hlt hc)
        have hd : ((s[k].toNat : Int) == 85) = false := by simpa using hc
        clear hc
        generalize hb : bal (s.data.toList.take k) = b at *
        generalize ha : needA (s.data.toList.take k) = a at *
        generalize hbb : needB (s.data.toList.take k) = c at *
        clear hb ha hbb
        go_wp2
        go_round
        case rel => exact ⟨k + 1, by omega, by go_num, int_eq (by rw [hst.out.1]), int_eq (by rw [hst.out.2.1]; first | done | omega | (split <;> omega)), int_eq (by rw [hst.out.2.2]; first | done | omega | (split <;> omega))⟩
        case measure => simp [intOf]; omega
    · obtain rfl : k = s.size := by omega
      have hfin := hide (need_all s)
      go_wp2
      go_ret3
      exact ⟨ret_int2b (by rw [hfin.out.1, hn.out.1]) (by rw [hfin.out.2, hn.out.2]) rfl, rfl⟩
end Go.Proofs.Ytejggpejmooegaa
