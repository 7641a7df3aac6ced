/-
  Contracts of the functions on the staff: startEnd, isEnd, StaffMany, StaffRun, the program's and the reference's.
-/
import Derived.Test.YtejggpejmooegaaTok3
import Derived.Test.YtejggpejmooegaaTok6P
import Derived.BigQuiet
import Derived.Deep.QuietTactic
namespace Go.Proofs.Ytejggpejmooegaa
open Go.RowKit

theorem sEnd (c : UInt8) (w : World) : Calls Try.prog 64 #[.int .u8 (c.toNat : Int)] w fun e w' => e = .returned (.int .i64 (endOf c)) ∧ w = w' := by
  by_cases hc : (c.toNat : Int) = 85
  · have hn := hide (endOf_u hc)
    go_enter Try.func64, Try.ntmps64
    go_wp2
    go_ret
    exact ⟨ret_int hn.symm, rfl⟩
  · have hn := hide (endOf_d hc)
    have hd : ((c.toNat : Int) == 85) = false := by simpa using hc
    clear hc
    go_enter Try.func64, Try.ntmps64
    go_wp2
    go_ret
    exact ⟨ret_int hn.symm, rfl⟩
theorem iEnd (c : UInt8) (w : World) : Calls Try.prog 62 #[.int .u8 (c.toNat : Int)] w fun e w' => e = .returned (.int .i64 (endOf c)) ∧ w = w' := by
  by_cases hc : (c.toNat : Int) = 85
  · have hn := hide (endOf_u hc)
    go_enter Try.func62, Try.ntmps62
    go_wp2
    go_ret
    exact ⟨ret_int hn.symm, rfl⟩
  · have hn := hide (endOf_d hc)
    have hd : ((c.toNat : Int) == 85) = false := by simpa using hc
    clear hc
    go_enter Try.func62, Try.ntmps62
    go_wp2
    go_ret
    exact ⟨ret_int hn.symm, rfl⟩
theorem iIsEnd_yes (a : Int) (w : World) (h : a = 0 ∨ a = 1) : Calls Try.prog 61 #[.int .i64 a] w fun e w' => e = .returned (.bool true) ∧ w = w' := by
  rcases h with rfl | rfl
  all_goals
    go_enter Try.func61, Try.ntmps61
    go_wp2
    go_ret
    exact ⟨rfl, rfl⟩
theorem iIsEnd_no (a : Int) (w : World) (h : ¬ (a = 0 ∨ a = 1)) : Calls Try.prog 61 #[.int .i64 a] w fun e w' => e = .returned (.bool false) ∧ w = w' := by
  have h1 : (a == 0) = false := by simp; omega
  have h2 : (a == 1) = false := by simp; omega
  clear h
  go_enter Try.func61, Try.ntmps61
  go_wp2
  go_ret
  exact ⟨rfl, rfl⟩
theorem zo_in {a : Int} (h : a = 0 ∨ a = 1) : 0 ≤ a ∧ a ≤ 1 := by omega
theorem zo_out {a : Int} (h : ¬ (a = 0 ∨ a = 1)) : ¬ (0 ≤ a ∧ a ≤ 1) := by omega
set_option maxHeartbeats 400000 in
theorem sStaffM (a : Int) (s : ByteArray) (w : World) (hs : s.size ≤ 1048576) :
    Calls Try.prog 31 #[.int .i64 a, .string s] w fun e w' => e = .returned (.int .i64 (staffM a s.data.toList)) ∧ w = w' := by
  by_cases ha0 : a = 0 ∨ a = 1
  rotate_left
  · have hn := hide (staffM_at (l := s.data.toList) ha0)
    have ha := Lib.hid ha0
    clear ha0
    go_enter Try.func31, Try.ntmps31
    go_wp2_with (go_at_call 63; refine (sIn_no _ _ _ _ (zo_out ha.out)).mono ?_; rintro e w' ⟨rfl, rfl⟩)
    go_ret
    exact ⟨ret_int hn.symm, rfl⟩
  have ha := Lib.hid ha0
  clear ha0
  cases hv : dirsV s.data.toList
  · have hn := hide (staffM_dir (a := a) hv)
    have hV := Lib.hid hv
    clear hv
    go_enter Try.func31, Try.ntmps31
    go_wp2_with (first
      | (go_at_call 63; refine (sIn_yes _ _ _ _ (zo_in ha.out)).mono ?_; rintro e w' ⟨rfl, rfl⟩)
      | (go_at_call 55; refine (sDirsV _ _ hs).mono ?_; rintro e w' ⟨rfl, rfl⟩; rw [hV.out]))
    go_ret
    exact ⟨ret_int hn.symm, rfl⟩
  have hlen := dirs_len hv
  by_cases h0 : s.size = 0
  · have hn := hide (staffM_nil ha.out hv h0)
    have hV := Lib.hid hv
    have hd : ((s.size : Int) == 0) = true := beq_iff_eq.2 (by omega)
    clear hv h0
    go_enter Try.func31, Try.ntmps31
    go_wp2_with (first
      | (go_at_call 63; refine (sIn_yes _ _ _ _ (zo_in ha.out)).mono ?_; rintro e w' ⟨rfl, rfl⟩)
      | (go_at_call 55; refine (sDirsV _ _ hs).mono ?_; rintro e w' ⟨rfl, rfl⟩; rw [hV.out]))
    go_ret
    exact ⟨ret_int hn.symm, rfl⟩
  have h1 : 0 < s.size := by omega
  have hn := staffM_cons ha.out hv h1
  have hV := Lib.hid hv
  have hd : ((s.size : Int) == 0) = false := beq_eq_false_iff_ne.2 (by omega)
  clear hv h0
  have hb := endOf_bd s[0]
  generalize he : endOf s[0] = z at *
  have hE := Lib.hid he
  clear he
  by_cases hz : z = a
  · rw [if_pos hz] at hn
    have hN := Lib.hid hn
    have hq : (z != a) = false := by simpa using hz
    clear hn hz
    go_enter Try.func31, Try.ntmps31
    go_wp2_with (first
      | (go_at_call 63; refine (sIn_yes _ _ _ _ (zo_in ha.out)).mono ?_; rintro e w' ⟨rfl, rfl⟩)
      | (go_at_call 55; refine (sDirsV _ _ hs).mono ?_; rintro e w' ⟨rfl, rfl⟩; rw [hV.out])
      | (go_at_call 64; refine (sEnd _ _).mono ?_; rintro e w' ⟨rfl, rfl⟩; rw [hE.out]))
    go_ret
    exact ⟨ret_int hN.out.symm, rfl⟩
  · rw [if_neg hz] at hn
    have hN := Lib.hid hn
    have hq : (z != a) = true := by simpa using hz
    clear hn hz
    go_enter Try.func31, Try.ntmps31
    go_wp2_with (first
      | (go_at_call 63; refine (sIn_yes _ _ _ _ (zo_in ha.out)).mono ?_; rintro e w' ⟨rfl, rfl⟩)
      | (go_at_call 55; refine (sDirsV _ _ hs).mono ?_; rintro e w' ⟨rfl, rfl⟩; rw [hV.out])
      | (go_at_call 64; refine (sEnd _ _).mono ?_; rintro e w' ⟨rfl, rfl⟩; rw [hE.out]))
    go_ret
    exact ⟨ret_int hN.out.symm, rfl⟩
set_option maxHeartbeats 400000 in
theorem iStaffM (a : Int) (s : ByteArray) (w : World) (hs : s.size ≤ 1048576) :
    Calls Try.prog 30 #[.int .i64 a, .string s] w fun e w' => e = .returned (.int .i64 (staffM a s.data.toList)) ∧ w = w' := by
  by_cases ha0 : a = 0 ∨ a = 1
  rotate_left
  · have hn := hide (staffM_at (l := s.data.toList) ha0)
    have ha := Lib.hid ha0
    clear ha0
    go_enter Try.func30, Try.ntmps30
    go_wp2_with (go_at_call 61; refine (iIsEnd_no _ _ ha.out).mono ?_; rintro e w' ⟨rfl, rfl⟩)
    go_ret
    exact ⟨ret_int hn.symm, rfl⟩
  have ha := Lib.hid ha0
  clear ha0
  cases hv : dirsV s.data.toList
  · have hn := hide (staffM_dir (a := a) hv)
    have hV := Lib.hid hv
    clear hv
    go_enter Try.func30, Try.ntmps30
    go_wp2_with (first
      | (go_at_call 61; refine (iIsEnd_yes _ _ ha.out).mono ?_; rintro e w' ⟨rfl, rfl⟩)
      | (go_at_call 54; refine (iDirsV _ _ hs).mono ?_; rintro e w' ⟨rfl, rfl⟩; rw [hV.out]))
    go_ret
    exact ⟨ret_int hn.symm, rfl⟩
  have hlen := dirs_len hv
  by_cases h0 : s.size = 0
  · have hn := hide (staffM_nil ha.out hv h0)
    have hV := Lib.hid hv
    have hd : ((s.size : Int) == 0) = true := beq_iff_eq.2 (by omega)
    clear hv h0
    go_enter Try.func30, Try.ntmps30
    go_wp2_with (first
      | (go_at_call 61; refine (iIsEnd_yes _ _ ha.out).mono ?_; rintro e w' ⟨rfl, rfl⟩)
      | (go_at_call 54; refine (iDirsV _ _ hs).mono ?_; rintro e w' ⟨rfl, rfl⟩; rw [hV.out]))
    go_ret
    exact ⟨ret_int hn.symm, rfl⟩
  have h1 : 0 < s.size := by omega
  have hn := staffM_cons ha.out hv h1
  have hV := Lib.hid hv
  have hd : ((s.size : Int) == 0) = false := beq_eq_false_iff_ne.2 (by omega)
  clear hv h0
  have hb := endOf_bd s[0]
  generalize he : endOf s[0] = z at *
  have hE := Lib.hid he
  clear he
  by_cases hz : z = a
  · rw [if_pos hz] at hn
    have hN := Lib.hid hn
    have hq : (z != a) = false := by simpa using hz
    clear hn hz
    go_enter Try.func30, Try.ntmps30
    go_wp2_with (first
      | (go_at_call 61; refine (iIsEnd_yes _ _ ha.out).mono ?_; rintro e w' ⟨rfl, rfl⟩)
      | (go_at_call 54; refine (iDirsV _ _ hs).mono ?_; rintro e w' ⟨rfl, rfl⟩; rw [hV.out])
      | (go_at_call 62; refine (iEnd _ _).mono ?_; rintro e w' ⟨rfl, rfl⟩; rw [hE.out]))
    go_ret
    exact ⟨ret_int hN.out.symm, rfl⟩
  · rw [if_neg hz] at hn
    have hN := Lib.hid hn
    have hq : (z != a) = true := by simpa using hz
    clear hn hz
    go_enter Try.func30, Try.ntmps30
    go_wp2_with (first
      | (go_at_call 61; refine (iIsEnd_yes _ _ ha.out).mono ?_; rintro e w' ⟨rfl, rfl⟩)
      | (go_at_call 54; refine (iDirsV _ _ hs).mono ?_; rintro e w' ⟨rfl, rfl⟩; rw [hV.out])
      | (go_at_call 62; refine (iEnd _ _).mono ?_; rintro e w' ⟨rfl, rfl⟩; rw [hE.out]))
    go_ret
    exact ⟨ret_int hN.out.symm, rfl⟩
end Go.Proofs.Ytejggpejmooegaa
