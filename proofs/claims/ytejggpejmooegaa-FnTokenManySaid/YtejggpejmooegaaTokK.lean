/-
  Contracts of StaffKinds, the program's and the reference's.
-/
import Derived.Test.YtejggpejmooegaaTokKP
import Derived.Test.YtejggpejmooegaaTok4
import Derived.RegionTactic
import Derived.ChangeAlike
import Derived.BigQuiet
import Derived.Deep.QuietTactic
namespace Go.Proofs.Ytejggpejmooegaa
open Go.RowKit

theorem bf_step2 {w : World} {b t n k : Nat} {T : List UInt8} {v u : Value} (h : w.rowIs b t n (bf T k)) (hv : v = .int .u8 ((T.getD k 0).toNat : Int)) (q : Nat) : (((w.setCell ⟨b, k, none⟩ u).drewN q).setCell ⟨b, k, none⟩ v).rowIs b t n (bf T (k + 1)) :=
  (World.rowIs.set (show ((w.setCell ⟨b, k, none⟩ u).drewN q).rowIs b t n _ from h.set k u) k v).congr fun j _ => by
    simp only [bf]
    by_cases e : j = k
    · subst e; rw [if_pos rfl, if_pos (by omega), hv]
    · rw [if_neg e, if_neg e]
      by_cases h2 : j < k
      · rw [if_pos h2, if_pos (by omega)]
      · rw [if_neg h2, if_neg (by omega)]
theorem sStaffRv (a : Int) (s t : ByteArray) (v : Bool) (w : World) (hs : s.size ≤ 1048576) (ht : t.size ≤ 1048576) (h : (staffR a s.data.toList t.data.toList).isSome = v) :
    Calls Try.prog 41 #[.int .i64 a, .string s, .string t] w fun e w' => e = .returned (.tuple #[.int .i64 (soN (staffR a s.data.toList t.data.toList)), .bool v]) ∧ w = w' := by
  subst h; exact sStaffR a s t w hs ht
theorem kinds_nil_run (a : Int) (s : ByteArray) (h : dirsV s.data.toList = false) : (staffR a s.data.toList (baOf []).data.toList).isSome = false := by
  rw [staffR_dir h]; rfl
set_option maxHeartbeats 1000000 in
/-- The reference's StaffKinds. -/
theorem sKinds (a : Int) (s : ByteArray) (w : World) (hs : s.size ≤ 1048576) :
    Calls Try.prog 45 #[.int .i64 a, .string s] w fun e w' => e = .returned (.tuple #[.string (kS a s), .bool (kB a s.data.toList)]) ∧ Below w.heap.size w w' := by
  cases hv : dirsV s.data.toList
  · have hb := kB_dir (a := a) hv
    have hn := hide (kS_no hb)
    have hn2 := hide hb
    have hr := hide (kinds_nil_run a s hv)
    have hV := Lib.hid hv
    clear hv hb
    go_enter Try.func45, Try.ntmps45
    go_wp2
    go_loop [6, 7] (fun o i => o = .string (baOf []) ∧ i = .int .i64 0) (fun _ _ => 0)
    case atStart => exact ⟨rfl, rfl⟩
    case round =>
      obtain ⟨rfl, rfl⟩ := hrel
      go_wp2_with (first
        | (go_at_call 55; refine (sDirsV _ _ hs).mono ?_; rintro e w' ⟨rfl, rfl⟩; rw [hV.out])
        | (go_at_call 41; refine (sStaffRv _ _ (baOf []) _ _ hs (by decide) hr.out).mono ?_; rintro e w' ⟨rfl, rfl⟩))
      all_goals
        go_ret2
        exact ⟨ret_string_bool (by rw [hn.out]; rfl) (by rw [hn2.out]), Below.refl _ _⟩
  have hlen := dirs_len hv
  have hV := Lib.hid hv
  have hrun := hide (kinds_run a s hv)
  clear hv
  go_enter Try.func45, Try.ntmps45
  go_wp2
  go_loopw [6, 7] (fun o i wr => ∃ k : Nat, k ≤ s.size ∧ i = .int .i64 k ∧ o = .string (baOf (kindsTo s k)) ∧ Below w.heap.size w wr) (fun _ i _ => s.size - (intOf i).toNat)
  case atStart => exact ⟨0, Nat.zero_le _, rfl, rfl, Below.refl _ _⟩
  case round =>
    obtain ⟨k, hk, rfl, rfl, hb⟩ := hrel
    have hsz : (baOf (kindsTo s k)).size ≤ k := by rw [kindsTo_size]; exact Nat.le_refl _
    by_cases hlt : k < s.size
    · have hk0 : (0 : Int) ≤ (k : Int) := by omega
      have hk1 : (k : Int) < (s.size : Int) := by omega
      have hk2 : (0 : Int) ≤ (k : Int) + 1 := by omega
      by_cases h1 : k + 1 < s.size
      · have hg : (k : Int) + 1 < (s.size : Int) := by omega
        by_cases he : s[k + 1] = s[k]
        · have hst := hide (kinds_t s k h1 he)
          have hd := byte_eq he
          clear he
          go_wp2_with (go_at_call 55; refine (sDirsV _ _ hs).mono ?_; rintro e w' ⟨rfl, rfl⟩; rw [hV.out])
          go_quiet (fail)
          go_wp2
          go_roundw
          case rel => exact ⟨k + 1, by omega, by go_num, by rw [hst.out], below_drewN hb _⟩
          case measure => simp [intOf]; omega
        · have hst := hide (kinds_s s k h1 he)
          have hd := byte_ne he
          clear he
          go_wp2_with (go_at_call 55; refine (sDirsV _ _ hs).mono ?_; rintro e w' ⟨rfl, rfl⟩; rw [hV.out])
          go_quiet (fail)
          go_wp2
          go_roundw
          case rel => exact ⟨k + 1, by omega, by go_num, by rw [hst.out], below_drewN hb _⟩
          case measure => simp [intOf]; omega
      · have hst := hide (kinds_end s k h1)
        have hg : decide ((k : Int) + 1 < (s.size : Int)) = false := by simp; omega
        have hg2 : ¬ (k : Int) + 1 < (s.size : Int) := by omega
        go_wp2_with (go_at_call 55; refine (sDirsV _ _ hs).mono ?_; rintro e w' ⟨rfl, rfl⟩; rw [hV.out])
        go_quiet (fail)
        go_wp2
        go_roundw
        case rel => exact ⟨k + 1, by omega, by go_num, by rw [hst.out], below_drewN hb _⟩
        case measure => simp [intOf]; omega
    · obtain rfl : k = s.size := by omega
      cases hB : kB a s.data.toList
      · have hn := hide (kS_no hB)
        have hr := hide (hrun.out.trans hB)
        have hn2 := hide hB
        clear hB
        go_wp2_with (go_at_call 41; refine (sStaffRv _ _ _ _ _ hs (by omega) hr.out).mono ?_; rintro e w' ⟨rfl, rfl⟩)
        go_ret2
        exact ⟨ret_string_bool (by rw [hn.out]; rfl) (by rw [hn2.out]), hb⟩
      · have hn := hide (kS_yes hB)
        have hr := hide (hrun.out.trans hB)
        have hn2 := hide hB
        clear hB
        go_wp2_with (go_at_call 41; refine (sStaffRv _ _ _ _ _ hs (by omega) hr.out).mono ?_; rintro e w' ⟨rfl, rfl⟩)
        go_ret2
        exact ⟨ret_string_bool (by rw [hn.out]) (by rw [hn2.out]), hb⟩
set_option maxHeartbeats 2000000 in
/-- The program's StaffKinds. -/
theorem iKinds (a : Int) (s : ByteArray) (w : World) (hs : s.size ≤ 1048576) :
    Calls Try.prog 44 #[.int .i64 a, .string s] w fun e w' => e = .returned (.tuple #[.string (kS a s), .bool (kB a s.data.toList)]) ∧ Below w.heap.size w w' := by
  by_cases ha0 : a = 0 ∨ a = 1
  rotate_left
  · have hb := kB_at (l := s.data.toList) ha0
    have hn := hide (kS_no hb)
    have hn2 := hide hb
    have ha := Lib.hid ha0
    clear ha0 hb
    go_enter Try.func44, Try.ntmps44
    go_wp2_with (go_at_call 61; refine (iIsEnd_no _ _ ha.out).mono ?_; rintro e w' ⟨rfl, rfl⟩)
    go_ret2
    exact ⟨ret_string_bool (by rw [hn.out]; rfl) (by rw [hn2.out]), by go_grown⟩
  have ha := Lib.hid ha0
  clear ha0
  cases hv : dirsV s.data.toList
  · have hb := kB_dir (a := a) hv
    have hn := hide (kS_no hb)
    have hn2 := hide hb
    have hV := Lib.hid hv
    clear hv hb
    go_enter Try.func44, Try.ntmps44
    go_wp2_with (first
      | (go_at_call 61; refine (iIsEnd_yes _ _ ha.out).mono ?_; rintro e w' ⟨rfl, rfl⟩)
      | (go_at_call 54; refine (iDirsV _ _ hs).mono ?_; rintro e w' ⟨rfl, rfl⟩; rw [hV.out]))
    go_ret2
    exact ⟨ret_string_bool (by rw [hn.out]; rfl) (by rw [hn2.out]), by go_grown⟩
  have hlen := dirs_len hv
  have hV := Lib.hid hv
  have hmk := run_make_row' (P := Try.prog) 22 5 (.int .u8 0) 1 Try.underlying22 u8info rfl .i64 .i64 s.size (by omega) (by omega)
  have hrow := World.rowIs_made w (.int .u8 0) s.size 5
  have hnn : Hid (kB a s.data.toList = headOk a s.data.toList) := by
    show kB a s.data.toList = headOk a s.data.toList
    unfold kB; rw [hv]; simp [ha.out]
  clear hv
  cases hh : headOk a s.data.toList
  · have h0 : 0 < s.size := by
      rcases Nat.eq_zero_or_pos s.size with h | h
      · rw [headOk_nil h] at hh; cases hh
      · exact h
    have hb := hnn.out.trans hh
    have hn := hide (kS_no hb)
    have hn2 := hide hb
    rw [headOk_cons h0] at hh
    have h0' : (0 : Int) < (s.size : Int) := by omega
    have hne : ¬ endOf s[0] = a := by simpa using hh
    generalize he : endOf s[0] = z at *
    have hE := Lib.hid he
    have hq : (z != a) = true := by simpa using hne
    clear he hne hb hh hmk hrow hnn
    go_enter Try.func44, Try.ntmps44
    go_wp2_with (first
      | (go_at_call 61; refine (iIsEnd_yes _ _ ha.out).mono ?_; rintro e w' ⟨rfl, rfl⟩)
      | (go_at_call 54; refine (iDirsV _ _ hs).mono ?_; rintro e w' ⟨rfl, rfl⟩; rw [hV.out])
      | (go_at_call 62; refine (iEnd _ _).mono ?_; rintro e w' ⟨rfl, rfl⟩; rw [hE.out]))
    go_ret2
    exact ⟨ret_string_bool (by rw [hn.out]; rfl) (by rw [hn2.out]), by go_grown⟩
  have hb := hnn.out.trans hh
  have hn := hide (kS_yes hb)
  have hn2 := hide hb
  by_cases h0 : 0 < s.size
  · rw [headOk_cons h0] at hh
    have h0' : (0 : Int) < (s.size : Int) := by omega
    have he : endOf s[0] = a := by simpa using hh
    have hE := Lib.hid he
    clear he
    clear hnn hb hh
    go_enter Try.func44, Try.ntmps44
    go_wp2_with (first
      | (go_at_call 61; refine (iIsEnd_yes _ _ ha.out).mono ?_; rintro e w' ⟨rfl, rfl⟩)
      | (go_at_call 54; refine (iDirsV _ _ hs).mono ?_; rintro e w' ⟨rfl, rfl⟩; rw [hV.out])
      | (go_at_call 62; refine (iEnd _ _).mono ?_; rintro e w' ⟨rfl, rfl⟩; rw [hE.out]))
    go_loopw [31] (fun i wr => ∃ k : Nat, k ≤ s.size ∧ i = .int .i64 k ∧ wr.rowIs w.heap.size 5 s.size (bf (kindsTo s s.size) k) ∧ Below w.heap.size w wr) (fun i _ => s.size - (intOf i).toNat)
    case atStart => exact ⟨0, Nat.zero_le _, rfl, by rw [bf_zero]; exact hrow, by go_grown⟩
    case round =>
      obtain ⟨k, hk, rfl, hr, hb⟩ := hrel
      clear hmk hrow
      by_cases hlt : k < s.size
      · obtain ⟨v0, hcell⟩ : ∃ v, wr.cell? ⟨w.heap.size, k, none⟩ = some v := ⟨_, hr.cell hlt⟩
        have hfz := hr.frozen k
        have hk0 : (0 : Int) ≤ (k : Int) := by omega
        have hk1 : (k : Int) < (s.size : Int) := by omega
        have hk2 : (0 : Int) ≤ (k : Int) + 1 := by omega
        by_cases h1 : k + 1 < s.size
        · have hg : (k : Int) + 1 < (s.size : Int) := by omega
          by_cases he : s[k + 1] = s[k]
          · have hst := hide (bf_step (v := .int .u8 84) hr (by rw [kindsTo_at s _ k hlt, kindC_t h1 he]; rfl))
            have hd := byte_eq he
            clear he
            go_wp2
            go_quiet (fail)
            go_wp2
            go_roundw
            case rel => exact ⟨k + 1, by omega, by go_num, hst, below_drewN (by go_grown) _⟩
            case measure => simp [intOf]; omega
          · have hst := fun q => hide (bf_step2 (v := .int .u8 83) (u := .int .u8 84) hr (by rw [kindsTo_at s _ k hlt, kindC_s h1 he]; rfl) q)
            have hd := byte_ne he
            clear he
            go_wp2
            go_quiet (fail)
            go_wp2
            go_roundw
            case rel => exact ⟨k + 1, by omega, by go_num, hst _, Below.setCell (below_drewN (by go_grown) _) (by simp) _⟩
            case measure => simp [intOf]; omega
        · have hst := hide (bf_step (v := .int .u8 84) hr (by rw [kindsTo_at s _ k hlt, kindC_end h1]; rfl))
          have hg : decide ((k : Int) + 1 < (s.size : Int)) = false := decide_eq_false (by omega)
          have hg2 : ¬ (k : Int) + 1 < (s.size : Int) := by omega
          go_wp2
          go_quiet (fail)
          go_wp2
          go_roundw
          case rel => exact ⟨k + 1, by omega, by go_num, hst, below_drewN (by go_grown) _⟩
          case measure => simp [intOf]; omega
      · obtain rfl : k = s.size := by omega
        have hcv := conv_row (P := Try.prog) (kindsTo s s.size) Try.underlying22 Try.underlying5 hr (kindsTo_len s s.size) 9 Try.underlying9
        go_wp2
        go_ret2
        exact ⟨ret_string_bool (by rw [hn.out]) (by rw [hn2.out]), hb⟩
  · have h0' : decide ((0 : Int) < (s.size : Int)) = false := decide_eq_false (by omega)
    have h0'' : ¬ (0 : Int) < (s.size : Int) := by omega
    clear hnn hb hh
    go_enter Try.func44, Try.ntmps44
    go_wp2_with (first
      | (go_at_call 61; refine (iIsEnd_yes _ _ ha.out).mono ?_; rintro e w' ⟨rfl, rfl⟩)
      | (go_at_call 54; refine (iDirsV _ _ hs).mono ?_; rintro e w' ⟨rfl, rfl⟩; rw [hV.out])
      | (go_at_call 62; refine (iEnd _ _).mono ?_; rintro e w' ⟨rfl, rfl⟩; rw [hE.out]))
    go_loopw [31] (fun i wr => ∃ k : Nat, k ≤ s.size ∧ i = .int .i64 k ∧ wr.rowIs w.heap.size 5 s.size (bf (kindsTo s s.size) k) ∧ Below w.heap.size w wr) (fun i _ => s.size - (intOf i).toNat)
    case atStart => exact ⟨0, Nat.zero_le _, rfl, by rw [bf_zero]; exact hrow, by go_grown⟩
    case round =>
      obtain ⟨k, hk, rfl, hr, hb⟩ := hrel
      clear hmk hrow
      obtain rfl : k = s.size := by omega
      have hcv := conv_row (P := Try.prog) (kindsTo s s.size) Try.underlying22 Try.underlying5 hr (kindsTo_len s s.size) 9 Try.underlying9
      go_wp2
      go_ret2
      exact ⟨ret_string_bool (by rw [hn.out]) (by rw [hn2.out]), hb⟩
end Go.Proofs.Ytejggpejmooegaa
