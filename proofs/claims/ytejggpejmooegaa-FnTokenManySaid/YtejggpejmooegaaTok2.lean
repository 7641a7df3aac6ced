/-
  Contracts of DirectionsChanges, the program's and the reference's.
-/
import Derived.Test.YtejggpejmooegaaTok1
import Derived.Deep.QuietTactic
import Derived.BigQuiet
import Derived.RegionTactic
import Derived.ChangeAlike
import Derived.Deep.Draws
namespace Go.Proofs.Ytejggpejmooegaa
open Go.RowKit

/-- The world after some draws. -/
def Drawn (w w' : World) : Prop := ∃ m, w' = w.drewN m
theorem Drawn.drew {w w' : World} (h : Drawn w w') : Drawn w w'.drew := by
  obtain ⟨m, rfl⟩ := h; exact ⟨m + 1, rfl⟩
theorem Drawn.below {w w' : World} (h : ∃ m, w' = w.drewN m) : Below w.heap.size w w' := by
  obtain ⟨m, rfl⟩ := h; exact ⟨rfl, rfl, rfl, Nat.le_refl _, fun _ _ => rfl⟩
set_option maxHeartbeats 400000 in
/-- The reference's DirectionsChanges. -/
theorem sDirsCq (s : ByteArray) (w : World) (hs : s.size ≤ 1048576) :
    Calls Try.prog 17 #[.string s] w fun e w' => e = .returned (.int .i64 (chgZ s.data.toList)) ∧ ∃ m, w' = w.drewN m := by
  cases hv : dirsV s.data.toList
  · have hn := hide (chgZ_no hv)
    have hV := Lib.hid hv
    clear hv
    go_enter Try.func17, Try.ntmps17
    go_wp2_with (go_at_call 55; refine (sDirsV _ _ hs).mono ?_; rintro e w' ⟨rfl, rfl⟩; rw [hV.out])
    go_ret
    exact ⟨ret_int hn.symm, 0, rfl⟩
  have hlen := dirs_len hv
  have hn := hide (chgZ_yes hv)
  have hV := Lib.hid hv
  clear hv
  go_enter Try.func17, Try.ntmps17
  go_wp2_with (go_at_call 55; refine (sDirsV _ _ hs).mono ?_; rintro e w' ⟨rfl, rfl⟩; rw [hV.out])
  go_loopw [3, 4] (fun n i wr => ∃ k : Nat, (k = 0 ∨ k + 1 ≤ s.size) ∧ i = .int .i64 ((k + 1 : Nat) : Int) ∧ n = .int .i64 (chg (s.data.toList.take (k + 1)) : Int) ∧ Drawn w wr) (fun _ i _ => s.size - (intOf i).toNat)
  case atStart => exact ⟨0, .inl rfl, rfl, by rw [chg_none]; rfl, 0, rfl⟩
  case round =>
    obtain ⟨k, hk, rfl, rfl, hb⟩ := hrel
    by_cases hlt : k + 1 < s.size
    · have h0 : (0 : Int) ≤ (k : Int) := by omega
      have h1 : (k : Int) < (s.size : Int) := by omega
      have h2 : (0 : Int) ≤ (k : Int) + 1 := by omega
      have hcl := chg_le (s.data.toList.take (k + 1))
      have hl : (s.data.toList.take (k + 1)).length ≤ k + 1 := List.length_take_le _ _
      have hstep := hide (chg_take s k hlt)
      by_cases he : s[k + 1] = s[k]
      · have hst : Hid (chg (s.data.toList.take (k + 1 + 1)) = chg (s.data.toList.take (k + 1))) := by
          have := hstep
          unfold Hid at this ⊢
          rw [this, if_pos he.symm]; rfl
        have hd := byte_eq he
        clear he hstep
        go_wp2
        go_region
        all_goals
          go_wp2
          go_roundw
          case rel => exact ⟨k + 1, .inr (by omega), by go_num, by rw [hst.out], hb.drew⟩
          case measure => simp [intOf]; omega
      · have hst : Hid (chg (s.data.toList.take (k + 1 + 1)) = chg (s.data.toList.take (k + 1)) + 1) := by
          have := hstep
          unfold Hid at this ⊢
          rw [this, if_neg (fun h => he h.symm)]
        have hd := byte_ne he
        clear he hstep
        go_wp2
        go_region
        all_goals
          go_wp2
          go_roundw
          case rel => exact ⟨k + 1, .inr (by omega), by go_num, by rw [hst.out]; go_num, hb.drew⟩
          case measure => simp [intOf]; omega
    · have hfin := hide (chg_all s (k + 1) (by omega))
      go_wp2
      go_ret
      exact ⟨ret_int (by rw [hn.out, hfin.out]), hb⟩
set_option maxHeartbeats 400000 in
/-- The program's DirectionsChanges. -/
theorem iDirsCq (s : ByteArray) (w : World) (hs : s.size ≤ 1048576) :
    Calls Try.prog 16 #[.string s] w fun e w' => e = .returned (.int .i64 (chgZ s.data.toList)) ∧ ∃ m, w' = w.drewN m := by
  cases hv : dirsV s.data.toList
  · have hn := hide (chgZ_no hv)
    have hV := Lib.hid hv
    clear hv
    go_enter Try.func16, Try.ntmps16
    go_wp2_with (go_at_call 54; refine (iDirsV _ _ hs).mono ?_; rintro e w' ⟨rfl, rfl⟩; rw [hV.out])
    go_ret
    exact ⟨ret_int hn.symm, 0, rfl⟩
  have hlen := dirs_len hv
  have hn := hide (chgZ_yes hv)
  have hV := Lib.hid hv
  clear hv
  go_enter Try.func16, Try.ntmps16
  go_wp2_with (go_at_call 54; refine (iDirsV _ _ hs).mono ?_; rintro e w' ⟨rfl, rfl⟩; rw [hV.out])
  go_loopw [3, 4] (fun n i wr => ∃ k : Nat, (k = 0 ∨ k + 1 ≤ s.size) ∧ i = .int .i64 ((k + 1 : Nat) : Int) ∧ n = .int .i64 (chg (s.data.toList.take (k + 1)) : Int) ∧ Drawn w wr) (fun _ i _ => s.size - (intOf i).toNat)
  case atStart => exact ⟨0, .inl rfl, rfl, by rw [chg_none]; rfl, 0, rfl⟩
  case round =>
    obtain ⟨k, hk, rfl, rfl, hb⟩ := hrel
    by_cases hlt : k + 1 < s.size
    · have h0 : (0 : Int) ≤ (k : Int) := by omega
      have h1 : (k : Int) < (s.size : Int) := by omega
      have h2 : (0 : Int) ≤ (k : Int) + 1 := by omega
      have hcl := chg_le (s.data.toList.take (k + 1))
      have hl : (s.data.toList.take (k + 1)).length ≤ k + 1 := List.length_take_le _ _
      have hstep := hide (chg_take s k hlt)
      by_cases he : s[k + 1] = s[k]
      · have hst : Hid (chg (s.data.toList.take (k + 1 + 1)) = chg (s.data.toList.take (k + 1))) := by
          have := hstep
          unfold Hid at this ⊢
          rw [this, if_pos he.symm]; rfl
        have hd := byte_eq he
        clear he hstep
        go_wp2
        go_region
        all_goals
          go_wp2
          go_roundw
          case rel => exact ⟨k + 1, .inr (by omega), by go_num, by rw [hst.out], hb.drew⟩
          case measure => simp [intOf]; omega
      · have hst : Hid (chg (s.data.toList.take (k + 1 + 1)) = chg (s.data.toList.take (k + 1)) + 1) := by
          have := hstep
          unfold Hid at this ⊢
          rw [this, if_neg (fun h => he h.symm)]
        have hd := byte_ne he
        clear he hstep
        go_wp2
        go_region
        all_goals
          go_wp2
          go_roundw
          case rel => exact ⟨k + 1, .inr (by omega), by go_num, by rw [hst.out]; go_num, hb.drew⟩
          case measure => simp [intOf]; omega
    · have hfin := hide (chg_all s (k + 1) (by omega))
      go_wp2
      go_ret
      exact ⟨ret_int (by rw [hn.out, hfin.out]), hb⟩
theorem sDirsC (s : ByteArray) (w : World) (hs : s.size ≤ 1048576) :
    Calls Try.prog 17 #[.string s] w fun e w' => e = .returned (.int .i64 (chgZ s.data.toList)) ∧ Below w.heap.size w w' :=
  (sDirsCq s w hs).mono fun _ _ ⟨he, hw⟩ => ⟨he, Drawn.below hw⟩
theorem iDirsC (s : ByteArray) (w : World) (hs : s.size ≤ 1048576) :
    Calls Try.prog 16 #[.string s] w fun e w' => e = .returned (.int .i64 (chgZ s.data.toList)) ∧ Below w.heap.size w w' :=
  (iDirsCq s w hs).mono fun _ _ ⟨he, hw⟩ => ⟨he, Drawn.below hw⟩
end Go.Proofs.Ytejggpejmooegaa
