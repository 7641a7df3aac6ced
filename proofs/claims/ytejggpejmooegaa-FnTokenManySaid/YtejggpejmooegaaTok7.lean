/-
  Contracts of StaffRun, the program's and the reference's.
-/
import Derived.Test.YtejggpejmooegaaTok6
namespace Go.Proofs.Ytejggpejmooegaa
open Go.RowKit

theorem size_ne {a b : ByteArray} (h : ¬ a.size = b.size) : ((a.size : Int) != (b.size : Int)) = true := by
  rw [bne_iff_ne]; omega
theorem size_eq {a b : ByteArray} (h : a.size = b.size) : ((a.size : Int) != (b.size : Int)) = false := by
  rw [h]; simp
theorem eq83 {c : UInt8} (h : (c.toNat : Int) = 83) : ((c.toNat : Int) != 83) = false ∧ ((c.toNat : Int) == 83) = true := by simp [h]
theorem eq84 {c : UInt8} (h : (c.toNat : Int) = 84) : ((c.toNat : Int) != 83) = true ∧ ((c.toNat : Int) != 84) = false ∧ ((c.toNat : Int) == 83) = false := by simp [h]
theorem eqno {c : UInt8} (h : ¬ ((c.toNat : Int) = 83 ∨ (c.toNat : Int) = 84)) : ((c.toNat : Int) != 83) = true ∧ ((c.toNat : Int) != 84) = true := by
  simp only [bne_iff_ne]; omega
/-- How StaffRun's answer is told. -/
def soN (o : Option Int) : Int := o.getD 0
theorem soN_none : soN none = 0 := rfl
theorem soN_some (n : Int) : soN (some n) = n := rfl
set_option maxHeartbeats 1000000 in
theorem sStaffR (a : Int) (s t : ByteArray) (w : World) (hs : s.size ≤ 1048576) (_ht : t.size ≤ 1048576) :
    Calls Try.prog 41 #[.int .i64 a, .string s, .string t] w fun e w' => e = .returned (.tuple #[.int .i64 (soN (staffR a s.data.toList t.data.toList)), .bool (staffR a s.data.toList t.data.toList).isSome]) ∧ w = w' := by
  by_cases ha0 : a = 0 ∨ a = 1
  rotate_left
  · have hn := hide (staffR_at (D := s.data.toList) (K := t.data.toList) ha0)
    have ha := Lib.hid ha0
    clear ha0
    go_enter Try.func41, Try.ntmps41
    go_wp2_with (go_at_call 63; refine (sIn_no _ _ _ _ (zo_out ha.out)).mono ?_; rintro e w' ⟨rfl, rfl⟩)
    go_ret2
    exact ⟨ret_intb (by rw [hn.out]; rfl) (by rw [hn.out]; rfl), rfl⟩
  have hab := zo_in ha0
  have ha := Lib.hid ha0
  clear ha0
  cases hv : dirsV s.data.toList
  · have hn := hide (staffR_dir (a := a) (K := t.data.toList) hv)
    have hV := Lib.hid hv
    clear hv
    go_enter Try.func41, Try.ntmps41
    go_wp2_with (first
      | (go_at_call 63; refine (sIn_yes _ _ _ _ (zo_in ha.out)).mono ?_; rintro e w' ⟨rfl, rfl⟩)
      | (go_at_call 55; refine (sDirsV _ _ hs).mono ?_; rintro e w' ⟨rfl, rfl⟩; rw [hV.out]))
    go_ret2
    exact ⟨ret_intb (by rw [hn.out]; rfl) (by rw [hn.out]; rfl), rfl⟩
  have hlen := dirs_len hv
  by_cases hk0 : t.size = s.size
  rotate_left
  · have hn := hide (staffR_len (a := a) hk0)
    have hq := size_ne hk0
    have hV := Lib.hid hv
    clear hv hk0
    go_enter Try.func41, Try.ntmps41
    go_wp2_with (first
      | (go_at_call 63; refine (sIn_yes _ _ _ _ (zo_in ha.out)).mono ?_; rintro e w' ⟨rfl, rfl⟩)
      | (go_at_call 55; refine (sDirsV _ _ hs).mono ?_; rintro e w' ⟨rfl, rfl⟩; rw [hV.out]))
    go_ret2
    exact ⟨ret_intb (by rw [hn.out]; rfl) (by rw [hn.out]; rfl), rfl⟩
  have hn := hide (staffR_go ha.out hv hk0)
  have hq := size_eq hk0
  have hle : t.size ≤ s.size := by omega
  have hge : s.size ≤ t.size := by omega
  have hK := Lib.hid hk0
  have hV := Lib.hid hv
  clear hv hk0
  go_enter Try.func41, Try.ntmps41
  go_wp2_with (first
    | (go_at_call 63; refine (sIn_yes _ _ _ _ (zo_in ha.out)).mono ?_; rintro e w' ⟨rfl, rfl⟩)
    | (go_at_call 55; refine (sDirsV _ _ hs).mono ?_; rintro e w' ⟨rfl, rfl⟩; rw [hV.out]))
  go_loop [0, 8] (fun x i => ∃ (b : Int) (k : Nat), k ≤ s.size ∧ i = .int .i64 k ∧ x = .int .i64 b ∧ 0 ≤ b ∧ b ≤ 1 ∧ Hid (staffGo a s.data.toList t.data.toList = staffGo b (s.data.toList.drop k) (t.data.toList.drop k))) (fun _ i => s.size - (intOf i).toNat)
  case atStart => exact ⟨a, 0, Nat.zero_le _, rfl, rfl, hab.1, hab.2, by simp [Hid]⟩
  case round =>
    obtain ⟨b, k, hk, rfl, rfl, hb0, hb1, hG⟩ := hrel
    by_cases hlt : k < s.size
    · have hlt2 : k < t.size := by omega
      by_cases hE0 : endOf s[k] = b
      rotate_left
      · have hfin := hide (hG.out.trans (go_off b s t k hlt hlt2 hE0))
        generalize he : endOf s[k] = z at *
        have hE := Lib.hid he
        have hq : (z != b) = true := by simpa using hE0
        clear he hE0 hG
        go_wp2_with (go_at_call 64; refine (sEnd _ _).mono ?_; rintro e w' ⟨rfl, rfl⟩; rw [hE.out])
        go_ret2
        exact ⟨ret_intb (by rw [hn.out, hfin.out]; rfl) (by rw [hn.out, hfin.out]; rfl), rfl⟩
      by_cases h3 : (t[k].toNat : Int) = 83
      · have hst := hide (hG.out.trans (go_turn b s t k hlt hlt2 hE0 h3))
        have hE := Lib.hid hE0
        obtain ⟨q1, q2⟩ := eq83 h3
        clear hE0 hG h3
        go_wp2_with (go_at_call 64; refine (sEnd _ _).mono ?_; rintro e w' ⟨rfl, rfl⟩; rw [hE.out])
        go_round
        case rel => exact ⟨1 - b, k + 1, by omega, by go_num, rfl, by omega, by omega, hst⟩
        case measure => simp [intOf]; omega
      by_cases h4 : (t[k].toNat : Int) = 84
      · have hst := hide (hG.out.trans (go_stay b s t k hlt hlt2 hE0 h4))
        have hE := Lib.hid hE0
        obtain ⟨q1, q2, q3⟩ := eq84 h4
        clear hE0 hG h3 h4
        go_wp2_with (go_at_call 64; refine (sEnd _ _).mono ?_; rintro e w' ⟨rfl, rfl⟩; rw [hE.out])
        go_round
        case rel => exact ⟨b, k + 1, by omega, by go_num, rfl, by omega, by omega, hst⟩
        case measure => simp [intOf]; omega
      have h5 : ¬ ((t[k].toNat : Int) = 83 ∨ (t[k].toNat : Int) = 84) := by omega
      have hfin := hide (hG.out.trans (go_bad b s t k hlt hlt2 hE0 h5))
      have hE := Lib.hid hE0
      obtain ⟨q1, q2⟩ := eqno h5
      clear hE0 hG h3 h4 h5
      go_wp2_with (go_at_call 64; refine (sEnd _ _).mono ?_; rintro e w' ⟨rfl, rfl⟩; rw [hE.out])
      go_ret2
      exact ⟨ret_intb (by rw [hn.out, hfin.out]; rfl) (by rw [hn.out, hfin.out]; rfl), rfl⟩
    · obtain rfl : k = s.size := by omega
      have hfin := hide (hG.out.trans (go_end b s t s.size (Nat.le_refl _)))
      clear hG
      go_wp2
      go_ret2
      exact ⟨ret_intb (by rw [hn.out, hfin.out]; rfl) (by rw [hn.out, hfin.out]; rfl), rfl⟩
set_option maxHeartbeats 1000000 in
theorem iStaffR (a : Int) (s t : ByteArray) (w : World) (hs : s.size ≤ 1048576) (_ht : t.size ≤ 1048576) :
    Calls Try.prog 32 #[.int .i64 a, .string s, .string t] w fun e w' => e = .returned (.tuple #[.int .i64 (soN (staffR a s.data.toList t.data.toList)), .bool (staffR a s.data.toList t.data.toList).isSome]) ∧ w = w' := by
  by_cases ha0 : a = 0 ∨ a = 1
  rotate_left
  · have hn := hide (staffR_at (D := s.data.toList) (K := t.data.toList) ha0)
    have ha := Lib.hid ha0
    clear ha0
    go_enter Try.func32, Try.ntmps32
    go_wp2_with (go_at_call 61; refine (iIsEnd_no _ _ ha.out).mono ?_; rintro e w' ⟨rfl, rfl⟩)
    go_ret2
    exact ⟨ret_intb (by rw [hn.out]; rfl) (by rw [hn.out]; rfl), rfl⟩
  have hab := zo_in ha0
  have ha := Lib.hid ha0
  clear ha0
  cases hv : dirsV s.data.toList
  · have hn := hide (staffR_dir (a := a) (K := t.data.toList) hv)
    have hV := Lib.hid hv
    clear hv
    go_enter Try.func32, Try.ntmps32
    go_wp2_with (first
      | (go_at_call 61; refine (iIsEnd_yes _ _ ha.out).mono ?_; rintro e w' ⟨rfl, rfl⟩)
      | (go_at_call 54; refine (iDirsV _ _ hs).mono ?_; rintro e w' ⟨rfl, rfl⟩; rw [hV.out]))
    go_ret2
    exact ⟨ret_intb (by rw [hn.out]; rfl) (by rw [hn.out]; rfl), rfl⟩
  have hlen := dirs_len hv
  by_cases hk0 : t.size = s.size
  rotate_left
  · have hn := hide (staffR_len (a := a) hk0)
    have hq := size_ne hk0
    have hV := Lib.hid hv
    clear hv hk0
    go_enter Try.func32, Try.ntmps32
    go_wp2_with (first
      | (go_at_call 61; refine (iIsEnd_yes _ _ ha.out).mono ?_; rintro e w' ⟨rfl, rfl⟩)
      | (go_at_call 54; refine (iDirsV _ _ hs).mono ?_; rintro e w' ⟨rfl, rfl⟩; rw [hV.out]))
    go_ret2
    exact ⟨ret_intb (by rw [hn.out]; rfl) (by rw [hn.out]; rfl), rfl⟩
  have hn := hide (staffR_go ha.out hv hk0)
  have hq := size_eq hk0
  have hle : t.size ≤ s.size := by omega
  have hge : s.size ≤ t.size := by omega
  have hK := Lib.hid hk0
  have hV := Lib.hid hv
  clear hv hk0
  go_enter Try.func32, Try.ntmps32
  go_wp2_with (first
    | (go_at_call 61; refine (iIsEnd_yes _ _ ha.out).mono ?_; rintro e w' ⟨rfl, rfl⟩)
    | (go_at_call 54; refine (iDirsV _ _ hs).mono ?_; rintro e w' ⟨rfl, rfl⟩; rw [hV.out]))
  go_loop [27] (fun i => ∃ k : Nat, k ≤ t.size ∧ i = .int .i64 k ∧ Hid (stAll t k)) (fun i => t.size - (intOf i).toNat)
  case atStart => exact ⟨0, Nat.zero_le _, rfl, stAll_zero t⟩
  case round =>
    obtain ⟨k, hk, rfl, hA⟩ := hrel
    by_cases hlt : k < t.size
    · by_cases h3 : (t[k].toNat : Int) = 83
      · have hst := hide (stAll_step hA.out hlt (.inl h3))
        obtain ⟨q1, q2⟩ := eq83 h3
        clear hA h3
        go_wp2
        go_round
        case rel => exact ⟨k + 1, by omega, by go_num, hst⟩
        case measure => simp [intOf]; omega
      by_cases h4 : (t[k].toNat : Int) = 84
      · have hst := hide (stAll_step hA.out hlt (.inr h4))
        obtain ⟨q1, q2, q3⟩ := eq84 h4
        clear hA h3 h4
        go_wp2
        go_round
        case rel => exact ⟨k + 1, by omega, by go_num, hst⟩
        case measure => simp [intOf]; omega
      have h5 : ¬ ((t[k].toNat : Int) = 83 ∨ (t[k].toNat : Int) = 84) := by omega
      have hfin := hide (go_none_at a s t k hK.out hlt h5)
      obtain ⟨q1, q2⟩ := eqno h5
      clear hA h3 h4 h5
      go_wp2
      go_ret2
      exact ⟨ret_intb (by rw [hn.out, hfin.out]; rfl) (by rw [hn.out, hfin.out]; rfl), rfl⟩
    obtain rfl : k = t.size := by omega
    have hAll : Hid (stAll t t.size) := hA
    clear hA
    go_wp2
    go_loop [0, 43] (fun x i => ∃ (b : Int) (k : Nat), k ≤ s.size ∧ i = .int .i64 k ∧ x = .int .i64 b ∧ 0 ≤ b ∧ b ≤ 1 ∧ Hid (staffGo a s.data.toList t.data.toList = staffGo b (s.data.toList.drop k) (t.data.toList.drop k))) (fun _ i => s.size - (intOf i).toNat)
    case atStart => exact ⟨a, 0, Nat.zero_le _, rfl, rfl, hab.1, hab.2, by simp [Hid]⟩
    case round =>
      obtain ⟨b, k, hk, rfl, rfl, hb0, hb1, hG⟩ := hrel
      by_cases hlt : k < s.size
      · have hlt2 : k < t.size := by omega
        by_cases hE0 : endOf s[k] = b
        rotate_left
        · have hfin := hide (hG.out.trans (go_off b s t k hlt hlt2 hE0))
          generalize he : endOf s[k] = z at *
          have hE := Lib.hid he
          have hq : (z != b) = true := by simpa using hE0
          clear he hE0 hG
          go_wp2_with (go_at_call 62; refine (iEnd _ _).mono ?_; rintro e w' ⟨rfl, rfl⟩; rw [hE.out])
          go_ret2
          exact ⟨ret_intb (by rw [hn.out, hfin.out]; rfl) (by rw [hn.out, hfin.out]; rfl), rfl⟩
        by_cases h3 : (t[k].toNat : Int) = 83
        · have hst := hide (hG.out.trans (go_turn b s t k hlt hlt2 hE0 h3))
          have hE := Lib.hid hE0
          obtain ⟨q1, q2⟩ := eq83 h3
          clear hE0 hG h3
          go_wp2_with (go_at_call 62; refine (iEnd _ _).mono ?_; rintro e w' ⟨rfl, rfl⟩; rw [hE.out])
          go_round
          case rel => exact ⟨1 - b, k + 1, by omega, by go_num, rfl, by omega, by omega, hst⟩
          case measure => simp [intOf]; omega
        by_cases h4 : (t[k].toNat : Int) = 84
        · have hst := hide (hG.out.trans (go_stay b s t k hlt hlt2 hE0 h4))
          have hE := Lib.hid hE0
          obtain ⟨q1, q2, q3⟩ := eq84 h4
          clear hE0 hG h3 h4
          go_wp2_with (go_at_call 62; refine (iEnd _ _).mono ?_; rintro e w' ⟨rfl, rfl⟩; rw [hE.out])
          go_round
          case rel => exact ⟨b, k + 1, by omega, by go_num, rfl, by omega, by omega, hst⟩
          case measure => simp [intOf]; omega
        exact absurd (hAll.out k hlt2 (by omega)) (by omega)
      · obtain rfl : k = s.size := by omega
        have hfin := hide (hG.out.trans (go_end b s t s.size (Nat.le_refl _)))
        clear hG
        go_wp2
        go_ret2
        exact ⟨ret_intb (by rw [hn.out, hfin.out]; rfl) (by rw [hn.out, hfin.out]; rfl), rfl⟩
end Go.Proofs.Ytejggpejmooegaa
