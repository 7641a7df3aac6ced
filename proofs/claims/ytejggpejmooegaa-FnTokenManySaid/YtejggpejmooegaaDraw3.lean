/-
  Contracts of the draws of staffs, and of countOf.
-/
import Derived.Test.YtejggpejmooegaaDraw2
import Derived.Test.YtejggpejmooegaaTokC
import Derived.Test.YtejggpejmooegaaTokK
namespace Go.Proofs.Ytejggpejmooegaa
open Go.RowKit
set_option linter.unusedVariables false

/-- What a draw of a number and a text leaves. -/
def DrawNT (w : World) (e : Ending) (w' : World) : Prop := ∃ (a : Int) (s : ByteArray), e = .returned (.tuple #[.int .i64 a, .string s]) ∧ (-100 ≤ a ∧ a ≤ 100) ∧ s.size ≤ 40 ∧ Below w.heap.size w w'
theorem tdiv_at (v : Int) (m : Nat) (hm : 0 < m) (h : 0 ≤ v) : ∃ d : Int, Int.tdiv v (m : Int) = d ∧ 0 ≤ d ∧ d ≤ v := by
  refine ⟨_, rfl, ?_, ?_⟩
  · rw [Int.tdiv_eq_ediv_of_nonneg h]; exact Int.ediv_nonneg h (by omega)
  · rw [Int.tdiv_eq_ediv_of_nonneg h]; exact Int.ediv_le_self _ h
set_option maxHeartbeats 1000000 in
theorem d_DrawStaffKinds (A : Option Addr) (len cap : Nat) (w : World) (hA : BytesAt w.heap.size w A len) (hl : len ≤ 1048576) (hc : len ≤ cap) (hm : cap ≤ 9223372036854775807) :
    Calls Try.prog 43 #[.slice A len cap] w (DrawNT w) := by
  go_enter Try.func43, Try.ntmps43
  go_wp2_with fail
  refine (open_any A len cap w hA hl hc hm).mono ?_
  rintro e w1 ⟨rfl, hR, hb⟩
  go_wp2_with fail
  refine (pick_any _ _ 0 2 w1 hR (by omega) (by omega) (by omega)).mono ?_
  rintro e w2 ⟨v1, rfl, h10, h11, hR2, hg2⟩
  go_wp2_with fail
  refine (pick_any _ _ 1 16 w2 hR2 (by omega) (by omega) (by omega)).mono ?_
  rintro e w3 ⟨v2, rfl, h20, h21, hR3, hg3⟩
  obtain ⟨d, hd, hd0, hd1⟩ := tdiv_at v2 15 (by omega) h20
  have hd' : Int.tdiv v2 15 = d := hd
  clear hd
  go_wp2_with fail
  refine (dirs_any _ _ 2 8 w3 hR3 (by omega) (by omega) (by omega)).mono ?_
  rintro e w4 ⟨s, q, rfl, hs, hq, hR4, hg4⟩
  have hbz := hb.size
  go_wp2
  go_ret2
  exact ⟨_, s, rfl, by omega, hs, gb_bl hb hbz (Nat.le_refl _) (gb_trans hg2 (gb_trans hg3 hg4))⟩
theorem d_DrawStaffMany (A : Option Addr) (len cap : Nat) (w : World) (hA : BytesAt w.heap.size w A len) (hl : len ≤ 1048576) (hc : len ≤ cap) (hm : cap ≤ 9223372036854775807) :
    Calls Try.prog 29 #[.slice A len cap] w (DrawNT w) := by
  go_enter Try.func29, Try.ntmps29
  go_wp2_with fail
  refine (d_DrawStaffKinds A len cap w hA hl hc hm).mono ?_
  rintro e w1 ⟨a, s, rfl, ha, hs, hb⟩
  go_wp2
  go_ret2
  exact ⟨a, s, rfl, ha, hs, hb⟩
theorem cnt_snoc (s : ByteArray) (k : Nat) (h : k < s.size) (c : UInt8) : (s.data.toList.take (k + 1)).count c = (s.data.toList.take k).count c + if s[k] = c then 1 else 0 := by
  rw [take_snoc s k h, List.count_append, List.count_singleton]; simp
set_option maxHeartbeats 1000000 in
/-- countOf. -/
theorem cOf (s : ByteArray) (c : UInt8) (d : Int) (w : World) (hs : s.size ≤ 1048576) (hcd : (c.toNat : Int) = d) :
    Calls Try.prog 39 #[.string s, .int .u8 d] w fun e w' => e = .returned (.int .i64 (s.data.toList.count c : Int)) ∧ w = w' := by
  subst hcd
  go_enter Try.func39, Try.ntmps39
  go_wp2
  go_loopw [5, 6] (fun n i wr => ∃ k : Nat, k ≤ s.size ∧ i = .int .i64 k ∧ n = .int .i64 ((s.data.toList.take k).count c : Int) ∧ w = wr) (fun _ i _ => s.size - (intOf i).toNat)
  case atStart => exact ⟨0, Nat.zero_le _, rfl, by simp, rfl⟩
  case round =>
    obtain ⟨k, hk, rfl, rfl, rfl⟩ := hrel
    have hle : (s.data.toList.take k).count c ≤ k := Nat.le_trans List.count_le_length (List.length_take_le _ _)
    by_cases hlt : k < s.size
    · have hst := hide (cnt_snoc s k hlt c)
      by_cases hc : s[k] = c
      · have hd : ((s[k].toNat : Int) == (c.toNat : Int)) = true := by rw [hc]; simp
        have hst2 : Hid ((s.data.toList.take (k + 1)).count c = (s.data.toList.take k).count c + 1) := by
          have := hst; unfold Hid at this ⊢; rw [this, if_pos hc]
        clear hc hst
        go_wp2
        go_roundw
        case rel => exact ⟨k + 1, by omega, by go_num, by rw [hst2.out]; go_num, trivial⟩
        case measure => simp [intOf]; omega
      · have hd : ((s[k].toNat : Int) == (c.toNat : Int)) = false := beq_false_of_ne fun h => hc (byte_inj h)
        have hst2 : Hid ((s.data.toList.take (k + 1)).count c = (s.data.toList.take k).count c) := by
          have := hst; unfold Hid at this ⊢; rw [this, if_neg hc]; rfl
        clear hc hst
        go_wp2
        go_roundw
        case rel => exact ⟨k + 1, by omega, by go_num, by rw [hst2.out], trivial⟩
        case measure => simp [intOf]; omega
    · obtain rfl : k = s.size := by omega
      rw [take_all]
      go_wp2
      go_ret
      exact ⟨rfl, rfl⟩
end Go.Proofs.Ytejggpejmooegaa
