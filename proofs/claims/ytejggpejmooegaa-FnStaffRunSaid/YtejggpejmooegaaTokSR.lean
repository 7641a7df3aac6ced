/-
  The walk of FnStaffRun.
-/
import Derived.Test.YtejggpejmooegaaTokSRP
import Derived.Test.YtejggpejmooegaaTokSM
import Derived.Test.YtejggpejmooegaaDraw4
namespace Go.Proofs.Ytejggpejmooegaa
open Go.RowKit
set_option linter.unusedVariables false

theorem iStaffRo (a : Int) (s t : ByteArray) (o : Option Int) (w : World) (hs : s.size ≤ 1048576) (ht : t.size ≤ 1048576) (h : staffR a s.data.toList t.data.toList = o) :
    Calls Try.prog 32 #[.int .i64 a, .string s, .string t] w fun e w' => e = .returned (.tuple #[.int .i64 (soN o), .bool o.isSome]) ∧ w = w' := by
  subst h; exact iStaffR a s t w hs ht
theorem sStaffRo (a : Int) (s t : ByteArray) (o : Option Int) (w : World) (hs : s.size ≤ 1048576) (ht : t.size ≤ 1048576) (h : staffR a s.data.toList t.data.toList = o) :
    Calls Try.prog 41 #[.int .i64 a, .string s, .string t] w fun e w' => e = .returned (.tuple #[.int .i64 (soN o), .bool o.isSome]) ∧ w = w' := by
  subst h; exact sStaffR a s t w hs ht
set_option maxHeartbeats 2000000 in
theorem w_FnStaffRun (a0 : Option Addr) (len0 cap0 : Nat) (z0 : List Int) (w : World) (w0 : IsRow .u8 w a0 len0 cap0 z0) :
    Calls Try.prog 10 #[.slice a0 len0 cap0] w fun e w' => e = .returned (.bool true) ∧ Below w.heap.size w w' := by
  obtain ⟨hA, hc, hm⟩ := w0.bytes
  have hAH := Lib.hid hA
  clear w0 hA
  by_cases hs0 : 1048576 < len0
  · have hd0 : decide ((1048576 : Int) < (len0 : Int)) = true := by simp; omega
    go_enter Try.func10, Try.ntmps10
    go_wp2
    go_ret
    exact ⟨rfl, Below.refl _ _⟩
  have hd0 : decide ((1048576 : Int) < (len0 : Int)) = false := by simp; omega
  go_enter Try.func10, Try.ntmps10
  go_wp2_with fail
  refine (d_DrawStaffRun a0 len0 cap0 w hAH.out (by omega) hc hm).mono ?_
  rintro e w1 ⟨a, s, t, rfl, hab, hsz, htz, hb⟩
  clear hc hm hAH hs0 hd0
  cases hr : staffR a s.data.toList t.data.toList
  · have hR := Lib.hid hr
    clear hr
    go_wp2_with fail
    refine (iStaffRo a s t none _ (by omega) (by omega) hR.out).mono ?_
    rintro e w' ⟨rfl, rfl⟩
    go_wp2_with fail
    refine (sStaffRo a s t none _ (by omega) (by omega) hR.out).mono ?_
    rintro e w' ⟨rfl, rfl⟩
    go_wp2
    go_ret
    exact ⟨rfl, hb⟩
  · rename_i o
    have hR := Lib.hid hr
    obtain ⟨ha, ho, hv, hts, hsz2, hv2, hr2, hcn, hnx⟩ := sr_facts hr
    have hV := Lib.hid hv
    have hR2 := Lib.hid hr2
    have hN := Lib.hid hnx
    have hC := Lib.hid hcn
    have hT := Lib.hid hts
    have hS2 := Lib.hid hsz2
    clear hr hv hr2 hnx hcn hts hsz2 hv2
    go_wp2_with fail
    refine (iStaffRo a s t (some o) _ (by omega) (by omega) hR.out).mono ?_
    rintro e w' ⟨rfl, rfl⟩
    rw [soN_some]
    go_wp2_with fail
    refine (sStaffRo a s t (some o) _ (by omega) (by omega) hR.out).mono ?_
    rintro e w' ⟨rfl, rfl⟩
    rw [soN_some]
    go_wp2_with fail
    refine (iTurn s _ (by omega)).mono ?_
    rintro e w2 ⟨rfl, hn⟩
    rw [hV.out]
    have hb2 : Below w.heap.size w w2 := bl hb (Nat.le_refl _) hn
    clear hn hb
    have hA := Lib.hid ha
    have hO := Lib.hid ho
    have hax : -1 ≤ a ∧ a ≤ 1 := by omega
    have hox : -1 ≤ o ∧ o ≤ 1 := by omega
    clear ha ho
    go_wp2_with fail
    refine (iStaffRo (1 - a) (turnS s) t (some (1 - o)) _ (by rw [hS2.out]; omega) (by omega) hR2.out).mono ?_
    rintro e w' ⟨rfl, rfl⟩
    rw [soN_some]
    go_wp2
    go_loopw [14] (fun i wr => ∃ k : Nat, (k = 0 ∨ k + 1 ≤ s.size) ∧ i = .int .i64 ((k + 1 : Nat) : Int) ∧ Below w.heap.size w wr) (fun i _ => s.size - (intOf i).toNat)
    case atStart => exact ⟨0, .inl rfl, rfl, hb2⟩
    case round =>
      obtain ⟨k, hk, rfl, hb⟩ := hrel
      by_cases hlt : k + 1 < s.size
      · have h0 : (0 : Int) ≤ (k : Int) := by omega
        have h1 : (k : Int) < (s.size : Int) := by omega
        have h2 : (0 : Int) ≤ (k : Int) + 1 := by omega
        have ht2 : k < t.size := by rw [hT.out]; omega
        have ht3 : (k : Int) < (t.size : Int) := by omega
        have hiff := hN.out k hlt ht2
        by_cases he : s[k + 1] = s[k]
        · have hd := byte_eq he
          have hd2 : ((t[k].toNat : Int) == 83) = false := beq_false_of_ne fun x => hiff.1 he (byte_inj (d := 83) x)
          clear he hiff
          go_wp2
          go_region
          all_goals
            go_wp2
            go_roundw
            case rel => exact ⟨k + 1, .inr (by omega), by go_num, below_dn hb _⟩
            case measure => simp [intOf]; omega
        · have hd := byte_ne he
          have hd2 : ((t[k].toNat : Int) == 83) = true := by
            have : t[k] = 83 := Decidable.byContradiction fun x => he (hiff.2 x)
            rw [this]; rfl
          clear he hiff
          go_wp2
          go_region
          all_goals
            go_wp2
            go_roundw
            case rel => exact ⟨k + 1, .inr (by omega), by go_num, below_dn hb _⟩
            case measure => simp [intOf]; omega
      · go_wp2_with fail
        refine (cOf t 83 83 _ (by omega) rfl).mono ?_
        rintro e w' ⟨rfl, rfl⟩
        have hcb : t.data.toList.count 83 ≤ 40 := Nat.le_trans List.count_le_length (by simpa using htz)
        have hCC := hC.out
        generalize t.data.toList.count 83 = c at *
        obtain ⟨m1, m2, m3⟩ := mod2 c
        by_cases hp : c % 2 = 1
        · have hne : (o != a) = true := bne_iff_ne.2 (hCC.2 hp)
          rw [hp] at m1 m2
          clear hCC hp hC
          go_wp2
          go_ret
          exact ⟨rfl, hb⟩
        · have hne : (o != a) = false := by
            have : o = a := Decidable.byContradiction fun x => hp (hCC.1 x)
            rw [this]; simp
          have hp0 : c % 2 = 0 := by omega
          rw [hp0] at m1 m2
          clear hCC hp hp0 hC
          go_wp2
          go_ret
          exact ⟨rfl, hb⟩
end Go.Proofs.Ytejggpejmooegaa
