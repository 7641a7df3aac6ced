/-
  Contract of the draw of a staff's run.
-/
import Derived.Test.YtejggpejmooegaaDraw3
namespace Go.Proofs.Ytejggpejmooegaa
open Go.RowKit
set_option linter.unusedVariables false

def DrawNTT (w : World) (e : Ending) (w' : World) : Prop := ∃ (a : Int) (s t : ByteArray), e = .returned (.tuple #[.int .i64 a, .string s, .string t]) ∧ (-100 ≤ a ∧ a ≤ 100) ∧ s.size ≤ 40 ∧ t.size ≤ 40 ∧ Below w.heap.size w w'
theorem kS_size (a : Int) (s : ByteArray) : (kS a s).size ≤ s.size := by
  unfold kS; split
  · rw [kindsTo_size]; omega
  · rw [baOf_size]; simp
set_option maxHeartbeats 4000000 in
theorem d_DrawStaffRun (A : Option Addr) (len cap : Nat) (w : World) (hA : BytesAt w.heap.size w A len) (hl : len ≤ 1048576) (hc : len ≤ cap) (hm : cap ≤ 9223372036854775807) :
    Calls Try.prog 40 #[.slice A len cap] w (DrawNTT w) := by
  go_enter Try.func40, Try.ntmps40
  go_wp2_with fail
  refine (open_any A len cap w hA hl hc hm).mono ?_
  rintro e w1 ⟨rfl, hR, hb⟩
  have hbz := hb.size
  go_wp2_with fail
  refine (dirs_any _ _ 0 8 w1 hR (by omega) (by omega) (by omega)).mono ?_
  rintro e w2 ⟨s, q, rfl, hs, hq, hR2, hg2⟩
  clear hR
  go_wp2_with fail
  refine (pick_any _ _ q 2 w2 hR2 (by omega) (by omega) (by omega)).mono ?_
  rintro e wX ⟨a, rfl, ha0, ha1, hR, hg3⟩
  have hg := gb_trans hg2 hg3
  clear hR2 hg2 hg3 w2
  obtain ⟨q, hq2, hR⟩ : ∃ q2, q2 ≤ 60 ∧ Rd w.heap.size wX w.heap.size q2 := ⟨_, by omega, hR⟩
  clear hq
  have hax : -10 ≤ a ∧ a ≤ 10 := by omega
  clear ha0 ha1
  have hzE : ∀ h : 0 < s.size, (0 : Int) ≤ endOf s[0] ∧ endOf s[0] ≤ 1 := fun h => endOf_bd _
  by_cases h0 : 0 < s.size
  rotate_left
  · have hd : decide ((0 : Int) < (s.size : Int)) = false := decide_eq_false (by omega)
    have hd2 : decide (0 < s.size) = false := decide_eq_false (by omega)
    clear hzE
    go_wp2_with fail
    refine (sKinds a s _ (by omega)).mono ?_
    rintro e wY ⟨rfl, hn⟩
    have hks := kS_size a s
    have hg := gb_below hg hn
    have hR := hR.call hn
    clear hn
    generalize kS a s = T at *
    cases hk : kB a s.data.toList
    · clear hk
      go_wp2
      go_loopw [10, 11] (fun o i wr => ∃ (t : ByteArray) (k q2 : Nat), k ≤ s.size ∧ i = .int .i64 k ∧ o = .string t ∧ t.size ≤ k ∧ q2 ≤ 70 + k ∧ Rd w.heap.size wr w.heap.size q2 ∧ w1.grownBy wr (some w.heap.size)) (fun _ i _ => s.size - (intOf i).toNat)
      case atStart => exact ⟨_, 0, _, Nat.zero_le _, rfl, rfl, Nat.le_refl _, by omega, hR, hg⟩
      case round =>
        clear hR hg
        obtain ⟨t, k, q2, hk, rfl, rfl, hts, hq3, hR, hg⟩ := hrel
        by_cases hlt : k < s.size
        · try (exfalso; omega)
          all_goals (
            have hltr := hR.lt
            go_wp2_with fail
            refine (of_any _ _ q2 wr.heap.size [⟨#[83]⟩, ⟨#[84]⟩] _ _ (hR.alloc _) (by omega) (by decide) (by decide) (Bx.new wr [.string ⟨#[83]⟩, .string ⟨#[84]⟩] _) (by omega)).mono ?_
            rintro e w9 ⟨s1, hm1, rfl, hR2, hg2⟩
            have hs1 : s1.size ≤ 1 := two_size hm1 (by decide) (by decide)
            clear hm1
            go_wp2
            go_roundw
            case rel => exact ⟨t ++ s1, k + 1, q2 + 1, by omega, by go_num, rfl, by rw [ByteArray.size_append]; omega, by omega, hR2, gb_trans (gb_alloc hg _) hg2⟩
            case measure => simp [intOf]; omega)
        · go_wp2_with fail
          refine (pick_any _ _ q2 16 _ hR (by omega) (by omega) (by omega)).mono ?_
          rintro e w9 ⟨u, rfl, hu0, hu1, hR2, hg2⟩
          obtain ⟨d, hdd, hd0, hd1⟩ := tdiv_at u 15 (by omega) hu0
          have hd' : Int.tdiv u 15 = d := hdd
          clear hdd
          go_wp2
          go_returns
          exact ⟨_, s, t, rfl, by omega, hs, by omega, gb_bl hb hbz (Nat.le_refl _) (gb_trans hg hg2)⟩
    · clear hk
      go_wp2_with fail
      refine (pick_any _ _ q 4 wY hR (by omega) (by omega) (by omega)).mono ?_
      rintro e wZ ⟨z, rfl, hz0, hz1, hR, hg3⟩
      have hg := gb_trans hg hg3
      by_cases hz : 0 < z
      · have hdz : decide (0 < z) = true := decide_eq_true hz
        go_wp2
        go_returns
        exact ⟨_, s, T, rfl, by omega, hs, by omega, gb_bl hb hbz (Nat.le_refl _) hg⟩
      · have hdz : decide (0 < z) = false := decide_eq_false hz
        go_wp2
        go_loopw [10, 11] (fun o i wr => ∃ (t : ByteArray) (k q2 : Nat), k ≤ s.size ∧ i = .int .i64 k ∧ o = .string t ∧ t.size ≤ k ∧ q2 ≤ 70 + k ∧ Rd w.heap.size wr w.heap.size q2 ∧ w1.grownBy wr (some w.heap.size)) (fun _ i _ => s.size - (intOf i).toNat)
        case atStart => exact ⟨_, 0, _, Nat.zero_le _, rfl, rfl, Nat.le_refl _, by omega, hR, hg⟩
        case round =>
          clear hR hg
          obtain ⟨t, k, q2, hk, rfl, rfl, hts, hq3, hR, hg⟩ := hrel
          by_cases hlt : k < s.size
          · try (exfalso; omega)
            all_goals (
              have hltr := hR.lt
              go_wp2_with fail
              refine (of_any _ _ q2 wr.heap.size [⟨#[83]⟩, ⟨#[84]⟩] _ _ (hR.alloc _) (by omega) (by decide) (by decide) (Bx.new wr [.string ⟨#[83]⟩, .string ⟨#[84]⟩] _) (by omega)).mono ?_
              rintro e w9 ⟨s1, hm1, rfl, hR2, hg2⟩
              have hs1 : s1.size ≤ 1 := two_size hm1 (by decide) (by decide)
              clear hm1
              go_wp2
              go_roundw
              case rel => exact ⟨t ++ s1, k + 1, q2 + 1, by omega, by go_num, rfl, by rw [ByteArray.size_append]; omega, by omega, hR2, gb_trans (gb_alloc hg _) hg2⟩
              case measure => simp [intOf]; omega)
          · go_wp2_with fail
            refine (pick_any _ _ q2 16 _ hR (by omega) (by omega) (by omega)).mono ?_
            rintro e w9 ⟨u, rfl, hu0, hu1, hR2, hg2⟩
            obtain ⟨d, hdd, hd0, hd1⟩ := tdiv_at u 15 (by omega) hu0
            have hd' : Int.tdiv u 15 = d := hdd
            clear hdd
            go_wp2
            go_returns
            exact ⟨_, s, t, rfl, by omega, hs, by omega, gb_bl hb hbz (Nat.le_refl _) (gb_trans hg hg2)⟩
  · have hd : decide ((0 : Int) < (s.size : Int)) = true := decide_eq_true (by omega)
    have hd2 : decide (0 < s.size) = true := decide_eq_true (by omega)
    have hE := Lib.hid (hzE h0)
    clear hzE
    go_wp2_with fail
    refine (pick_any _ _ q 4 wX hR (by omega) (by omega) (by omega)).mono ?_
    rintro e wX ⟨v, rfl, hv0, hv1, hR, hg3⟩
    have hg := gb_trans hg hg3
    clear hg3
    obtain ⟨q, hq2, hR⟩ : ∃ q2, q2 ≤ 62 ∧ Rd w.heap.size wX w.heap.size q2 := ⟨_, by omega, hR⟩
    by_cases hv : 0 < v
    · have hdv : decide (0 < v) = true := decide_eq_true hv
      go_wp2_with fail
      refine (sEnd _ _).mono ?_
      rintro e w' ⟨rfl, rfl⟩
      obtain ⟨hE0, hE1⟩ := hE.out
      generalize endOf s[0] = a at *
      have hax : -10 ≤ a ∧ a ≤ 10 := by omega
      clear hE0 hE1 hE
      go_wp2_with fail
      refine (sKinds a s _ (by omega)).mono ?_
      rintro e wY ⟨rfl, hn⟩
      have hks := kS_size a s
      have hg := gb_below hg hn
      have hR := hR.call hn
      clear hn
      generalize kS a s = T at *
      cases hk : kB a s.data.toList
      · clear hk
        go_wp2
        go_loopw [10, 11] (fun o i wr => ∃ (t : ByteArray) (k q2 : Nat), k ≤ s.size ∧ i = .int .i64 k ∧ o = .string t ∧ t.size ≤ k ∧ q2 ≤ 70 + k ∧ Rd w.heap.size wr w.heap.size q2 ∧ w1.grownBy wr (some w.heap.size)) (fun _ i _ => s.size - (intOf i).toNat)
        case atStart => exact ⟨_, 0, _, Nat.zero_le _, rfl, rfl, Nat.le_refl _, by omega, hR, hg⟩
        case round =>
          clear hR hg
          obtain ⟨t, k, q2, hk, rfl, rfl, hts, hq3, hR, hg⟩ := hrel
          by_cases hlt : k < s.size
          · try (exfalso; omega)
            all_goals (
              have hltr := hR.lt
              go_wp2_with fail
              refine (of_any _ _ q2 wr.heap.size [⟨#[83]⟩, ⟨#[84]⟩] _ _ (hR.alloc _) (by omega) (by decide) (by decide) (Bx.new wr [.string ⟨#[83]⟩, .string ⟨#[84]⟩] _) (by omega)).mono ?_
              rintro e w9 ⟨s1, hm1, rfl, hR2, hg2⟩
              have hs1 : s1.size ≤ 1 := two_size hm1 (by decide) (by decide)
              clear hm1
              go_wp2
              go_roundw
              case rel => exact ⟨t ++ s1, k + 1, q2 + 1, by omega, by go_num, rfl, by rw [ByteArray.size_append]; omega, by omega, hR2, gb_trans (gb_alloc hg _) hg2⟩
              case measure => simp [intOf]; omega)
          · go_wp2_with fail
            refine (pick_any _ _ q2 16 _ hR (by omega) (by omega) (by omega)).mono ?_
            rintro e w9 ⟨u, rfl, hu0, hu1, hR2, hg2⟩
            obtain ⟨d, hdd, hd0, hd1⟩ := tdiv_at u 15 (by omega) hu0
            have hd' : Int.tdiv u 15 = d := hdd
            clear hdd
            go_wp2
            go_returns
            exact ⟨_, s, t, rfl, by omega, hs, by omega, gb_bl hb hbz (Nat.le_refl _) (gb_trans hg hg2)⟩
      · clear hk
        go_wp2_with fail
        refine (pick_any _ _ q 4 wY hR (by omega) (by omega) (by omega)).mono ?_
        rintro e wZ ⟨z, rfl, hz0, hz1, hR, hg3⟩
        have hg := gb_trans hg hg3
        by_cases hz : 0 < z
        · have hdz : decide (0 < z) = true := decide_eq_true hz
          go_wp2
          go_returns
          exact ⟨_, s, T, rfl, by omega, hs, by omega, gb_bl hb hbz (Nat.le_refl _) hg⟩
        · have hdz : decide (0 < z) = false := decide_eq_false hz
          go_wp2
          go_loopw [10, 11] (fun o i wr => ∃ (t : ByteArray) (k q2 : Nat), k ≤ s.size ∧ i = .int .i64 k ∧ o = .string t ∧ t.size ≤ k ∧ q2 ≤ 70 + k ∧ Rd w.heap.size wr w.heap.size q2 ∧ w1.grownBy wr (some w.heap.size)) (fun _ i _ => s.size - (intOf i).toNat)
          case atStart => exact ⟨_, 0, _, Nat.zero_le _, rfl, rfl, Nat.le_refl _, by omega, hR, hg⟩
          case round =>
            clear hR hg
            obtain ⟨t, k, q2, hk, rfl, rfl, hts, hq3, hR, hg⟩ := hrel
            by_cases hlt : k < s.size
            · try (exfalso; omega)
              all_goals (
                have hltr := hR.lt
                go_wp2_with fail
                refine (of_any _ _ q2 wr.heap.size [⟨#[83]⟩, ⟨#[84]⟩] _ _ (hR.alloc _) (by omega) (by decide) (by decide) (Bx.new wr [.string ⟨#[83]⟩, .string ⟨#[84]⟩] _) (by omega)).mono ?_
                rintro e w9 ⟨s1, hm1, rfl, hR2, hg2⟩
                have hs1 : s1.size ≤ 1 := two_size hm1 (by decide) (by decide)
                clear hm1
                go_wp2
                go_roundw
                case rel => exact ⟨t ++ s1, k + 1, q2 + 1, by omega, by go_num, rfl, by rw [ByteArray.size_append]; omega, by omega, hR2, gb_trans (gb_alloc hg _) hg2⟩
                case measure => simp [intOf]; omega)
            · go_wp2_with fail
              refine (pick_any _ _ q2 16 _ hR (by omega) (by omega) (by omega)).mono ?_
              rintro e w9 ⟨u, rfl, hu0, hu1, hR2, hg2⟩
              obtain ⟨d, hdd, hd0, hd1⟩ := tdiv_at u 15 (by omega) hu0
              have hd' : Int.tdiv u 15 = d := hdd
              clear hdd
              go_wp2
              go_returns
              exact ⟨_, s, t, rfl, by omega, hs, by omega, gb_bl hb hbz (Nat.le_refl _) (gb_trans hg hg2)⟩
    · have hdv : decide (0 < v) = false := decide_eq_false hv
      clear hE
      go_wp2_with fail
      refine (sKinds a s _ (by omega)).mono ?_
      rintro e wY ⟨rfl, hn⟩
      have hks := kS_size a s
      have hg := gb_below hg hn
      have hR := hR.call hn
      clear hn
      generalize kS a s = T at *
      cases hk : kB a s.data.toList
      · clear hk
        go_wp2
        go_loopw [10, 11] (fun o i wr => ∃ (t : ByteArray) (k q2 : Nat), k ≤ s.size ∧ i = .int .i64 k ∧ o = .string t ∧ t.size ≤ k ∧ q2 ≤ 70 + k ∧ Rd w.heap.size wr w.heap.size q2 ∧ w1.grownBy wr (some w.heap.size)) (fun _ i _ => s.size - (intOf i).toNat)
        case atStart => exact ⟨_, 0, _, Nat.zero_le _, rfl, rfl, Nat.le_refl _, by omega, hR, hg⟩
        case round =>
          clear hR hg
          obtain ⟨t, k, q2, hk, rfl, rfl, hts, hq3, hR, hg⟩ := hrel
          by_cases hlt : k < s.size
          · try (exfalso; omega)
            all_goals (
              have hltr := hR.lt
              go_wp2_with fail
              refine (of_any _ _ q2 wr.heap.size [⟨#[83]⟩, ⟨#[84]⟩] _ _ (hR.alloc _) (by omega) (by decide) (by decide) (Bx.new wr [.string ⟨#[83]⟩, .string ⟨#[84]⟩] _) (by omega)).mono ?_
              rintro e w9 ⟨s1, hm1, rfl, hR2, hg2⟩
              have hs1 : s1.size ≤ 1 := two_size hm1 (by decide) (by decide)
              clear hm1
              go_wp2
              go_roundw
              case rel => exact ⟨t ++ s1, k + 1, q2 + 1, by omega, by go_num, rfl, by rw [ByteArray.size_append]; omega, by omega, hR2, gb_trans (gb_alloc hg _) hg2⟩
              case measure => simp [intOf]; omega)
          · go_wp2_with fail
            refine (pick_any _ _ q2 16 _ hR (by omega) (by omega) (by omega)).mono ?_
            rintro e w9 ⟨u, rfl, hu0, hu1, hR2, hg2⟩
            obtain ⟨d, hdd, hd0, hd1⟩ := tdiv_at u 15 (by omega) hu0
            have hd' : Int.tdiv u 15 = d := hdd
            clear hdd
            go_wp2
            go_returns
            exact ⟨_, s, t, rfl, by omega, hs, by omega, gb_bl hb hbz (Nat.le_refl _) (gb_trans hg hg2)⟩
      · clear hk
        go_wp2_with fail
        refine (pick_any _ _ q 4 wY hR (by omega) (by omega) (by omega)).mono ?_
        rintro e wZ ⟨z, rfl, hz0, hz1, hR, hg3⟩
        have hg := gb_trans hg hg3
        by_cases hz : 0 < z
        · have hdz : decide (0 < z) = true := decide_eq_true hz
          go_wp2
          go_returns
          exact ⟨_, s, T, rfl, by omega, hs, by omega, gb_bl hb hbz (Nat.le_refl _) hg⟩
        · have hdz : decide (0 < z) = false := decide_eq_false hz
          go_wp2
          go_loopw [10, 11] (fun o i wr => ∃ (t : ByteArray) (k q2 : Nat), k ≤ s.size ∧ i = .int .i64 k ∧ o = .string t ∧ t.size ≤ k ∧ q2 ≤ 70 + k ∧ Rd w.heap.size wr w.heap.size q2 ∧ w1.grownBy wr (some w.heap.size)) (fun _ i _ => s.size - (intOf i).toNat)
          case atStart => exact ⟨_, 0, _, Nat.zero_le _, rfl, rfl, Nat.le_refl _, by omega, hR, hg⟩
          case round =>
            clear hR hg
            obtain ⟨t, k, q2, hk, rfl, rfl, hts, hq3, hR, hg⟩ := hrel
            by_cases hlt : k < s.size
            · try (exfalso; omega)
              all_goals (
                have hltr := hR.lt
                go_wp2_with fail
                refine (of_any _ _ q2 wr.heap.size [⟨#[83]⟩, ⟨#[84]⟩] _ _ (hR.alloc _) (by omega) (by decide) (by decide) (Bx.new wr [.string ⟨#[83]⟩, .string ⟨#[84]⟩] _) (by omega)).mono ?_
                rintro e w9 ⟨s1, hm1, rfl, hR2, hg2⟩
                have hs1 : s1.size ≤ 1 := two_size hm1 (by decide) (by decide)
                clear hm1
                go_wp2
                go_roundw
                case rel => exact ⟨t ++ s1, k + 1, q2 + 1, by omega, by go_num, rfl, by rw [ByteArray.size_append]; omega, by omega, hR2, gb_trans (gb_alloc hg _) hg2⟩
                case measure => simp [intOf]; omega)
            · go_wp2_with fail
              refine (pick_any _ _ q2 16 _ hR (by omega) (by omega) (by omega)).mono ?_
              rintro e w9 ⟨u, rfl, hu0, hu1, hR2, hg2⟩
              obtain ⟨d, hdd, hd0, hd1⟩ := tdiv_at u 15 (by omega) hu0
              have hd' : Int.tdiv u 15 = d := hdd
              clear hdd
              go_wp2
              go_returns
              exact ⟨_, s, t, rfl, by omega, hs, by omega, gb_bl hb hbz (Nat.le_refl _) (gb_trans hg hg2)⟩
end Go.Proofs.Ytejggpejmooegaa
